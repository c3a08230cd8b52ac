/- Merged: Place, Wi, WDk1, WDk2, WDk3, WDk4, WDkMap, WDk5, WDkRead. -/
import Derived.Test.YtfocnbmihcnaoaaGreatDoorSxGo
import Derived.Test.YtfocnbmihcnaoaaGreatDoorProg
import Derived.Lib.AppendStr
import Derived.Lib.Varint
import Derived.Laws.BytesArg
import Derived.Test.YtfocnbmihcnaoaaGreatDoorJSxEToSxR
import Derived.Laws.AppendOwn
import Derived.Test.YtfocnbmihcnaoaaGreatDoorShelf
import Derived.Sort.KeysCollected
namespace Go.Proofs.YtfocnbmihcnaoaaGreatDoor
set_option maxRecDepth 100000
namespace Wire
open Go Go.RowKit Sx
attribute [local irreducible] W Lst Qst Pu seqQ blkQ rndQ cutQ retQ Does Enters IntKind.wrap bits sb World.alloc World.putObj Blk
theorem h_Place (k n : Int) (w : World) (hn : 0 < n) (hn2 : n < 4611686018427387904) : Does Tryz.prog 7 #[.int .i64 k, .int .i64 n] w fun v w' => v = .int .i64 (k % n) ∧ w = w' := by
  refine Does_of (args := [.int .i64 k, .int .i64 n]) Tryz.func7 (by kernel_rfl) rfl rfl rfl rfl rfl ?_
  have h1 := Int.tmod_lt_of_pos k hn
  have h2 := Int.lt_tmod_of_pos k hn
  have h3 := Int.tmod_eq_emod (a := k) (b := n)
  have h4 := Int.emod_nonneg k (show n ≠ 0 by omega)
  have h5 := Int.emod_lt_of_pos k hn
  (repeat' (first | (apply W_seq) | (apply W_region) | (apply W_block) | (apply W_skip) | (apply W_ret) | (apply W_exit) | (apply W_cond_t; (focus rfl)) | (apply W_cond_f; (focus rfl)) | (apply Lst_nil) | (apply seqQ_n) | (apply seqQ_r) | (apply seqQ_e) | (apply blkQ_n) | (apply blkQ_r) | (apply blkQ_e) | (apply blkQ_o; (focus rfl)) | (apply rndQ_r) | (apply rndQ_e) | (apply cutQ_r) | (apply cutQ_e) | (apply Lst_guard_t; (focus rfl); (focus rfl)) | (apply Lst_guard_f; (focus rfl); (focus rfl); (focus rfl); (focus rfl)) | (apply Lst_guard_u; (focus rfl); (focus rfl); (focus rfl)) | (apply Lst_rangeS; (focus rfl); (focus rfl); (focus ((try simp only [Sx.sizes]); first | done | rfl)); (focus rfl)) | (apply Lst_alloc; (focus rfl); (focus rfl); (focus rfl); (focus ((try simp only [Sx.sizes]); first | done | rfl)); (focus rfl)) | (apply Lst_box; (focus constructor); (focus rfl); (focus ((try simp only [Sx.sizes]); first | done | rfl)); (focus rfl)) | (apply Lst_load; (focus rfl); (focus rfl); (focus rfl); (focus ((repeat (first | assumption | (apply Blk.below (hb := hb1); rotate_left; (focus ((try simp only [Sx.sizes]); omega)); rotate_right) | (apply Blk.below (hb := hb2); rotate_left; (focus ((try simp only [Sx.sizes]); omega)); rotate_right) | (apply Blk.below (hb := hb3); rotate_left; (focus ((try simp only [Sx.sizes]); omega)); rotate_right) | (apply Blk.below (hb := hb4); rotate_left; (focus ((try simp only [Sx.sizes]); omega)); rotate_right) | (apply Blk.below (hb := hb5); rotate_left; (focus ((try simp only [Sx.sizes]); omega)); rotate_right) | (apply Blk.below (hb := hb6); rotate_left; (focus ((try simp only [Sx.sizes]); omega)); rotate_right) | (apply Blk.below (hb := hb7); rotate_left; (focus ((try simp only [Sx.sizes]); omega)); rotate_right) | (apply Blk.below (hb := hb8); rotate_left; (focus ((try simp only [Sx.sizes]); omega)); rotate_right) | (apply Blk.below (hb := hb9); rotate_left; (focus ((try simp only [Sx.sizes]); omega)); rotate_right) | exact Blk.newE (by first | rfl | ((try simp only [Sx.sizes]); first | done | omega)) _ _ | exact Blk.put_same (by (try simp only [Sx.sizes]); first | done | omega) _ _ | (apply Blk.put_ne; (focus omega)) | apply Blk.alloc | apply Blk.drew)); done)); (focus rfl); (focus rfl)) | (apply Lst_loadc; (focus rfl); (focus rfl); (focus rfl); (focus assumption); (focus rfl)) | (apply Lst_store; (focus rfl); (focus constructor); (focus rfl); (focus rfl); (focus rfl); (focus rfl); (focus ((repeat (first | assumption | (apply Blk.below (hb := hb1); rotate_left; (focus ((try simp only [Sx.sizes]); omega)); rotate_right) | (apply Blk.below (hb := hb2); rotate_left; (focus ((try simp only [Sx.sizes]); omega)); rotate_right) | (apply Blk.below (hb := hb3); rotate_left; (focus ((try simp only [Sx.sizes]); omega)); rotate_right) | (apply Blk.below (hb := hb4); rotate_left; (focus ((try simp only [Sx.sizes]); omega)); rotate_right) | (apply Blk.below (hb := hb5); rotate_left; (focus ((try simp only [Sx.sizes]); omega)); rotate_right) | (apply Blk.below (hb := hb6); rotate_left; (focus ((try simp only [Sx.sizes]); omega)); rotate_right) | (apply Blk.below (hb := hb7); rotate_left; (focus ((try simp only [Sx.sizes]); omega)); rotate_right) | (apply Blk.below (hb := hb8); rotate_left; (focus ((try simp only [Sx.sizes]); omega)); rotate_right) | (apply Blk.below (hb := hb9); rotate_left; (focus ((try simp only [Sx.sizes]); omega)); rotate_right) | exact Blk.newE (by first | rfl | ((try simp only [Sx.sizes]); first | done | omega)) _ _ | exact Blk.put_same (by (try simp only [Sx.sizes]); first | done | omega) _ _ | (apply Blk.put_ne; (focus omega)) | apply Blk.alloc | apply Blk.drew)); done)); (focus ((repeat constructor); done))) | (apply Lst_pu; (focus (first | (apply P_neg; (focus rfl); (focus (first | assumption | exact wi64 (by omega) (by omega) | exact wu64 (by omega) (by omega) | exact wi32 (by omega) (by omega) | exact wu8 (by omega) (by omega) | rfl))) | (apply P_move; (focus constructor)) | (apply P_assign; (focus constructor)) | (apply P_ar; (focus rfl); (focus rfl); (focus rfl); (focus (first | assumption | exact wi64 (by omega) (by omega) | exact wu64 (by omega) (by omega) | exact wi32 (by omega) (by omega) | exact wu8 (by omega) (by omega) | rfl))) | (apply P_ct; (focus rfl); (focus rfl); (focus rfl); (focus (dsimp only [cmpP]; first | done | omega))) | (apply P_cf; (focus rfl); (focus rfl); (focus rfl); (focus (dsimp only [cmpP]; first | done | omega))) | (apply P_pick_t; (focus rfl); (focus constructor)) | (apply P_pick_f; (focus rfl); (focus constructor)) | (apply P_extract; (focus rfl); (focus rfl)) | (apply P_not; (focus rfl); (focus rfl)) | (apply P_slen; (focus rfl); (focus rfl)) | (apply P_llen; (focus rfl); (focus rfl)) | (apply P_beq; (focus rfl); (focus rfl); (focus rfl); (focus (first | exact beq_self_eq_true _ | rfl))) | (apply P_bne; (focus rfl); (focus rfl); (focus rfl); (focus (first | exact bne_self_eq_false _ | rfl))) | (apply P_sadd; (focus rfl); (focus rfl); (focus omega)) | (apply P_max; (focus rfl); (focus rfl)) | (apply P_min; (focus rfl); (focus rfl)) | (apply P_idx1; (focus rfl); (focus rfl); (focus rfl); (focus rfl); (focus rfl); (focus omega)) | (apply P_nilCheck; (focus rfl)) | (apply P_conv; (focus rfl); (focus rfl); (focus rfl); (focus (first | assumption | exact wi64 (by omega) (by omega) | exact wu64 (by omega) (by omega) | exact wi32 (by omega) (by omega) | exact wu8 (by omega) (by omega) | rfl))) | (apply P_sindex0; (focus rfl); (focus rfl); (focus rfl); (focus omega)) | (apply P_sindexN; (focus rfl); (focus rfl); (focus rfl); (focus omega)) | (apply P_sindex; (focus rfl); (focus rfl); (focus rfl); (focus omega); (focus omega)) | (apply P_makeFunc; (focus (repeat constructor)); (focus (repeat constructor))) | (apply P_seq_t; (focus rfl); (focus rfl); (focus (first | assumption | rfl))) | (apply P_seq_f; (focus rfl); (focus rfl); (focus assumption)) | (apply P_sne_t; (focus rfl); (focus rfl); (focus assumption)) | (apply P_sne_f; (focus rfl); (focus rfl); (focus (first | assumption | rfl))) | (apply P_lslice; (focus rfl); (focus rfl); (focus rfl); (focus rfl); (focus rfl); (focus rfl); (focus omega); (focus omega); (focus omega)) | (apply P_lslice_hi; (focus rfl); (focus rfl); (focus rfl); (focus rfl); (focus rfl); (focus omega); (focus omega)) | (apply P_lslice_lo; (focus rfl); (focus rfl); (focus rfl); (focus rfl); (focus rfl); (focus omega); (focus omega)) | (apply P_sslice_lo; (focus rfl); (focus rfl); (focus rfl); (focus omega); (focus omega)) | (apply P_sslice_hi; (focus rfl); (focus rfl); (focus rfl); (focus omega); (focus omega)) | (apply P_sslice; (focus rfl); (focus rfl); (focus rfl); (focus rfl); (focus omega); (focus omega); (focus omega)) | (apply P_quo; (focus rfl); (focus rfl); (focus omega); (focus rfl)) | (apply P_rem; (focus rfl); (focus rfl); (focus omega); (focus rfl)))); (focus rfl)) | (apply Lst_cs; (focus rfl); (focus rfl); (focus rfl); (focus rfl); all_goals (intro hc; dsimp only [cmpP] at hc))))
  · (apply retQ1; (focus rfl))
    refine ⟨?_, rfl⟩
    split at h3
    · omega
    · exact congrArg (Value.int .i64) (by omega)
  · (apply retQ1; (focus rfl))
    refine ⟨?_, rfl⟩
    split at h3
    · exact congrArg (Value.int .i64) (by omega)
    · omega
end Wire
namespace Wire
open Go Go.RowKit Sx
/-- A byte as a cell. -/
def bc (x : UInt8) : Value := .int .u8 (x.toNat : Int)
/-- Whatever lies below B stays, but for the block b. -/
structure Off (b B : Nat) (w w' : World) : Prop where
  os : w'.os = w.os
  tape : w'.tape = w.tape
  output : w'.output = w.output
  size : w.heap.size ≤ w'.heap.size
  block : ∀ g, g < B → g ≠ b → w'.heap[g]? = w.heap[g]?
  typed : ∀ K pl T, K ≠ b → T ≠ 5 → Blk w K pl T → Blk w' K pl T
theorem Off.refl (b B : Nat) (w : World) : Off b B w w := ⟨rfl, rfl, rfl, Nat.le_refl _, fun _ _ _ => rfl, fun _ _ _ _ _ h => h⟩
theorem Off.trans {b B : Nat} {x y z : World} (h : Off b B x y) (k : Off b B y z) : Off b B x z :=
  ⟨k.os.trans h.os, k.tape.trans h.tape, k.output.trans h.output, Nat.le_trans h.size k.size, fun g h1 h2 => (k.block g h1 h2).trans (h.block g h1 h2), fun K pl T h1 h2 h3 => k.typed K pl T h1 h2 (h.typed K pl T h1 h2 h3)⟩
theorem Off.below {b B N : Nat} {w w' : World} (h : Off b B w w') (hb : N ≤ b) (hB : N ≤ B) : Below N w w' :=
  ⟨h.os, h.tape, h.output, h.size, fun k hk => h.block k (by omega) (by omega)⟩
theorem own_typed {w : World} {B b nn T : Nat} {v : Value} {xs l : List Value} (h : w.ownsRow B 5 1 v nn xs) (hT : T ≠ 5) (hb : Blk w b l T) : v.ownBlock ≠ some b := by
  intro he
  obtain ⟨_, ⟨rfl, _⟩ | ⟨g, cap, cur, rfl, _, hg, _⟩⟩ := h
  · simp [Value.ownBlock] at he
  · simp only [Value.ownBlock, Option.some.injEq] at he
    subst he
    unfold Blk at hb
    rw [hb] at hg
    simp at hg
    exact hT hg.2
theorem Off.grown {b B : Nat} {w w' : World} {nn : Nat} {v : Value} {xs : List Value} (hown : w.ownsRow B 5 1 v nn xs) (hg : w.grownBy w' v.ownBlock) (hB : B ≤ w.heap.size) : Off b B w w' :=
  ⟨hg.os, hg.tape, hg.output, hg.size, fun g h1 _ => hg.block g (by omega) (fun e => by have := own_ne hown h1 g e.symm; omega), fun _ _ _ _ h2 h3 => h3.grown hg (fun k hk e => own_typed hown h2 h3 (by rw [hk, e]))⟩
theorem Off.put {b B : Nat} {x w : World} (h : Off b B x w) (o : Obj) : Off b B x (w.putObj b o) :=
  ⟨h.os, h.tape, h.output, by rw [World.putObj_size]; exact h.size, fun g h1 h2 => (World.putObj_heap_other h2).trans (h.block g h1 h2), fun K pl T h1 h2 h3 => (World.putObj_heap_other h1).trans (h.typed K pl T h1 h2 h3)⟩
/-- A writer in a block of its own, that holds these bytes; its row lies from B on. -/
def WrAt (b B : Nat) (l : List UInt8) (w : World) : Prop := B ≤ w.heap.size ∧ ∃ sv, Blk w b [sv] 86 ∧ w.ownsRow B 5 1 sv l.length (l.map bc) ∧ sv.ownBlock ≠ some b
theorem own_off {w : World} {B b nn : Nat} {v : Value} {xs l : List Value} (h : w.ownsRow B 5 1 v nn xs) (hb : Blk w b l 86) : v.ownBlock ≠ some b := by
  intro he
  obtain ⟨_, ⟨rfl, _⟩ | ⟨g, cap, cur, rfl, _, hg, _⟩⟩ := h
  · simp [Value.ownBlock] at he
  · simp only [Value.ownBlock, Option.some.injEq] at he
    subst he
    unfold Blk at hb
    rw [hb] at hg
    simp at hg
theorem WrAt.new (w : World) (B : Nat) (hB : B ≤ w.heap.size) : WrAt w.heap.size B [] (w.alloc (.cells [.slice none 0 0].toArray 86)) :=
  ⟨by rw [World.size_alloc]; omega, .slice none 0 0, Blk.newE rfl _ _, World.ownsRow_nil _ _ _ _, by simp [Value.ownBlock]⟩
theorem own_put' {w : World} {B b nn : Nat} {v : Value} {xs : List Value} (h : w.ownsRow B 5 1 v nn xs) (hne : v.ownBlock ≠ some b) (o : Obj) : (w.putObj b o).ownsRow B 5 1 v nn xs :=
  h.kept (row := some b) ⟨rfl, rfl, rfl, by rw [World.putObj_size]; exact Nat.le_refl _, fun k _ hk => World.putObj_heap_other (fun e => hk (by rw [e]))⟩ (.inr hne)
section rules
variable {P : Program} {rd : Option Nat} {n : Nat} {ops : Array Oper} {Q : Post} {rest : List Oper} {F : Fr} {ds : List Deferred} {w : World} {ty : TypeId} {pos : String} {after : Array Edge}
/-- append(b, s...) of a string. -/
theorem Lst_sappend {d : Nat} {s x : Operand} {t u e base nn : Nat} {i : TypeInfo} {v : Value} {xs : List Value} {str : ByteArray} (hown : w.ownsRow base e 1 v nn xs) (hs : ev F s = v) (hx : ev F x = .string str) (ht : P.underlying t = some (.slice e)) (hu : P.underlying u = some .string) (hi : P.info? e = some i) (hz : i.zero = some (.int .u8 0))
    (hsize : i.size = 1) (hby : i.bytes = 1) (hd : Nat.blt d n = true) (hbytes : nn + str.size ≤ 140737488355328) (hbase : base ≤ w.heap.size)
    (h : ∀ v' w', w'.ownsRow base e 1 v' (nn + str.size) (xs ++ Lib.strCells str) → w.grownBy w' v.ownBlock → Lst P rd n ops Q rest (upd F d v') ds w') :
    Lst P rd n ops Q (⟨some d, .call { callee := .builtin .append, args := #[s, x], argTypes := #[t, u] }, ty, pos, after, none⟩ :: rest) F ds w := by
  obtain ⟨v', w', hrun, h2, h3, h4⟩ := Lib.run_append_own_string (P := P) (w := w) base t u ty e i ht hu hi hz hsize hby v nn xs hown str (by simp only [maxLen]; omega) hbytes hbase
  refine Lst_value (v := v') (w' := w') rfl ?_ hd (h v' w' h2 h3)
  simp [execOp, resolve, invoke, builtin, hs, hx, hrun]
end rules
theorem or128 (n : Nat) : bits .or .u8 ((n % 256 : Nat) : Int) 128 = ((n % 128 + 128 : Nat) : Int) := by
  have e1 : (BitVec.ofInt 8 ((n % 256 : Nat) : Int)).toNat = n % 256 := by
    rw [BitVec.toNat_ofInt]; omega
  have e2 : (BitVec.ofInt 8 128).toNat = 128 := by decide
  show IntKind.u8.wrap ((BitVec.ofInt 8 ((n % 256 : Nat) : Int) ||| BitVec.ofInt 8 128).toNat : Int) = _
  rw [BitVec.toNat_or, e1, e2]
  have h : ∀ k : Fin 256, (k.1 ||| 128) = k.1 % 128 + 128 := by decide
  have := h ⟨n % 256, Nat.mod_lt _ (by omega)⟩
  simp only at this
  rw [this]
  rw [show n % 256 % 128 = n % 128 by omega]
  exact wu8 (by omega) (by omega)
theorem bc_of (n : Nat) (h : n < 256) : bc n.toUInt8 = .int .u8 (n : Int) := by
  unfold bc
  rw [show n.toUInt8.toNat = n % 256 from UInt8.toNat_ofNat ..]
  rw [Nat.mod_eq_of_lt h]
attribute [local irreducible] W Lst Qst Pu seqQ blkQ rndQ cutQ retQ Does Enters IntKind.wrap bits sb World.alloc World.putObj Blk
end Wire
namespace Wire
open Go Go.RowKit Sx
theorem xor_all (x : Nat) (h : x < 18446744073709551616) : bits .xor .u64 (x : Int) 18446744073709551615 = ((18446744073709551615 - x : Nat) : Int) := by
  have e2 : BitVec.ofInt 64 18446744073709551615 = BitVec.allOnes 64 := by decide
  show IntKind.u64.wrap ((BitVec.ofInt 64 (x : Int) ^^^ BitVec.ofInt 64 18446744073709551615).toNat : Int) = _
  rw [e2, BitVec.xor_allOnes, BitVec.toNat_not]
  have e1 : (BitVec.ofInt 64 (x : Int)).toNat = x := by
    rw [BitVec.toNat_ofInt]; omega
  rw [e1, show 2 ^ 64 - 1 - x = 18446744073709551615 - x by omega]
  exact wu64 (by omega) (by omega)
theorem xor_none (x : Nat) (h : x < 18446744073709551616) : bits .xor .u64 (x : Int) 0 = (x : Int) := by
  show IntKind.u64.wrap ((BitVec.ofInt 64 (x : Int) ^^^ BitVec.ofInt 64 0).toNat : Int) = _
  rw [show BitVec.ofInt 64 0 = 0#64 by decide, BitVec.xor_zero]
  have e1 : (BitVec.ofInt 64 (x : Int)).toNat = x := by
    rw [BitVec.toNat_ofInt]; omega
  rw [e1]
  exact wu64 (by omega) (by omega)
theorem zz_lt {n : Int} (h0 : -9223372036854775808 ≤ n) (h1 : n < 9223372036854775808) : Lib.zigzag n < 18446744073709551616 := by
  unfold Lib.zigzag
  split <;> omega
/-- The last k bytes of a number, the greatest first. -/
def fixN : Nat → Nat → List UInt8
  | 0, _ => []
  | k + 1, n => (n / 256 ^ k % 256).toUInt8 :: fixN k n
theorem fixN_length : ∀ k n, (fixN k n).length = k
  | 0, _ => rfl
  | k + 1, n => by simp [fixN, fixN_length k]
section rules
variable {P : Program} {rd : Option Nat} {n : Nat} {ops : Array Oper} {Q : Post} {rest : List Oper} {F : Fr} {ds : List Deferred} {w : World} {ty : TypeId} {pos : String} {after : Array Edge}
/-- Bytes behind a slice. -/
def nums (l : List UInt8) : List Int := l.map fun x => (x.toNat : Int)
theorem nums_map (l : List UInt8) : (nums l).map (Value.int .u8) = l.map bc := by
  unfold nums bc
  rw [List.map_map]
  rfl
/-- string(b) of bytes that are only read. -/
theorem Lst_bytesI {d t t' e : Nat} {x : Operand} {v : Value} {l : List UInt8} (hx : ev F x = v) (hv : Ints w .u8 v (nums l)) (ht : P.underlying t = some (.slice e)) (he : P.underlying e = some (.int .u8)) (ht' : P.underlying t' = some .string) (hd : Nat.blt d n = true)
    (h : Lst P rd n ops Q rest (upd F d (.string ⟨l.toArray⟩)) ds w) : Lst P rd n ops Q (⟨some d, .convert t t' x, ty, pos, after, none⟩ :: rest) F ds w := by
  obtain ⟨b, off, cap, h1, h2, h3⟩ := hv
  rcases h1 with rfl | ⟨⟨a0, rfl⟩, hz⟩
  · refine Lst_bytes (l := l) hx (by simp [nums]) ht he ht' (fun j hj => ?_) hd h
    have := h3 j (by simp [nums]; exact hj)
    rw [this]
    simp [nums]
  · have hl : l = [] := by simpa [nums] using hz
    subst hl
    refine Lst_value (v := .string ⟨[].toArray⟩) (w' := w) rfl ?_ hd h
    cases a0 with
    | none =>
      have := run_convert_bytes_nil (P := P) (w := w) t e ht he 0 0 t' ht'
      simp [execOp, hx, this]
      rfl
    | some a0 =>
      have := run_convert_bytes_back (P := P) w t t' e a0 0 [] ht he ht' (fun j hj => absurd hj (Nat.not_lt_zero _))
      rw [List.length_nil] at this
      simp [execOp, hx, this]
/-- []T{}: none. -/
theorem Lst_none {d t e B : Nat} {i : TypeInfo} (ht : P.underlying t = some (.slice e)) (hi : P.info? e = some i) (hB : w.heap.size = B) (hd : Nat.blt d n = true)
    (h : Lst P rd n ops Q rest (upd F d (.slice (some ⟨B, 0, none⟩) 0 0)) ds (w.alloc (.cells #[] e))) : Lst P rd n ops Q (⟨some d, .buildSlice t 0 #[], ty, pos, after, none⟩ :: rest) F ds w :=
  Lst_value rfl (by
    subst hB
    have hsz : (sizeOf e).run P w = .ok i.size w := by simp [sizeOf, typeInfo, hi]
    have e0 : Array.map (fun _ => (default : Value)) (Array.range 0) = #[] := by simp
    simp [execOp, Instr.buildSlice, run_underlying ht, hsz, Instr.fill, newRow]
    exact congrArg (fun x => w.alloc (.cells x e)) e0) hd h
theorem guard_slice_nil {op : BinOp} {t : TypeId} {x y : Operand} {b : Option Addr} {m c : Nat} : (eqGuard op t x y (.slice b m c) (.slice none 0 0)).run P w = .ok () w := by
  cases op <;> simp [eqGuard, Sem.run_pure]
theorem run_slice_nil {t te : TypeId} (b : Option Addr) (m c : Nat) (w : World) (ht : P.underlying t = some (.slice te)) : (Op.equal t (.slice b m c) (.slice none 0 0)).run P w = .ok b.isNone w := by
  have h : ∀ d : Nat, (Op.equalIn (d + 1) t (.slice b m c) (.slice none 0 0)).run P w = .ok b.isNone w := fun d => by
    cases b <;> simp [Op.equalIn, run_underlying ht]
  simp [Op.equal, Op.maxDepth, h 9999]
theorem P_slice_nil {t t' te : TypeId} {x y : Operand} {b : Option Addr} {m c : Nat} {r : Bool} (hx : ev F x = .slice b m c) (hy : ev F y = .slice none 0 0) (ht : P.underlying t = some (.slice te)) (hr : b.isNone = r) : Pu P F (.binOp .eql t x y t') ty (.bool r) :=
  fun _ _ _ w => bin_run hx hy guard_slice_nil (by
    subst hr
    have := run_slice_nil b m c w ht
    simp only [binOp, Sem.run_bind, this]
    rfl)
end rules
theorem wrap_0 : IntKind.u64.wrap 0 = 0 := by decide
theorem wrap_m1 : IntKind.u64.wrap (-1) = 18446744073709551615 := by decide
theorem shr_nn {n : Int} (h0 : 0 ≤ n) (h1 : n < 9223372036854775808) : n.fdiv (2 ^ (min (63 : Int).toNat IntKind.i64.bits)) = 0 := by
  rw [show (2 : Int) ^ (min (63 : Int).toNat IntKind.i64.bits) = 9223372036854775808 by decide, Int.fdiv_eq_ediv_of_nonneg _ (by decide)]
  omega
theorem shr_neg {n : Int} (h0 : n < 0) (h1 : -9223372036854775808 ≤ n) : n.fdiv (2 ^ (min (63 : Int).toNat IntKind.i64.bits)) = -1 := by
  rw [show (2 : Int) ^ (min (63 : Int).toNat IntKind.i64.bits) = 9223372036854775808 by decide, Int.fdiv_eq_ediv_of_nonneg _ (by decide)]
  omega
theorem pow8 (k : Nat) : (2 : Int) ^ (8 * k) = ((256 ^ k : Nat) : Int) := by
  rw [Int.pow_mul]
  simp
theorem shr8 (n j : Nat) (hj : j < 8) : ((n : Int)).fdiv (2 ^ (min ((8 * j : Nat) : Int).toNat IntKind.u64.bits)) = ((n / 256 ^ j : Nat) : Int) := by
  rw [Int.toNat_natCast, show min (8 * j) IntKind.u64.bits = 8 * j from Nat.min_eq_left (by show 8 * j ≤ 64; omega), pow8, Int.fdiv_eq_ediv_of_nonneg _ (Int.natCast_nonneg _)]
  exact (Int.natCast_ediv n (256 ^ j)).symm
theorem Blk_new (w : World) (e : TypeId) : (w.alloc (.cells #[] e)).heap[w.heap.size]? = some (.cells #[] e (0, 0)) := Blk.newE (l := []) rfl _
attribute [local irreducible] W Lst Qst Pu seqQ blkQ rndQ cutQ retQ Does Enters IntKind.wrap bits sb World.alloc World.putObj Blk
theorem c_FixedAt (b B : Nat) (l : List UInt8) (n : Nat) (w : World) (h : WrAt b B l w) (hlen : l.length + 20 ≤ 140737488355328) : Does Tryz.prog 42 #[.pointer (some ⟨b, 0, none⟩), .int .u64 (n : Int)] w fun v w' => v = .tuple #[] ∧ WrAt b B (l ++ fixN 8 n) w' ∧ Off b B w w' := by
  refine Does_of (args := [.pointer (some ⟨b, 0, none⟩), .int .u64 (n : Int)]) Tryz.func42 (by kernel_rfl) rfl rfl rfl rfl rfl ?_
  (refine Ga ?_)
  refine W_loop (α := Nat × List UInt8) (fun x => [(0, .pointer (some ⟨b, 0, none⟩)), (1, .int .u64 (n : Int)), (4, .int .i64 (8 * (x.1 : Int) - 8))])
    (fun x A => x.1 ≤ 8 ∧ x.2 ++ fixN x.1 n = l ++ fixN 8 n ∧ WrAt b B x.2 A ∧ Off b B w A) (fun x _ => x.1) (8, l) ⟨by simp, rfl, h, Off.refl _ _ _⟩ ⟨rfl, rfl, rfl, trivial⟩ ?_
  clear h
  rintro J ⟨j, k⟩ A ⟨hj, hk, h, hoff⟩
  dsimp only at hj hk h ⊢
  have hlen2 : k.length + j = l.length + 8 := by
    have e := congrArg List.length hk
    rw [List.length_append, List.length_append, fixN_length, fixN_length] at e
    exact e
  match j, hj, hk, hlen2 with
  | 0, _, hk, _ =>
    (refine Ga ?_)
    apply retQ0n
    rw [show fixN 0 n = [] from rfl, List.append_nil] at hk
    rw [← hk]
    exact ⟨rfl, h, hoff⟩
  | i + 1, hj, hk, hlen2 =>
    obtain ⟨hB, sv, hblk, hown, hne⟩ := h
    have hsh := shr8 n i (by omega)
    have hw1 : IntKind.u64.wrap (8 * ((i + 1 : Nat) : Int) - 8) = ((8 * i : Nat) : Int) := by
      rw [wu64 (by omega) (by omega)]; omega
    have hw8 : IntKind.u8.wrap ((n / 256 ^ i : Nat) : Int) = ((n / 256 ^ i % 256 : Nat) : Int) := by
      simp [IntKind.wrap, IntKind.signed, IntKind.bits]
    (refine Ga ?_)
    apply Lst_pu
    · apply P_shr
      focus rfl
      focus rfl
      focus omega
      exact hsh
    focus rfl
    (refine Ga ?_)
    apply Lst_push (hown := hown) (bytes := 1)
    ((focus constructor); (focus rfl); (focus rfl); (focus rfl); (focus rfl); (focus rfl); (focus rfl); (focus rfl); (focus rfl); (focus rfl); (focus rfl); (focus simp [Value.oneCell']); (focus rfl); (focus rfl); (focus rfl); (focus rfl); (focus omega); (focus omega); (focus omega))
    intro v' w2 ho' hg _
    have hblk2 := hblk.grown hg (fun k hk e => hne (by rw [hk, e]))
    have hne2 := own_off ho' hblk2
    have hoff2 : Off b B A w2 := Off.grown hown hg hB
    obtain ⟨v1, v2, v3, rfl⟩ := own_slice ho'
    (refine Ga ?_)
    refine rndQ_n (i, k ++ [(n / 256 ^ i % 256).toUInt8]) ⟨?_, ?_, ⟨?_, _, Blk.put_same hblk2.lt _ _, ?_, hne2⟩, ?_⟩ ⟨rfl, rfl, ?_, trivial⟩ ?_
    · dsimp only; omega
    · dsimp only
      rw [← hk, List.append_assoc]
      rfl
    · rw [World.putObj_size]
      exact Nat.le_trans hB hoff2.size
    · dsimp only
      rw [List.length_append, List.map_append]
      have := own_put' ho' hne2 (.cells [.slice v1 v2 v3].toArray 86)
      rw [List.map_singleton, bc_of _ (by omega)]
      exact this
    · exact (hoff.trans hoff2).put _
    · show Value.int .i64 _ = _
      congr 1
      omega
    · dsimp only
      omega
theorem c_CloneO (v : Value) (l : List UInt8) (hl : l.length ≤ 100000000) (w : World) (h : Ints w .u8 v (nums l)) : Does Tryz.prog 60 #[v] w fun u w' => w'.ownsRow w.heap.size 5 1 u l.length (l.map bc) ∧ Below w.heap.size w w' := by
  refine Does_of (args := [v]) Tryz.func60 (by kernel_rfl) rfl rfl rfl rfl rfl ?_
  obtain ⟨g, off, cap, h1, h2, h3⟩ := h
  rcases h1 with rfl | ⟨⟨a0, rfl⟩, hz⟩
  · (refine Ga ?_)
    apply Lst_pu
    · apply P_slice_nil
      focus rfl
      focus rfl
      focus rfl
      focus rfl
    focus rfl
    (refine Ga ?_)
    apply Lst_none
    focus rfl
    focus rfl
    focus rfl
    focus rfl
    (refine Ga ?_)
    have hlen : (nums l).length = l.length := by simp [nums]
    have hown : (w.alloc (.cells #[] 5)).ownsRow w.heap.size 5 1 (.slice (some ⟨w.heap.size, 0, none⟩) 0 0) 0 [] :=
      ⟨rfl, .inr ⟨w.heap.size, 0, #[], rfl, Nat.le_refl _, Blk_new w _, Nat.le_refl _, Nat.zero_le _, rfl, rfl⟩⟩
    apply Lst_append (hown := hown) (bytes := 1) (news := l.map bc)
    focus rfl
    focus rfl
    focus rfl
    focus rfl
    focus rfl
    focus rfl
    focus rfl
    focus rfl
    focus rfl
    focus (
      intro j u hu
      have hj : j < l.length := by
        have := (List.getElem?_eq_some_iff.1 hu).1
        simpa using this
      have hg : g < w.heap.size := h2 (fun e => by rw [e] at hlen; simp at hlen; omega)
      have h3' := h3 j (by omega)
      have hk : (w.alloc (.cells #[] 5)).cell? ⟨g, off + j, none⟩ = w.cell? ⟨g, off + j, none⟩ := ((Below.refl w.heap.size w).alloc (Nat.le_refl _) _).cell hg
      rw [hk, h3']
      rw [List.getElem?_map, List.getElem?_eq_getElem hj] at hu
      rw [← Option.some.inj hu]
      simp [nums, bc])
    focus (rw [List.length_map]; omega)
    focus (intro u hu; simp only [List.mem_map] at hu; obtain ⟨c, _, rfl⟩ := hu; rfl)
    focus omega
    focus omega
    focus (rw [World.size_alloc]; omega)
    focus rfl
    intro v' w2 ho' hg' _
    obtain ⟨v1, v2, v3, rfl⟩ := own_slice ho'
    (refine Ga ?_)
    (apply retQ1; (focus rfl))
    refine ⟨?_, ?_⟩
    · rw [List.nil_append, Nat.zero_add, hlen] at ho'
      exact ho'
    · exact Below.grown ((Below.refl w.heap.size w).alloc (Nat.le_refl _) _) hg' (by rw [World.size_alloc]; omega) (fun k hk => by
        have : w.heap.size = k := by simpa [Value.ownBlock] using hk
        omega)
  · have hn : l = [] := by simpa [nums] using hz
    subst hn
    cases a0 with
    | none =>
      (refine Ga ?_)
      apply Lst_pu
      · apply P_slice_nil
        focus rfl
        focus rfl
        focus rfl
        focus rfl
      focus rfl
      (refine Ga ?_)
      (apply retQ1; (focus rfl))
      exact ⟨World.ownsRow_nil _ _ _ _, Bel⟩
    | some a0 =>
      (refine Ga ?_)
      apply Lst_pu
      · apply P_slice_nil
        focus rfl
        focus rfl
        focus rfl
        focus rfl
      focus rfl
      (refine Ga ?_)
      apply Lst_none
      focus rfl
      focus rfl
      focus rfl
      focus rfl
      (refine Ga ?_)
      have hown : (w.alloc (.cells #[] 5)).ownsRow w.heap.size 5 1 (.slice (some ⟨w.heap.size, 0, none⟩) 0 0) 0 [] :=
        ⟨rfl, .inr ⟨w.heap.size, 0, #[], rfl, Nat.le_refl _, Blk_new w _, Nat.le_refl _, Nat.zero_le _, rfl, rfl⟩⟩
      apply Lst_append0 (hown := hown) (bytes := 1)
      focus rfl
      focus rfl
      focus rfl
      focus rfl
      focus rfl
      focus rfl
      focus rfl
      focus rfl
      focus rfl
      focus omega
      focus omega
      focus (rw [World.size_alloc]; omega)
      focus rfl
      intro v' w2 ho' hg'
      obtain ⟨v1, v2, v3, rfl⟩ := own_slice ho'
      (refine Ga ?_)
      (apply retQ1; (focus rfl))
      refine ⟨ho', ?_⟩
      exact Below.grown ((Below.refl w.heap.size w).alloc (Nat.le_refl _) _) hg' (by rw [World.size_alloc]; omega) (fun k hk => by
        have : w.heap.size = k := by simpa [Value.ownBlock] using hk
        omega)
theorem c_CloneC (v : Value) (l : List UInt8) (hl : l.length ≤ 100000000) (w : World) (h : Ints w .u8 v (nums l)) : Does Tryz.prog 60 #[v] w fun u w' => (Ints w' .u8 u (nums l) ∧ Below w.heap.size w w') ∧ ∃ a c, u = .slice a l.length c ∧ l.length ≤ c :=
  (c_CloneO v l hl w h).mono fun u w' h => ⟨⟨by
    have ho := h.1
    rw [← nums_map] at ho
    exact Ints.of_own ho, h.2⟩, own_form h.1⟩
theorem c_Clone (v : Value) (l : List UInt8) (hl : l.length ≤ 100000000) (w : World) (h : Ints w .u8 v (nums l)) : Does Tryz.prog 60 #[v] w fun u w' => Ints w' .u8 u (nums l) ∧ Below w.heap.size w w' :=
  (c_CloneC v l hl w h).mono fun _ _ h => h.1
theorem h_Bytes (u v : Value) (l k : List UInt8) (w : World) (h : Ints w .u8 u (nums l)) (h' : Ints w .u8 v (nums k)) : Does Tryz.prog 13 #[u, v] w fun r w' => r = .bool (decide (l = k)) ∧ w = w' := by
  refine Does_of (args := [u, v]) Tryz.func13 (by kernel_rfl) rfl rfl rfl rfl rfl ?_
  (refine Ga ?_)
  apply Lst_bytesI (l := l)
  focus rfl
  focus exact h
  focus rfl
  focus rfl
  focus rfl
  focus rfl
  (refine Ga ?_)
  apply Lst_bytesI (l := k)
  focus rfl
  focus exact h'
  focus rfl
  focus rfl
  focus rfl
  focus rfl
  by_cases he : l = k
  · have hs : (⟨l.toArray⟩ : ByteArray) = ⟨k.toArray⟩ := by rw [he]
    (refine Ga ?_)
    (apply retQ1; (focus rfl))
    exact ⟨by rw [decide_eq_true he]; rfl, rfl⟩
  · have hs : ¬ (⟨l.toArray⟩ : ByteArray) = ⟨k.toArray⟩ := fun e => he (by simpa using congrArg (fun x : ByteArray => x.data.toList) e)
    (refine Ga ?_)
    (apply retQ1; (focus rfl))
    exact ⟨by rw [decide_eq_false he]; rfl, rfl⟩
theorem c_WBytesO (b B : Nat) (l : List UInt8) (hl : l.length ≤ 100000000) (w : World) (h : WrAt b B l w) : Does Tryz.prog 44 #[.pointer (some ⟨b, 0, none⟩)] w fun u w' => w'.ownsRow w.heap.size 5 1 u l.length (l.map bc) ∧ Below w.heap.size w w' := by
  refine Does_of (args := [.pointer (some ⟨b, 0, none⟩)]) Tryz.func44 (by kernel_rfl) rfl rfl rfl rfl rfl ?_
  obtain ⟨hB, sv, hblk, hown, hne⟩ := h
  rw [← nums_map] at hown
  have hi := Ints.of_own hown
  obtain ⟨v1, v2, v3, rfl⟩ := own_slice hown
  (refine Ga ?_)
  (apply Lst_call; (focus rfl); (focus rfl))
  refine (c_CloneO _ l hl _ hi).mono ?_
  rintro u w1 ⟨hu, hb⟩
  obtain ⟨v4, v5, v6, rfl⟩ := own_slice hu
  (refine Ga ?_)
  (apply retQ1; (focus rfl))
  exact ⟨hu, hb⟩
theorem Ints.ofO {w : World} {B nn : Nat} {u : Value} {l : List UInt8} (h : w.ownsRow B 5 1 u nn (l.map bc)) : Ints w .u8 u (nums l) := by
  rw [← nums_map] at h
  exact Ints.of_own h
theorem c_WBytes (b B : Nat) (l : List UInt8) (hl : l.length ≤ 100000000) (w : World) (h : WrAt b B l w) : Does Tryz.prog 44 #[.pointer (some ⟨b, 0, none⟩)] w fun u w' => Ints w' .u8 u (nums l) ∧ Below w.heap.size w w' :=
  (c_WBytesO b B l hl w h).mono fun _ _ h => ⟨Ints.ofO h.1, h.2⟩
end Wire
namespace Dk
open Go Go.RowKit Sx Wire
/-- A file: its bytes; how many are synced. -/
structure Fl where
  b : List UInt8
  safe : Nat
/-- A disk. -/
structure Dsk where
  es : List (ByteArray × Fl)
  room : Int
  cut : Int
  dead : Bool
/-- How a file stands in memory. -/
def FileV (w : World) (v : Value) (f : Fl) : Prop := ∃ a n c, v = .agg #[.slice a n c, .int .i64 (f.safe : Int)] ∧ Ints w .u8 (.slice a n c) (nums f.b) ∧ n ≤ c ∧ f.safe ≤ f.b.length
def N8 (w : World) (b : Nat) : Prop := ∀ off z, w.cell? ⟨b, off, none⟩ ≠ some (.int .u8 z)
theorem Ints.len {w : World} {k : IntKind} {a : Option Addr} {n c : Nat} {zs : List Int} (h : Ints w k (.slice a n c) zs) : zs.length = n := by
  obtain ⟨b, off, cap, h1 | ⟨⟨a0, h1⟩, rfl⟩, _⟩ := h
  · cases h1; rfl
  · cases h1; rfl
theorem Ints.chg {bs : List Nat} {w w' : World} {v : Value} {zs : List Int} (h : Ints w .u8 v zs) (hc : Chg bs w w') (h8 : ∀ b ∈ bs, N8 w b) : Ints w' .u8 v zs := by
  obtain ⟨b, off, cap, h1, h2, h3⟩ := h
  refine ⟨b, off, cap, h1, fun hz => Nat.lt_of_lt_of_le (h2 hz) hc.size, fun j hj => ?_⟩
  have hlt := h2 (by intro e; subst e; simp at hj)
  have hn : b ∉ bs := fun hb => h8 b hb _ _ (h3 j hj)
  have e : w'.cell? ⟨b, off + j, none⟩ = w.cell? ⟨b, off + j, none⟩ := by
    simp only [World.cell?, hc.block b hlt hn]
  rw [e]
  exact h3 j hj
theorem FileV.chg {bs : List Nat} {w w' : World} {v : Value} {f : Fl} (h : FileV w v f) (hc : Chg bs w w') (h8 : ∀ b ∈ bs, N8 w b) : FileV w' v f := by
  obtain ⟨a, n, c, h1, h2, h3⟩ := h
  exact ⟨a, n, c, h1, Ints.chg h2 hc h8, h3⟩
/-- A disk at block p, its map at block mb. -/
def DkAt (w : World) (p mb : Nat) (d : Dsk) : Prop :=
  Blk w p [.map (some mb), .int .i64 d.room, .int .i64 d.cut, .bool d.dead] 49 ∧ MpAt w mb (FileV w) d.es
theorem N8.map {w : World} {mb : Nat} {α : Type} {R : Value → α → Prop} {es : List (ByteArray × α)} (h : MpAt w mb R es) : N8 w mb := fun off z => by rw [h.not_cells]; simp
theorem N8.it {w : World} {ib mb : Nat} {α : Type} {R : Value → α → Prop} {es l : List (ByteArray × α)} (h : ItAt w ib mb R es l) : N8 w ib := fun off z => by
  obtain ⟨arr, clock, seen, _, _, _, h4, _⟩ := h
  simp [World.cell?, h4]
theorem N8.blk {w : World} {p mb : Nat} {r c : Int} {d : Bool} {e : TypeId} (h : Blk w p [.map (some mb), .int .i64 r, .int .i64 c, .bool d] e) : N8 w p := fun off z => by
  rw [h.cell off]
  match off with
  | 0 => simp
  | 1 => simp
  | 2 => simp
  | 3 => simp
  | n + 4 => simp
theorem DkAt.n8 {w : World} {p mb : Nat} {d : Dsk} (h : DkAt w p mb d) : ∀ b ∈ [p, mb], N8 w b := by
  intro b hb
  simp only [List.mem_cons, List.not_mem_nil, or_false] at hb
  rcases hb with rfl | rfl
  · exact N8.blk h.1
  · exact N8.map h.2
theorem DkAt.ne {w : World} {p mb : Nat} {d : Dsk} (h : DkAt w p mb d) : p ≠ mb := by
  rintro rfl
  have := h.2.not_cells 0
  rw [h.1.cell 0] at this
  simp at this
/-- It stays, whatever else turns. -/
theorem DkAt.chg {bs : List Nat} {w w' : World} {p mb : Nat} {d : Dsk} (h : DkAt w p mb d) (hc : Chg bs w w') (hp : p ∉ bs) (hm : mb ∉ bs) (h8 : ∀ b ∈ bs, N8 w b) : DkAt w' p mb d :=
  ⟨hc.blk h.1 hp, h.2.mono (hc.block mb h.2.lt hm) fun _ _ hf => hf.chg hc h8⟩
theorem DkAt.below {w w' : World} {p mb : Nat} {d : Dsk} (h : DkAt w p mb d) (hb : Below w.heap.size w w') : DkAt w' p mb d := h.chg (bs := []) (.of hb) (by simp) (by simp) (by simp)
theorem DkAt.drew {w : World} {p mb : Nat} {d : Dsk} (h : DkAt w p mb d) : DkAt w.drew p mb d := h
/-- The cells of the struct turn. -/
theorem DkAt.cells {w w' : World} {p mb : Nat} {d d' : Dsk} (h : DkAt w p mb d) (hc : Chg [p] w w') (hb : Blk w' p [.map (some mb), .int .i64 d'.room, .int .i64 d'.cut, .bool d'.dead] 49) (he : d'.es = d.es) : DkAt w' p mb d' := by
  have hne := h.ne
  refine ⟨hb, ?_⟩
  rw [he]
  exact h.2.mono (hc.block mb h.2.lt (by simpa using Ne.symm hne)) fun _ _ hf => hf.chg hc (fun b hb => by
    obtain rfl : b = p := by simpa using hb
    exact N8.blk h.1)
def Dsk.isE (d : Dsk) (n : ByteArray) : Int := if d.dead then 43 else if (Sx.look d.es n).isNone then 40 else 0
def Dsk.done (d : Dsk) : Dsk := if 0 < d.cut then { d with cut := d.cut - 1, dead := decide (d.cut - 1 = 0) } else d
def nameOk (n : ByteArray) : Bool := decide (n ≠ ⟨#[]⟩) && decide (n.size ≤ 32)
def used : List (ByteArray × Fl) → Nat
  | [] => 0
  | p :: l => p.2.b.length + used l
theorem used_erase : ∀ (l : List (ByteArray × Fl)) (j : Nat) (q : ByteArray × Fl), l[j]? = some q → used l = q.2.b.length + used (l.eraseIdx j)
  | [], _, _, h => by simp at h
  | p :: l, 0, q, h => by
    obtain rfl : p = q := by simpa using h
    rfl
  | p :: l, j + 1, q, h => by
    have := used_erase l j q (by simpa using h)
    show p.2.b.length + used l = _
    rw [this]
    show _ = q.2.b.length + (p.2.b.length + used (l.eraseIdx j))
    omega
section rules
variable {P : Program} {rd : Option Nat} {n : Nat} {ops : Array Oper} {Q : Post} {rest : List Oper} {F : Fr} {ds : List Deferred} {w : World} {ty : TypeId} {pos : String} {after : Array Edge}
theorem Lst_makemap {d : Nat} {t : TypeId} (hd : Nat.blt d n = true) (h : Lst P rd n ops Q rest (upd F d (.map (some w.heap.size))) ds (w.alloc (.map #[] 0))) : Lst P rd n ops Q (⟨some d, .makeMap t none, ty, pos, after, none⟩ :: rest) F ds w :=
  Lst_value rfl (by simp [execOp, Instr.makeMap]) hd h
end rules
def fz : Value := .agg #[.slice none 0 0, .int .i64 0]
theorem fzero (w : World) : (zeroValue 73).run Tryz.prog w = .ok fz w := by
  have h : (Tryz.prog.info? 73).map (fun i => i.zero) = some (some fz) := by kernel_rfl
  obtain ⟨i, hi, hz⟩ := Option.map_eq_some_iff.1 h
  simp [zeroValue, typeInfo, hi, hz]
attribute [local irreducible] W Lst Qst Pu seqQ blkQ rndQ cutQ retQ Does Enters IntKind.wrap bits sb World.alloc World.putObj Blk
theorem c_New (room : Int) (w : World) : Does Tryz.prog 8 #[.int .i64 room] w fun v w' =>
    ∃ p mb, v = .pointer (some ⟨p, 0, none⟩) ∧ w.heap.size ≤ p ∧ w.heap.size ≤ mb ∧ DkAt w' p mb ⟨[], max room 0, -1, false⟩ ∧ Below w.heap.size w w' := by
  refine Does_of (args := [.int .i64 room]) Tryz.func8 (by kernel_rfl) rfl rfl rfl rfl rfl ?_
  (refine Ga ?_)
  apply Lst_makemap
  focus rfl
  (refine Ga ?_)
  (apply retQ1; (focus rfl))
  refine ⟨w.heap.size + 1, w.heap.size, rfl, by omega, Nat.le_refl _, ⟨(by (repeat (first | assumption | (apply Blk.below (hb := hb1); rotate_left; (focus ((try simp only [Sx.sizes]); omega)); rotate_right) | (apply Blk.below (hb := hb2); rotate_left; (focus ((try simp only [Sx.sizes]); omega)); rotate_right) | (apply Blk.below (hb := hb3); rotate_left; (focus ((try simp only [Sx.sizes]); omega)); rotate_right) | (apply Blk.below (hb := hb4); rotate_left; (focus ((try simp only [Sx.sizes]); omega)); rotate_right) | (apply Blk.below (hb := hb5); rotate_left; (focus ((try simp only [Sx.sizes]); omega)); rotate_right) | (apply Blk.below (hb := hb6); rotate_left; (focus ((try simp only [Sx.sizes]); omega)); rotate_right) | (apply Blk.below (hb := hb7); rotate_left; (focus ((try simp only [Sx.sizes]); omega)); rotate_right) | (apply Blk.below (hb := hb8); rotate_left; (focus ((try simp only [Sx.sizes]); omega)); rotate_right) | (apply Blk.below (hb := hb9); rotate_left; (focus ((try simp only [Sx.sizes]); omega)); rotate_right) | exact Blk.newE (by first | rfl | ((try simp only [Sx.sizes]); first | done | omega)) _ _ | exact Blk.put_same (by (try simp only [Sx.sizes]); first | done | omega) _ _ | (apply Blk.put_ne; (focus omega)) | apply Blk.alloc | apply Blk.drew)); done), ?_⟩, Bel⟩
  exact (MpAt.new w (FileV w)).mono ((MapKept.heap_alloc _ _).2 _ (by rw [World.size_alloc]; omega)) (fun v a h => h.chg (bs := []) (((Chg.refl _ _).alloc _).alloc _) (by simp))
theorem c_name (n : ByteArray) (w : World) : Does Tryz.prog 49 #[.string n] w fun v w' => v = .bool (nameOk n) ∧ w = w' := by
  refine Does_of (args := [.string n]) Tryz.func49 (by kernel_rfl) rfl rfl rfl rfl rfl ?_
  unfold nameOk
  by_cases h : n = ⟨#[]⟩
  · rw [decide_eq_false (by simpa using h)]
    (refine Ga ?_)
    (apply retQ1; (focus rfl))
    exact ⟨rfl, rfl⟩
  · rw [decide_eq_true (by simpa using h)]
    by_cases hs : n.size ≤ 32
    · rw [decide_eq_true hs]
      (refine Ga ?_)
      (apply retQ1; (focus rfl))
      exact ⟨rfl, rfl⟩
    · rw [decide_eq_false hs]
      (refine Ga ?_)
      (apply retQ1; (focus rfl))
      exact ⟨rfl, rfl⟩
theorem c_is (p mb : Nat) (d : Dsk) (n : ByteArray) (w : World) (h : DkAt w p mb d) : Does Tryz.prog 53 #[.pointer (some ⟨p, 0, none⟩), .string n] w fun v w' => v = .int .i64 (d.isE n) ∧ Below w.heap.size w w' := by
  refine Does_of (args := [.pointer (some ⟨p, 0, none⟩), .string n]) Tryz.func53 (by kernel_rfl) rfl rfl rfl rfl rfl ?_
  obtain ⟨hb, hm⟩ := h
  obtain ⟨es, room, cut, dead⟩ := d
  dsimp only at hb hm
  unfold Dsk.isE
  dsimp only
  cases dead
  · (refine Ga ?_)
    apply Lst_mapok (hmp := hm) (z := fz)
    focus rfl
    focus rfl
    focus rfl
    focus rfl
    focus exact fzero w
    focus rfl
    rintro v there (⟨h1, rfl, rfl⟩ | ⟨f, h1, ⟨a, m, c, rfl, _⟩, rfl⟩)
    · rw [h1]
      (refine Ga ?_)
      (apply retQ1; (focus rfl))
      exact ⟨rfl, Bel⟩
    · rw [h1]
      (refine Ga ?_)
      (apply retQ1; (focus rfl))
      exact ⟨rfl, Bel⟩
  · (refine Ga ?_)
    (apply retQ1; (focus rfl))
    exact ⟨rfl, Bel⟩
theorem c_done (p mb : Nat) (d : Dsk) (hc : d.cut < 9223372036854775808) (w : World) (h : DkAt w p mb d) : Does Tryz.prog 51 #[.pointer (some ⟨p, 0, none⟩)] w fun v w' => v = .int .i64 0 ∧ DkAt w' p mb d.done ∧ Chg [p] w w' := by
  refine Does_of (args := [.pointer (some ⟨p, 0, none⟩)]) Tryz.func51 (by kernel_rfl) rfl rfl rfl rfl rfl ?_
  have hb := h.1
  have hlt := hb.lt
  obtain ⟨es, room, cut, dead⟩ := d
  dsimp only at hb hc
  unfold Dsk.done
  dsimp only
  by_cases h0 : 0 < cut
  · rw [if_pos h0]
    by_cases h1 : cut - 1 = 0
    · (refine Ga ?_)
      (apply retQ1; (focus rfl))
      have hch : Chg [p] w ((w.putObj p (.cells #[.map (some mb), .int .i64 room, .int .i64 (cut - 1), .bool dead] 49)).putObj p (.cells #[.map (some mb), .int .i64 room, .int .i64 (cut - 1), .bool true] 49)) := ((Chg.refl _ _).put (by simp) _).put (by simp) _
      refine ⟨rfl, DkAt.cells h hch ?_ rfl, hch⟩
      rw [decide_eq_true h1]
      exact (by (repeat (first | assumption | (apply Blk.below (hb := hb1); rotate_left; (focus ((try simp only [Sx.sizes]); omega)); rotate_right) | (apply Blk.below (hb := hb2); rotate_left; (focus ((try simp only [Sx.sizes]); omega)); rotate_right) | (apply Blk.below (hb := hb3); rotate_left; (focus ((try simp only [Sx.sizes]); omega)); rotate_right) | (apply Blk.below (hb := hb4); rotate_left; (focus ((try simp only [Sx.sizes]); omega)); rotate_right) | (apply Blk.below (hb := hb5); rotate_left; (focus ((try simp only [Sx.sizes]); omega)); rotate_right) | (apply Blk.below (hb := hb6); rotate_left; (focus ((try simp only [Sx.sizes]); omega)); rotate_right) | (apply Blk.below (hb := hb7); rotate_left; (focus ((try simp only [Sx.sizes]); omega)); rotate_right) | (apply Blk.below (hb := hb8); rotate_left; (focus ((try simp only [Sx.sizes]); omega)); rotate_right) | (apply Blk.below (hb := hb9); rotate_left; (focus ((try simp only [Sx.sizes]); omega)); rotate_right) | exact Blk.newE (by first | rfl | ((try simp only [Sx.sizes]); first | done | omega)) _ _ | exact Blk.put_same (by (try simp only [Sx.sizes]); first | done | omega) _ _ | (apply Blk.put_ne; (focus omega)) | apply Blk.alloc | apply Blk.drew)); done)
    · (refine Ga ?_)
      (apply retQ1; (focus rfl))
      have hch : Chg [p] w ((w.putObj p (.cells #[.map (some mb), .int .i64 room, .int .i64 (cut - 1), .bool dead] 49)).putObj p (.cells #[.map (some mb), .int .i64 room, .int .i64 (cut - 1), .bool false] 49)) := ((Chg.refl _ _).put (by simp) _).put (by simp) _
      refine ⟨rfl, DkAt.cells h hch ?_ rfl, hch⟩
      rw [decide_eq_false h1]
      exact (by (repeat (first | assumption | (apply Blk.below (hb := hb1); rotate_left; (focus ((try simp only [Sx.sizes]); omega)); rotate_right) | (apply Blk.below (hb := hb2); rotate_left; (focus ((try simp only [Sx.sizes]); omega)); rotate_right) | (apply Blk.below (hb := hb3); rotate_left; (focus ((try simp only [Sx.sizes]); omega)); rotate_right) | (apply Blk.below (hb := hb4); rotate_left; (focus ((try simp only [Sx.sizes]); omega)); rotate_right) | (apply Blk.below (hb := hb5); rotate_left; (focus ((try simp only [Sx.sizes]); omega)); rotate_right) | (apply Blk.below (hb := hb6); rotate_left; (focus ((try simp only [Sx.sizes]); omega)); rotate_right) | (apply Blk.below (hb := hb7); rotate_left; (focus ((try simp only [Sx.sizes]); omega)); rotate_right) | (apply Blk.below (hb := hb8); rotate_left; (focus ((try simp only [Sx.sizes]); omega)); rotate_right) | (apply Blk.below (hb := hb9); rotate_left; (focus ((try simp only [Sx.sizes]); omega)); rotate_right) | exact Blk.newE (by first | rfl | ((try simp only [Sx.sizes]); first | done | omega)) _ _ | exact Blk.put_same (by (try simp only [Sx.sizes]); first | done | omega) _ _ | (apply Blk.put_ne; (focus omega)) | apply Blk.alloc | apply Blk.drew)); done)
  · rw [if_neg h0]
    (refine Ga ?_)
    (apply retQ1; (focus rfl))
    exact ⟨rfl, h, .refl _ _⟩
theorem c_Dead (p mb : Nat) (d : Dsk) (w : World) (h : DkAt w p mb d) : Does Tryz.prog 17 #[.pointer (some ⟨p, 0, none⟩)] w fun v w' => v = .bool d.dead ∧ w = w' := by
  refine Does_of (args := [.pointer (some ⟨p, 0, none⟩)]) Tryz.func17 (by kernel_rfl) rfl rfl rfl rfl rfl ?_
  have hb := h.1
  have hlt := hb.lt
  (refine Ga ?_)
  (apply retQ1; (focus rfl))
  exact ⟨rfl, rfl⟩
theorem c_Cut (p mb : Nat) (d : Dsk) (n : Int) (w : World) (h : DkAt w p mb d) : Does Tryz.prog 16 #[.pointer (some ⟨p, 0, none⟩), .int .i64 n] w fun v w' => v = .tuple #[] ∧ DkAt w' p mb { d with cut := max n (-1), dead := d.dead || decide (n = 0) } ∧ Chg [p] w w' := by
  refine Does_of (args := [.pointer (some ⟨p, 0, none⟩), .int .i64 n]) Tryz.func16 (by kernel_rfl) rfl rfl rfl rfl rfl ?_
  have hb := h.1
  have hlt := hb.lt
  by_cases h0 : n = 0
  · (refine Ga ?_)
    apply retQ0n
    refine ⟨rfl, DkAt.cells h (((Chg.refl _ _).put (by simp) _).put (by simp) _) ?_ rfl, ((Chg.refl _ _).put (by simp) _).put (by simp) _⟩
    rw [decide_eq_true h0, Bool.or_true]
    exact (by (repeat (first | assumption | (apply Blk.below (hb := hb1); rotate_left; (focus ((try simp only [Sx.sizes]); omega)); rotate_right) | (apply Blk.below (hb := hb2); rotate_left; (focus ((try simp only [Sx.sizes]); omega)); rotate_right) | (apply Blk.below (hb := hb3); rotate_left; (focus ((try simp only [Sx.sizes]); omega)); rotate_right) | (apply Blk.below (hb := hb4); rotate_left; (focus ((try simp only [Sx.sizes]); omega)); rotate_right) | (apply Blk.below (hb := hb5); rotate_left; (focus ((try simp only [Sx.sizes]); omega)); rotate_right) | (apply Blk.below (hb := hb6); rotate_left; (focus ((try simp only [Sx.sizes]); omega)); rotate_right) | (apply Blk.below (hb := hb7); rotate_left; (focus ((try simp only [Sx.sizes]); omega)); rotate_right) | (apply Blk.below (hb := hb8); rotate_left; (focus ((try simp only [Sx.sizes]); omega)); rotate_right) | (apply Blk.below (hb := hb9); rotate_left; (focus ((try simp only [Sx.sizes]); omega)); rotate_right) | exact Blk.newE (by first | rfl | ((try simp only [Sx.sizes]); first | done | omega)) _ _ | exact Blk.put_same (by (try simp only [Sx.sizes]); first | done | omega) _ _ | (apply Blk.put_ne; (focus omega)) | apply Blk.alloc | apply Blk.drew)); done)
  · (refine Ga ?_)
    apply retQ0n
    refine ⟨rfl, DkAt.cells h ((Chg.refl _ _).put (by simp) _) ?_ rfl, (Chg.refl _ _).put (by simp) _⟩
    rw [decide_eq_false h0, Bool.or_false]
    exact (by (repeat (first | assumption | (apply Blk.below (hb := hb1); rotate_left; (focus ((try simp only [Sx.sizes]); omega)); rotate_right) | (apply Blk.below (hb := hb2); rotate_left; (focus ((try simp only [Sx.sizes]); omega)); rotate_right) | (apply Blk.below (hb := hb3); rotate_left; (focus ((try simp only [Sx.sizes]); omega)); rotate_right) | (apply Blk.below (hb := hb4); rotate_left; (focus ((try simp only [Sx.sizes]); omega)); rotate_right) | (apply Blk.below (hb := hb5); rotate_left; (focus ((try simp only [Sx.sizes]); omega)); rotate_right) | (apply Blk.below (hb := hb6); rotate_left; (focus ((try simp only [Sx.sizes]); omega)); rotate_right) | (apply Blk.below (hb := hb7); rotate_left; (focus ((try simp only [Sx.sizes]); omega)); rotate_right) | (apply Blk.below (hb := hb8); rotate_left; (focus ((try simp only [Sx.sizes]); omega)); rotate_right) | (apply Blk.below (hb := hb9); rotate_left; (focus ((try simp only [Sx.sizes]); omega)); rotate_right) | exact Blk.newE (by first | rfl | ((try simp only [Sx.sizes]); first | done | omega)) _ _ | exact Blk.put_same (by (try simp only [Sx.sizes]); first | done | omega) _ _ | (apply Blk.put_ne; (focus omega)) | apply Blk.alloc | apply Blk.drew)); done)
theorem c_Used (p mb : Nat) (d : Dsk) (hu : used d.es < 4611686018427387904) (w : World) (h : DkAt w p mb d) : Does Tryz.prog 50 #[.pointer (some ⟨p, 0, none⟩)] w fun v w' => v = .int .i64 (used d.es : Int) ∧ Below w.heap.size w w' := by
  refine Does_of (args := [.pointer (some ⟨p, 0, none⟩)]) Tryz.func50 (by kernel_rfl) rfl rfl rfl rfl rfl ?_
  obtain ⟨hb, hm⟩ := h
  (refine Ga ?_)
  apply Lst_maprange (hmp := hm)
  focus rfl
  focus rfl
  focus rfl
  intro w1 hit hb1 hs1
  (refine Ga ?_)
  refine W_loop (α := Nat × List (ByteArray × Fl)) (fun x => [(3, .int .i64 (x.1 : Int)), (10, .pointer (some ⟨w.heap.size, 0, none⟩))])
    (fun x A => ItAt A w.heap.size mb (FileV A) d.es x.2 ∧ x.1 + used x.2 = used d.es ∧ Below w.heap.size w A ∧ w.heap.size < A.heap.size) (fun x _ => x.2.length) (0, d.es)
    ⟨hit.mono rfl rfl (fun v a hv => hv.chg (bs := []) (.of hb1) (by simp)), by simp, hb1, by omega⟩ ⟨rfl, rfl, trivial⟩ ?_
  clear hit hb1 hs1 w1
  rintro J ⟨acc, left⟩ A ⟨hit, hacc, hbA, hsA⟩
  dsimp only at hit hacc ⊢
  (refine Ga ?_)
  apply Lst_mapnext (hit := hit)
  focus rfl
  focus rfl
  · intro hl
    subst hl
    (refine Ga ?_)
    (apply retQ1; (focus rfl))
    exact ⟨by rw [← hacc]; rfl, hbA⟩
  · rintro j q v A' hq hv hit' hcur hch hsz
    have hu1 := used_erase left j q hq
    (refine Ga ?_)
    apply Lst_mapentry (hit := hcur)
    focus rfl
    focus rfl
    rintro v' ⟨a, m, c, rfl, hi, hmc, hsf⟩
    have hm' : m = q.2.b.length := by have := Ints.len hi; rw [← this]; simp [nums]
    (refine Ga ?_)
    have bX : Below A'.heap.size A' ((A'.alloc (.cells #[.slice none 0 0, .int .i64 0] 73)).putObj A'.heap.size (.cells #[.slice a m c, .int .i64 (q.2.safe : Int)] 73)) := Bel
    have cX := hch.trans (Chg.of bX)
    have hlt := (List.getElem?_eq_some_iff.1 hq).1
    refine rndQ_n (acc + m, left.eraseIdx j) ⟨hit'.mono (bX.block _ hit'.map.lt) (bX.block _ hit'.lt) (fun v a hv => hv.chg cX (fun b hb => ?_)), ?_, hbA.trans (cX.below (fun b hb => ?_) (by omega)), ?_⟩ ⟨?_, rfl, trivial⟩ ?_
    · obtain rfl : b = w.heap.size := by simpa using hb
      exact N8.it hit
    · dsimp only
      omega
    · obtain rfl : b = w.heap.size := by simpa using hb
      exact Nat.le_refl _
    · exact Nat.lt_of_lt_of_le hsA cX.size
    · show Value.int .i64 ((acc : Int) + (m : Int)) = Value.int .i64 ((acc + m : Nat) : Int)
      rw [Int.natCast_add]
    · dsimp only
      rw [List.length_eraseIdx, if_pos hlt]
      omega
end Dk
namespace Dk
open Go Go.RowKit Sx Wire
theorem own_cap {w : World} {base nn : Nat} {e : TypeId} {size : Nat} {v : Value} {xs : List Value} (h : w.ownsRow base e size v nn xs) : ∃ a c, v = .slice a nn c ∧ nn ≤ c := by
  obtain ⟨_, ⟨rfl, rfl⟩ | ⟨g, cap, cur, rfl, _, _, hc, _⟩⟩ := h
  · exact ⟨_, _, rfl, Nat.le_refl _⟩
  · exact ⟨_, _, rfl, hc⟩
section rules
variable {P : Program} {rd : Option Nat} {n : Nat} {ops : Array Oper} {Q : Post} {rest : List Oper} {F : Fr} {ds : List Deferred} {w : World} {ty : TypeId} {pos : String} {after : Array Edge}
theorem run_append_make (t ti ty e : TypeId) (i : TypeInfo) (z : Value) (m : Nat) {q : IntKind} (ht : P.underlying t = some (.slice e)) (hti : P.underlying ti = some (.int q)) (hi : P.info? e = some i) (hz : i.zero = some z) (hs : i.size = 1) (hby : i.bytes = 1)
    (h0 : 0 < m) (h40 : m ≤ 1099511627776) :
    (Builtin.append_ #[t, ti] ty #[.slice none 0 0, .int .i64 (m : Int)]).run P w =
      .ok (.slice (some ⟨w.heap.size, 0, none⟩) m (grownCap w m 0 e)) (w.drew.alloc (.cells (Builtin.zeroCells z.cells m ++ Builtin.zeroCells z.cells (grownCap w m 0 e - m)) e)) := by
  have hn : m ≠ 0 := by omega
  have hw : IntKind.i64.wrap (m : Int) = (m : Int) := wi64 (by omega) (by omega)
  have h48' : ¬ (281474976710656 < Builtin.nextslicecap m 0) := by rw [nextslicecap_zero h0]; omega
  have h1 : ¬ ((m : Int) < 0) := by omega
  have h2 : ¬ (281474976710656 < (m : Int)) := by omega
  have h63' : ¬ (9223372036854775807 < (m : Int)) := by omega
  simp [Builtin.append_, run_underlying ht, run_underlying hti, sizeOf, typeInfo, zeroValue, hi, hz, hs, hby, asInt, asIntOf, hw, h1, h2, hn, h63', h48', Question.forced, Builtin.firstCells, newRow, grownCap]
theorem Lst_appmake {d m : Nat} {s y : Operand} {t ti e : TypeId} {i : TypeInfo} {z : Value} {q : IntKind} (hs' : ev F s = .slice none 0 0) (hy : ev F y = .int .i64 (m : Int)) (ht : P.underlying t = some (.slice e)) (hti : P.underlying ti = some (.int q)) (hi : P.info? e = some i) (hz : i.zero = some z) (hs : i.size = 1) (hby : i.bytes = 1) (hz1 : z.cells.size = 1) (hd : Nat.blt d n = true)
    (h0 : 0 < m) (h40 : m ≤ 1099511627776)
    (h : ∀ cap cur w', m ≤ cap → cap ≤ maxLen → w'.heap[w.heap.size]? = some (.cells cur e (0, 0)) → cur.size = cap → Below w.heap.size w w' → w'.heap.size = w.heap.size + 1 → Lst P rd n ops Q rest (upd F d (.slice (some ⟨w.heap.size, 0, none⟩) m cap)) ds w') :
    Lst P rd n ops Q (⟨some d, .call { callee := .builtin .append, args := #[s, y], argTypes := #[t, ti] }, ty, pos, after, none⟩ :: rest) F ds w := by
  have hrun := run_append_make (P := P) (w := w) t ti ty e i z m ht hti hi hz hs hby h0 h40
  have hge := grownCap_ge w m 0 e
  have hrun2 : (execOp (ev F) ⟨some d, .call { callee := .builtin .append, args := #[s, y], argTypes := #[t, ti] }, ty, pos, after, none⟩).run P w = .ok (.value (.slice (some ⟨w.heap.size, 0, none⟩) m (grownCap w m 0 e))) (w.drew.alloc (.cells (Builtin.zeroCells z.cells m ++ Builtin.zeroCells z.cells (grownCap w m 0 e - m)) e)) := by
    simp [execOp, resolve, invoke, builtin, hs', hy, hrun]
  refine Lst_value rfl hrun2 hd (h _ _ _ hge (grownCap_le_maxLen w m 0 e (by simp only [maxLen]; omega)) (MapKept.heap_alloc w.drew _).1 ?_ (((Below.refl _ _).drew).alloc (Nat.le_refl _) _) (World.size_alloc ..))
  simp [Builtin.zeroCells, hz1]
  omega
theorem P_lcap {x : Operand} {t e : TypeId} {b : Option Addr} {l c : Nat} (hx : ev F x = .slice b l c) (ht : P.underlying t = some (.slice e)) : Pu P F (.call { callee := .builtin .cap, args := #[x], argTypes := #[t] }) ty (.int .i64 c) :=
  fun dst pos after w => by simp [execOp, resolve, invoke, builtin, hx, Builtin.cap_, run_underlying ht, goInt]
theorem P_lslice3 {t e sz n' c : Nat} {x hi mx : Operand} {k k' : IntKind} {b : Option Addr} {m' : Int} {i : TypeInfo} (hx : ev F x = .slice b n' c) (hhi : ev F hi = .int k' m') (hmx : ev F mx = .int k m') (ht : P.underlying t = some (.slice e)) (hi' : P.info? e = some i) (hs : i.size = sz) (h1 : 0 ≤ m') (h2 : m' ≤ c) :
    Pu P F (.slice t x none (some hi) (some mx)) ty (sliced b 0 m'.toNat m'.toNat sz) := fun dst pos after w => by
  have hsz : (sizeOf e).run P w = .ok sz w := by simp [sizeOf, typeInfo, hi', hs]
  have h3 : m' ≤ (m'.toNat : Int) := by omega
  simp [execOp, hx, hhi, hmx, Instr.sliceAt, Instr.slice, Instr.sliceBounds, Instr.sliceBound, asIntOf, run_underlying ht, h1, h2, hsz, sliced]
  intro hc
  omega
theorem sliced3 (b : Option Addr) (m : Nat) : sliced b 0 m m 1 = .slice b m m := by
  unfold sliced
  cases b with
  | none => split <;> simp
  | some a => split <;> simp [Addr.add]
theorem Ints.cut {zs : List Int} {kk : IntKind} {a : Option Addr} {n' c : Nat} (h : Ints w kk (.slice a n' c) zs) (m : Nat) (hm : m ≤ n') : Ints w kk (sliced a 0 m m 1) (zs.take m) ∧ sliced a 0 m m 1 = .slice a m m := by
  obtain ⟨b, off, cap, h1, h2, h3⟩ := h
  have hl : (zs.take m).length = m ∨ zs = [] ∧ m = 0 := by
    rcases h1 with h1 | ⟨⟨a0, h1⟩, rfl⟩
    · cases h1; left; simp; omega
    · cases h1; right; exact ⟨rfl, by omega⟩
  have e : sliced a 0 m m 1 = .slice a m m := sliced3 a m
  refine ⟨?_, e⟩
  rw [e]
  rcases h1 with h1 | ⟨⟨a0, h1⟩, rfl⟩
  · cases h1
    have hl' : (zs.take m).length = m := by simp; omega
    refine ⟨b, off, m, .inl (by rw [hl']), fun hz => h2 (by intro e; subst e; simp at hz), fun j hj => ?_⟩
    rw [h3 j (by simp at hj; omega)]
    simp
  · cases h1
    obtain rfl : m = 0 := by omega
    exact ⟨b, off, 0, .inr ⟨⟨_, rfl⟩, rfl⟩, fun e => absurd rfl e, fun j hj => by simp at hj⟩
theorem Lst_appnone {d m c c' : Nat} {s x : Operand} {t e : TypeId} {i : TypeInfo} {a a' : Option Addr} (hs : ev F s = .slice a m c) (hmc : m ≤ c) (hx : ev F x = .slice a' 0 c') (ht : P.underlying t = some (.slice e)) (hi : P.info? e = some i) (hd : Nat.blt d n = true)
    (h : Lst P rd n ops Q rest (upd F d (.slice a m c)) ds w) : Lst P rd n ops Q (⟨some d, .call { callee := .builtin .append, args := #[s, x], argTypes := #[t, t] }, ty, pos, after, none⟩ :: rest) F ds w := by
  have hrun : (Builtin.append_ #[t, t] ty #[.slice a m c, .slice a' 0 c']).run P w = .ok (.slice a m c) w := by
    cases a <;> cases a' <;> simp [Builtin.append_, run_underlying ht, sizeOf, typeInfo, hi, Builtin.lenOf, hmc, Builtin.firstCells, storeCells, loadCells, loadCellsFrom]
  exact Lst_value rfl (by simp [execOp, resolve, invoke, builtin, hs, hx, hrun]) hd h
/-- Bytes behind a slice; of an empty one it matters not where it lies. -/
def By (w : World) (v : Value) (l : List UInt8) : Prop := Ints w .u8 v (nums l) ∨ (l = [] ∧ ∃ a c, v = .slice a 0 c)
theorem By.form {v : Value} {l : List UInt8} (h : By w v l) : ∃ a c, v = .slice a l.length c := by
  rcases h with h | ⟨rfl, a, c, rfl⟩
  · have := h.form
    rwa [show (nums l).length = l.length by simp [nums]] at this
  · exact ⟨a, c, rfl⟩
theorem By.below {v : Value} {l : List UInt8} {B : Nat} {w' : World} (h : By w v l) (hb : Below B w w') (hB : w.heap.size ≤ B) : By w' v l := by
  rcases h with h | h
  · exact .inl (Ints.below h hb hB)
  · exact .inr h
/-- append(s, x...) of bytes that are only read. -/
theorem Lst_appints {d base nn : Nat} {s x : Operand} {t e : TypeId} {i : TypeInfo} {z v u : Value} {xs : List Value} {l : List UInt8} (hown : w.ownsRow base e 1 v nn xs) (hu : By w u l) (hs : ev F s = v) (hx : ev F x = u) (ht : P.underlying t = some (.slice e)) (hi : P.info? e = some i) (hz : i.zero = some z)
    (hsize : i.size = 1) (hby : i.bytes = 1) (hzs : z.cells.size = 1) (hd : Nat.blt d n = true) (hbytes : nn + l.length ≤ 140737488355328) (hbase : base ≤ w.heap.size)
    (h : ∀ v' w', w'.ownsRow base e 1 v' (nn + l.length) (xs ++ l.map bc) → w.grownBy w' v.ownBlock → Lst P rd n ops Q rest (upd F d v') ds w') :
    Lst P rd n ops Q (⟨some d, .call { callee := .builtin .append, args := #[s, x], argTypes := #[t, t] }, ty, pos, after, none⟩ :: rest) F ds w := by
  have hlen : (nums l).length = l.length := by simp [nums]
  have hlast : ∀ a' c', u = .slice a' 0 c' → l = [] → Lst P rd n ops Q (⟨some d, .call { callee := .builtin .append, args := #[s, x], argTypes := #[t, t] }, ty, pos, after, none⟩ :: rest) F ds w := by
    rintro a' c' rfl rfl
    obtain ⟨a, c, rfl, hc⟩ := own_cap hown
    exact Lst_appnone hs hc hx ht hi hd (h _ _ (by simpa using hown) ⟨rfl, rfl, rfl, Nat.le_refl _, fun _ _ _ => rfl⟩)
  rcases hu with ⟨b, off, cap, h1, h2, h3⟩ | ⟨hl, a', c', hv⟩
  rotate_left
  · exact hlast a' c' hv hl
  rcases h1 with rfl | ⟨hv, hz'⟩
  · refine Lst_append (bytes := 1) (news := l.map bc) hs (by rw [hx, hlen]) ht hi hz hsize hby hzs rfl hown (fun j u hu => ?_) (by simp) (fun u hu => ?_) (by omega) (by omega) hbase hd (fun v' w' h1 h2 _ => h v' w' h1 h2)
    · rw [List.getElem?_map] at hu
      obtain ⟨y, hy, rfl⟩ := Option.map_eq_some_iff.1 hu
      have hj := (List.getElem?_eq_some_iff.1 hy).1
      rw [h3 j (by omega)]
      have : l[j] = y := by rw [List.getElem?_eq_getElem hj] at hy; exact Option.some.inj hy
      simp [nums, bc, this]
    · simp only [List.mem_map] at hu
      obtain ⟨y, _, rfl⟩ := hu
      rfl
  · obtain ⟨a0, hv⟩ := hv
    exact hlast _ _ hv (by cases l with | nil => rfl | cons => simp [nums] at hz')
end rules
attribute [local irreducible] W Lst Qst Pu seqQ blkQ rndQ cutQ retQ Does Enters IntKind.wrap bits sb World.alloc World.putObj Blk
theorem own_ge {w : World} {base nn : Nat} {e : TypeId} {size : Nat} {v : Value} {xs : List Value} (h : w.ownsRow base e size v nn xs) (j : Nat) (hj : v.ownBlock = some j) : base ≤ j := by
  obtain ⟨_, ⟨rfl, _⟩ | ⟨g, cap, cur, rfl, hb, _⟩⟩ := h
  · cases hj
  · cases hj; exact hb
theorem c_Grow (m : Nat) (hm : m ≤ 1099511627776) (w : World) : Does Tryz.prog 62 #[.slice none 0 0, .int .i64 (m : Int)] w fun v w' => w'.ownsRow w.heap.size 5 1 v 0 [] ∧ Below w.heap.size w w' := by
  refine Does_of (args := [.slice none 0 0, .int .i64 (m : Int)]) Tryz.func62 (by kernel_rfl) rfl rfl rfl rfl rfl ?_
  by_cases h0 : m = 0
  · subst h0
    (refine Ga ?_)
    apply Lst_pu
    · apply P_lcap
      focus rfl
      focus rfl
    focus rfl
    (refine Ga ?_)
    (apply retQ1; (focus rfl))
    exact ⟨World.ownsRow_nil _ _ _ _, Bel⟩
  · (refine Ga ?_)
    apply Lst_pu
    · apply P_lcap
      focus rfl
      focus rfl
    focus rfl
    (refine Ga ?_)
    apply Lst_pu
    · apply P_lcap
      focus rfl
      focus rfl
    focus rfl
    (refine Ga ?_)
    apply Lst_appmake (m := m)
    focus rfl
    focus exact congrArg (Value.int .i64) (show (m : Int) - (((0 : Nat) : Int) - ((0 : Nat) : Int)) = m by omega)
    focus rfl
    focus rfl
    focus rfl
    focus rfl
    focus rfl
    focus rfl
    focus rfl
    focus rfl
    focus omega
    focus exact hm
    intro cap cur w1 hmc hcm hw hcur hb1 hs1
    (refine Ga ?_)
    apply retQ1 (v := .slice (some ⟨w.heap.size, 0, none⟩) 0 cap)
    · show Value.slice (if cap = 0 then _ else _) _ _ = _
      rw [if_neg (by omega)]
      simp [add_none]
    · exact ⟨⟨rfl, .inr ⟨w.heap.size, cap, cur, rfl, Nat.le_refl _, hw, Nat.zero_le _, hcm, by omega, by simp⟩⟩, hb1⟩
def acc2 (a b : Nat) : Nat → Int
  | 0 => 0
  | 1 => a
  | _ => ((a + b : Nat) : Int)
def accN (a b : Nat) : Nat → Nat
  | 0 => 0
  | 1 => a
  | _ => a + b
def pre2 (l k : List UInt8) : Nat → List UInt8
  | 0 => []
  | 1 => l
  | _ => l ++ k
theorem c_Concat (B : Nat) (u v : Value) (l k : List UInt8) (hl : l.length + k.length ≤ 1099511627776) (w : World) (hb : Blk w B [u, v] 22) (hu : By w u l) (hv : By w v k) :
    Does Tryz.prog 46 #[.slice (some ⟨B, 0, none⟩) 2 2] w fun r w' => (∃ a c, r = .slice a (l.length + k.length) c ∧ l.length + k.length ≤ c) ∧ Ints w' .u8 r (nums (l ++ k)) ∧ Below w.heap.size w w' := by
  refine Does_of (args := [.slice (some ⟨B, 0, none⟩) 2 2]) Tryz.func46 (by kernel_rfl) rfl rfl rfl rfl rfl ?_
  obtain ⟨u1, uc, rfl⟩ := hu.form
  obtain ⟨v1, vc, rfl⟩ := hv.form
  have hlt := hb.lt
  (refine Ga ?_)
  refine W_loop (α := Nat) (fun i => [(3, .int .i64 (acc2 l.length k.length i)), (9, .slice (some ⟨B, 0, none⟩) 2 2), (10, .int .i64 2), (11, .int .i64 (i : Int)), (0, .slice (some ⟨B, 0, none⟩) 2 2)])
    (fun i A => i ≤ 2 ∧ A = w) (fun i _ => 2 - i) 0 ⟨by omega, rfl⟩ ⟨rfl, rfl, rfl, rfl, rfl, trivial⟩ ?_
  rintro J i A ⟨hi, rfl⟩
  obtain rfl | rfl | rfl : i = 0 ∨ i = 1 ∨ i = 2 := by omega
  · simp only [acc2]
    (refine Ga ?_)
    refine rndQ_n (α := Nat) 1 ⟨by omega, rfl⟩ ⟨?_, rfl, rfl, rfl, rfl, trivial⟩ (by omega)
    show Value.int .i64 ((0 : Int) + (l.length : Int)) = .int .i64 (l.length : Int)
    rw [Int.zero_add]
  · simp only [acc2]
    (refine Ga ?_)
    refine rndQ_n (α := Nat) 2 ⟨by omega, rfl⟩ ⟨?_, rfl, rfl, rfl, rfl, trivial⟩ (by omega)
    show Value.int .i64 ((l.length : Int) + (k.length : Int)) = .int .i64 ((l.length + k.length : Nat) : Int)
    rw [Int.natCast_add]
  · simp only [acc2]
    (refine Ga ?_)
    (apply Lst_call; (focus rfl); (focus rfl))
    refine (c_Grow (l.length + k.length) hl _).mono ?_
    rintro v w1 ⟨hown, hb1⟩
    (refine Ga ?_)
    refine W_loop (α := Nat × Value) (fun x => [(6, x.2), (25, .slice (some ⟨B, 0, none⟩) 2 2), (26, .int .i64 2), (27, .int .i64 (x.1 : Int))])
      (fun x C => x.1 ≤ 2 ∧ C.ownsRow A.heap.size 5 1 x.2 (accN l.length k.length x.1) ((pre2 l k x.1).map bc) ∧ Below A.heap.size A C) (fun x _ => 2 - x.1) (0, v) ⟨by omega, hown, hb1⟩ ⟨rfl, rfl, rfl, rfl, trivial⟩ ?_
    clear hown hb1 v w1
    rintro J ⟨i, v⟩ C ⟨hi, hown, hb1⟩
    dsimp only at hi hown ⊢
    have hsz := hb1.size
    obtain rfl | rfl | rfl : i = 0 ∨ i = 1 ∨ i = 2 := by omega
    · (refine Ga ?_)
      apply Lst_appints (hown := hown) (l := l)
      focus exact By.below hu hb1 (Nat.le_refl _)
      focus rfl
      focus rfl
      focus rfl
      focus rfl
      focus rfl
      focus rfl
      focus rfl
      focus rfl
      focus rfl
      focus (simp only [accN]; omega)
      focus exact hsz
      intro v' w' hown' hg
      have hb' := Below.grown hb1 hg hsz (fun j hj => own_ge hown j hj)
      obtain ⟨v1', v2', v3', rfl⟩ := own_slice hown'
      (refine Ga ?_)
      refine rndQ_n (α := Nat × Value) (1, _) ⟨by dsimp only; omega, ?_, hb'⟩ ⟨rfl, rfl, rfl, rfl, trivial⟩ (by dsimp only; omega)
      simpa [accN, pre2] using hown'
    · (refine Ga ?_)
      apply Lst_appints (hown := hown) (l := k)
      focus exact By.below hv hb1 (Nat.le_refl _)
      focus rfl
      focus rfl
      focus rfl
      focus rfl
      focus rfl
      focus rfl
      focus rfl
      focus rfl
      focus rfl
      focus (simp only [accN]; omega)
      focus exact hsz
      intro v' w' hown' hg
      have hb' := Below.grown hb1 hg hsz (fun j hj => own_ge hown j hj)
      obtain ⟨v1', v2', v3', rfl⟩ := own_slice hown'
      (refine Ga ?_)
      refine rndQ_n (α := Nat × Value) (2, _) ⟨by dsimp only; omega, ?_, hb'⟩ ⟨rfl, rfl, rfl, rfl, trivial⟩ (by dsimp only; omega)
      simpa [accN, pre2] using hown'
    · (refine Ga ?_)
      have hown2 : C.ownsRow A.heap.size 5 1 v (l.length + k.length) ((l ++ k).map bc) := hown
      apply retQ1 (v := v)
      focus rfl
      refine ⟨own_cap hown2, ?_, hb1⟩
      rw [← nums_map] at hown2
      exact Ints.of_own hown2
end Dk
namespace Dk
open Go Go.RowKit Sx Wire
abbrev Grown (X A : World) : Prop := Below X.heap.size X A
theorem grown_start (X : World) : Grown X X.drew := (Below.refl _ _).drew
def f0 : Fl := ⟨[], 0⟩
def Dsk.file (d : Dsk) (n : ByteArray) : Fl := (Sx.look d.es n).getD f0
def Dsk.sync (d : Dsk) (n : ByteArray) : Int × Dsk := if d.isE n = 0 then (0, Dsk.done { d with es := Sx.put d.es n ⟨(d.file n).b, (d.file n).b.length⟩ }) else (d.isE n, d)
def Dsk.rename (d : Dsk) (a b : ByteArray) : Int × Dsk := if d.isE a = 0 then (if nameOk b then (0, Dsk.done { d with es := Sx.put (Sx.del d.es a) b (d.file a) }) else (41, d)) else (d.isE a, d)
def cutTo (f : Fl) (size : Int) : Nat := (min (max size 0) (f.b.length : Int)).toNat
def Dsk.truncate (d : Dsk) (n : ByteArray) (size : Int) : Int × Dsk := if d.isE n = 0 then (0, Dsk.done { d with es := Sx.put d.es n ⟨(d.file n).b.take (cutTo (d.file n) size), min (d.file n).safe (cutTo (d.file n) size)⟩ }) else (d.isE n, d)
def Dsk.delete (d : Dsk) (n : ByteArray) : Int × Dsk := if d.isE n = 0 then (0, Dsk.done { d with es := Sx.del d.es n }) else (d.isE n, d)
def Dsk.full (d : Dsk) (n : ByteArray) (k : Nat) : Bool := decide (4194304 < (d.file n).b.length + k) || decide (d.room < ((used d.es + k : Nat) : Int))
def Dsk.append (d : Dsk) (n : ByteArray) (b : List UInt8) : Int × Dsk :=
  if d.dead then (43, d) else if nameOk n then (if d.full n b.length then (42, d) else (0, Dsk.done { d with es := Sx.put d.es n ⟨(d.file n).b ++ b, (d.file n).safe⟩ })) else (41, d)
def Dsk.read (d : Dsk) (n : ByteArray) : List UInt8 × Int := if d.isE n = 0 then ((d.file n).b, 0) else ([], d.isE n)
theorem isE_zero {d : Dsk} {n : ByteArray} (h : d.isE n = 0) : d.dead = false ∧ ∃ f, Sx.look d.es n = some f ∧ d.file n = f := by
  unfold Dsk.isE at h
  cases hd : d.dead with
  | true => rw [hd] at h; simp at h
  | false =>
    rw [hd] at h
    cases hl : Sx.look d.es n with
    | none => rw [hl] at h; simp at h
    | some f => exact ⟨rfl, f, rfl, by unfold Dsk.file; rw [hl]; rfl⟩
theorem fz_file (w : World) : FileV w fz f0 := ⟨none, 0, 0, rfl, ⟨0, 0, 0, .inr ⟨⟨none, rfl⟩, rfl⟩, fun e => absurd rfl e, fun j hj => by simp [nums, f0] at hj⟩, Nat.le_refl _, Nat.le_refl _⟩
theorem Got.file {w : World} {d : Dsk} {n : ByteArray} {v : Value} {there : Bool} (h : Got (FileV w) d.es n fz v there) : ∃ a c, v = .agg #[.slice a (d.file n).b.length c, .int .i64 ((d.file n).safe : Int)] ∧ Ints w .u8 (.slice a (d.file n).b.length c) (nums (d.file n).b) ∧ (d.file n).b.length ≤ c ∧ (d.file n).safe ≤ (d.file n).b.length := by
  have key : FileV w v (d.file n) := by
    unfold Dsk.file
    rcases h with ⟨h1, rfl, _⟩ | ⟨f, h1, h2, _⟩
    · rw [h1]; exact fz_file w
    · rw [h1]; exact h2
  obtain ⟨a, m, c, rfl, hi, hmc, hs⟩ := key
  have hm : (d.file n).b.length = m := by have := Ints.len hi; rw [← this]; simp [nums]
  rw [hm]
  exact ⟨a, c, rfl, hi, hmc, by omega⟩
theorem DkAt.putm {w w' : World} {p mb : Nat} {d : Dsk} {es : List (ByteArray × Fl)} (h : DkAt w p mb d) (hm : MpAt w' mb (FileV w) es) (hc : Chg [mb] w w') : DkAt w' p mb { d with es := es } :=
  ⟨hc.blk h.1 (by simpa using h.ne), hm.mono rfl fun _ _ hf => hf.chg hc (fun b hb => by
    obtain rfl : b = mb := by simpa using hb
    exact N8.map h.2)⟩
theorem Chg.chain {p mb : Nat} {a b c d : World} (h1 : Below a.heap.size a b) (h2 : Chg [mb] b c) (h3 : Chg [p] c d) : Chg [p, mb] a d :=
  ((Chg.of h1).trans (h2.mono (by simp))).trans (h3.mono (by simp))
theorem done_at {w : World} {p mb : Nat} {d : Dsk} (h : DkAt w p mb d) (hc : d.cut < 9223372036854775808) : Does Tryz.prog 51 #[.pointer (some ⟨p, 0, none⟩)] w fun v w' => v = .int .i64 0 ∧ DkAt w' p mb d.done ∧ Chg [p] w w' := c_done p mb d hc w h
attribute [local irreducible] W Lst Qst Pu seqQ blkQ rndQ cutQ retQ Does Enters IntKind.wrap bits sb World.alloc World.putObj Blk
theorem c_Sync (p mb : Nat) (d : Dsk) (hc : d.cut < 9223372036854775808) (n : ByteArray) (w : World) (h : DkAt w p mb d) : Does Tryz.prog 31 #[.pointer (some ⟨p, 0, none⟩), .string n] w fun v w' =>
    v = .int .i64 (d.sync n).1 ∧ DkAt w' p mb (d.sync n).2 ∧ Chg [p, mb] w w' := by
  refine Does_of (args := [.pointer (some ⟨p, 0, none⟩), .string n]) Tryz.func31 (by kernel_rfl) rfl rfl rfl rfl rfl ?_
  have hb := h.1
  have hlt := hb.lt
  have hml := h.2.lt
  unfold Dsk.sync
  (refine Ga ?_)
  (apply Lst_call; (focus rfl); (focus rfl))
  refine (c_is p mb d n _ h).mono ?_
  rintro v w1 ⟨rfl, hb1⟩
  have b1 := Sx.Below.after (w := w) Bel hb1
  have s1 := hb1.size
  try simp only [Sx.sizes] at s1
  have h1 := h.below hb1
  by_cases h0 : d.isE n = 0
  · rw [if_pos h0]
    (refine Ga ?_)
    apply Lst_mapget (hmp := h1.2) (z := fz)
    focus rfl
    focus rfl
    focus rfl
    focus rfl
    focus exact fzero _
    focus rfl
    intro v there hg
    obtain ⟨a, c, rfl, hi, hmc, hs⟩ := Got.file hg
    clear hg
    generalize d.file n = g at hi hmc hs ⊢
    (refine Ga ?_)
    refine W_draw 11 (Grown _) rfl (by kernel_rfl) (grown_start _) ?_
    (refine Qb ?_)
    intro w9 hb9
    have b9 := Sx.Below.after (w := w) Bel hb9
    have h9 := h.below b9
    have hi9 := Ints.below hi (Sx.Below.after (w := w1) Bel hb9) (Nat.le_refl _)
    apply Lst_mapput (⟨g.b, g.b.length⟩ : Fl) (hmp := h9.2)
    focus rfl
    focus rfl
    focus rfl
    focus rfl
    focus rfl
    focus exact ⟨a, _, c, rfl, hi9, hmc, Nat.le_refl _⟩
    intro w10 hmp hch hsz
    have h10 := h9.putm hmp hch
    (refine Ga ?_)
    (apply Lst_call; (focus rfl); (focus rfl))
    refine (done_at h10 hc).mono ?_
    rintro v w11 ⟨rfl, hd, hcd⟩
    (refine Ga ?_)
    (apply retQ1; (focus rfl))
    exact ⟨rfl, hd, Chg.chain b9 hch hcd⟩
  · rw [if_neg h0]
    (refine Ga ?_)
    (apply retQ1; (focus rfl))
    exact ⟨rfl, h1, .of hb1⟩
theorem c_Delete (p mb : Nat) (d : Dsk) (hc : d.cut < 9223372036854775808) (n : ByteArray) (w : World) (h : DkAt w p mb d) : Does Tryz.prog 33 #[.pointer (some ⟨p, 0, none⟩), .string n] w fun v w' =>
    v = .int .i64 (d.delete n).1 ∧ DkAt w' p mb (d.delete n).2 ∧ Chg [p, mb] w w' := by
  refine Does_of (args := [.pointer (some ⟨p, 0, none⟩), .string n]) Tryz.func33 (by kernel_rfl) rfl rfl rfl rfl rfl ?_
  have hb := h.1
  have hlt := hb.lt
  have hml := h.2.lt
  unfold Dsk.delete
  (refine Ga ?_)
  (apply Lst_call; (focus rfl); (focus rfl))
  refine (c_is p mb d n _ h).mono ?_
  rintro v w1 ⟨rfl, hb1⟩
  have b1 := Sx.Below.after (w := w) Bel hb1
  have s1 := hb1.size
  try simp only [Sx.sizes] at s1
  have h1 := h.below hb1
  by_cases h0 : d.isE n = 0
  · rw [if_pos h0]
    (refine Ga ?_)
    apply Lst_mapdel (hmp := h1.2)
    focus rfl
    focus rfl
    focus rfl
    focus rfl
    focus rfl
    intro w10 hmp hch hsz
    have h10 := h1.putm hmp hch
    (refine Ga ?_)
    (apply Lst_call; (focus rfl); (focus rfl))
    refine (done_at h10 hc).mono ?_
    rintro v w11 ⟨rfl, hd, hcd⟩
    (refine Ga ?_)
    (apply retQ1; (focus rfl))
    exact ⟨rfl, hd, Chg.chain hb1 hch hcd⟩
  · rw [if_neg h0]
    (refine Ga ?_)
    (apply retQ1; (focus rfl))
    exact ⟨rfl, h1, .of hb1⟩
theorem c_Truncate (p mb : Nat) (d : Dsk) (hc : d.cut < 9223372036854775808) (n : ByteArray) (size : Int) (w : World) (h : DkAt w p mb d) : Does Tryz.prog 41 #[.pointer (some ⟨p, 0, none⟩), .string n, .int .i64 size] w fun v w' =>
    v = .int .i64 (d.truncate n size).1 ∧ DkAt w' p mb (d.truncate n size).2 ∧ Chg [p, mb] w w' := by
  refine Does_of (args := [.pointer (some ⟨p, 0, none⟩), .string n, .int .i64 size]) Tryz.func41 (by kernel_rfl) rfl rfl rfl rfl rfl ?_
  have hb := h.1
  have hlt := hb.lt
  have hml := h.2.lt
  unfold Dsk.truncate
  (refine Ga ?_)
  (apply Lst_call; (focus rfl); (focus rfl))
  refine (c_is p mb d n _ h).mono ?_
  rintro v w1 ⟨rfl, hb1⟩
  have b1 := Sx.Below.after (w := w) Bel hb1
  have s1 := hb1.size
  try simp only [Sx.sizes] at s1
  have h1 := h.below hb1
  by_cases h0 : d.isE n = 0
  · rw [if_pos h0]
    (refine Ga ?_)
    apply Lst_mapget (hmp := h1.2) (z := fz)
    focus rfl
    focus rfl
    focus rfl
    focus rfl
    focus exact fzero _
    focus rfl
    intro v there hg
    obtain ⟨a, c, rfl, hi, hmc, hs⟩ := Got.file hg
    clear hg
    generalize d.file n = g at hi hmc hs ⊢
    have hk0 : 0 ≤ min (max size 0) (g.b.length : Int) := by omega
    have hk1 : min (max size 0) (g.b.length : Int) ≤ (g.b.length : Int) := by omega
    have hk2 : ((cutTo g size : Nat) : Int) = min (max size 0) (g.b.length : Int) := by unfold cutTo; omega
    have hk3 : (min (max size 0) (g.b.length : Int)).toNat = cutTo g size := rfl
    (refine Ga ?_)
    refine W_draw 15 (Grown _) rfl (by kernel_rfl) (grown_start _) ?_
    (refine Qb ?_)
    apply Qst_pu
    · apply P_lslice3
      focus rfl
      focus rfl
      focus rfl
      focus rfl
      focus rfl
      focus rfl
      focus omega
      focus omega
    focus rfl
    (refine Qb ?_)
    intro w9 hb9
    have b9 := Sx.Below.after (w := w) Bel hb9
    have h9 := h.below b9
    have hi9 := Ints.below hi (Sx.Below.after (w := w1) Bel hb9) (Nat.le_refl _)
    apply Lst_mapput (⟨g.b.take (cutTo g size), min g.safe (cutTo g size)⟩ : Fl) (hmp := h9.2)
    focus rfl
    focus rfl
    focus rfl
    focus rfl
    focus rfl
    focus (
      have e := Ints.cut hi9 (cutTo g size) (by omega)
      show FileV w9 (.agg #[sliced a 0 (min (max size 0) (g.b.length : Int)).toNat (min (max size 0) (g.b.length : Int)).toNat 1, .int .i64 (min (g.safe : Int) (min (max size 0) (g.b.length : Int)))]) _
      rw [hk3, e.2, ← hk2]
      have e2 : min (g.safe : Int) ((cutTo g size : Nat) : Int) = ((min g.safe (cutTo g size) : Nat) : Int) := by omega
      rw [e2]
      have e1 := e.1
      rw [e.2] at e1
      refine ⟨a, cutTo g size, cutTo g size, rfl, ?_, Nat.le_refl _, ?_⟩
      · unfold nums at e1 ⊢
        rwa [List.map_take]
      · dsimp only
        rw [List.length_take]
        omega)
    intro w10 hmp hch hsz
    have h10 := h9.putm hmp hch
    (refine Ga ?_)
    (apply Lst_call; (focus rfl); (focus rfl))
    refine (done_at h10 hc).mono ?_
    rintro v w11 ⟨rfl, hd, hcd⟩
    (refine Ga ?_)
    (apply retQ1; (focus rfl))
    exact ⟨rfl, hd, Chg.chain b9 hch hcd⟩
  · rw [if_neg h0]
    (refine Ga ?_)
    (apply retQ1; (focus rfl))
    exact ⟨rfl, h1, .of hb1⟩
theorem c_Rename (p mb : Nat) (d : Dsk) (hc : d.cut < 9223372036854775808) (n b : ByteArray) (w : World) (h : DkAt w p mb d) : Does Tryz.prog 32 #[.pointer (some ⟨p, 0, none⟩), .string n, .string b] w fun v w' =>
    v = .int .i64 (d.rename n b).1 ∧ DkAt w' p mb (d.rename n b).2 ∧ Chg [p, mb] w w' := by
  refine Does_of (args := [.pointer (some ⟨p, 0, none⟩), .string n, .string b]) Tryz.func32 (by kernel_rfl) rfl rfl rfl rfl rfl ?_
  have hb := h.1
  have hlt := hb.lt
  have hml := h.2.lt
  unfold Dsk.rename
  (refine Ga ?_)
  (apply Lst_call; (focus rfl); (focus rfl))
  refine (c_is p mb d n _ h).mono ?_
  rintro v w1 ⟨rfl, hb1⟩
  have b1 := Sx.Below.after (w := w) Bel hb1
  have s1 := hb1.size
  try simp only [Sx.sizes] at s1
  have h1 := h.below hb1
  by_cases h0 : d.isE n = 0
  · rw [if_pos h0]
    (refine Ga ?_)
    (apply Lst_call; (focus rfl); (focus rfl))
    refine (c_name b _).mono ?_
    rintro v w' ⟨rfl, rfl⟩
    cases hnb : nameOk b
    · (refine Ga ?_)
      (apply retQ1; (focus rfl))
      exact ⟨rfl, h1, .of hb1⟩
    (refine Ga ?_)
    apply Lst_mapget (hmp := h1.2) (z := fz)
    focus rfl
    focus rfl
    focus rfl
    focus rfl
    focus exact fzero _
    focus rfl
    intro v there hg
    obtain ⟨a, c, rfl, hi, hmc, hs⟩ := Got.file hg
    clear hg
    generalize d.file n = g at hi hmc hs ⊢
    (refine Ga ?_)
    have b2 : Below w.heap.size w ((w1.alloc (.cells #[.slice none 0 0, .int .i64 0] 73)).putObj w1.heap.size (.cells #[.slice a g.b.length c, .int .i64 (g.safe : Int)] 73)) := Bel
    have h2 := h.below b2
    have kb : Blk ((w1.alloc (.cells #[.slice none 0 0, .int .i64 0] 73)).putObj w1.heap.size (.cells #[.slice a g.b.length c, .int .i64 (g.safe : Int)] 73)) w1.heap.size [.slice a g.b.length c, .int .i64 (g.safe : Int)] 73 := (by (repeat (first | assumption | (apply Blk.below (hb := hb1); rotate_left; (focus ((try simp only [Sx.sizes]); omega)); rotate_right) | (apply Blk.below (hb := hb2); rotate_left; (focus ((try simp only [Sx.sizes]); omega)); rotate_right) | (apply Blk.below (hb := hb3); rotate_left; (focus ((try simp only [Sx.sizes]); omega)); rotate_right) | (apply Blk.below (hb := hb4); rotate_left; (focus ((try simp only [Sx.sizes]); omega)); rotate_right) | (apply Blk.below (hb := hb5); rotate_left; (focus ((try simp only [Sx.sizes]); omega)); rotate_right) | (apply Blk.below (hb := hb6); rotate_left; (focus ((try simp only [Sx.sizes]); omega)); rotate_right) | (apply Blk.below (hb := hb7); rotate_left; (focus ((try simp only [Sx.sizes]); omega)); rotate_right) | (apply Blk.below (hb := hb8); rotate_left; (focus ((try simp only [Sx.sizes]); omega)); rotate_right) | (apply Blk.below (hb := hb9); rotate_left; (focus ((try simp only [Sx.sizes]); omega)); rotate_right) | exact Blk.newE (by first | rfl | ((try simp only [Sx.sizes]); first | done | omega)) _ _ | exact Blk.put_same (by (try simp only [Sx.sizes]); first | done | omega) _ _ | (apply Blk.put_ne; (focus omega)) | apply Blk.alloc | apply Blk.drew)); done)
    have hi2 := Ints.below hi (show Below w1.heap.size w1 ((w1.alloc (.cells #[.slice none 0 0, .int .i64 0] 73)).putObj w1.heap.size (.cells #[.slice a g.b.length c, .int .i64 (g.safe : Int)] 73)) from Bel) (Nat.le_refl _)
    apply Lst_mapdel (hmp := h2.2)
    focus rfl
    focus rfl
    focus rfl
    focus rfl
    focus rfl
    intro w3 hmp3 hch3 hsz3
    have h3 := h2.putm hmp3 hch3
    have c3 : Chg [p, mb] w w3 := (Chg.of b2).trans (hch3.mono (by simp))
    have kb3 := hch3.blk kb (by have := s1; simp; omega)
    have kl3 := kb3.lt
    have hi3 := Ints.chg hi2 hch3 (fun b hb => by
      obtain rfl : b = mb := by simpa using hb
      exact N8.map h2.2)
    have hb3 := h3.1
    have hl3 := hb3.lt
    clear hb1 b1 b2 kb hi2 hi
    generalize w1.heap.size = K at kb3 kl3 ⊢
    (refine Ga ?_)
    refine W_draw 6 (Grown _) rfl (by kernel_rfl) (grown_start _) ?_
    (refine Qb ?_)
    intro w9 hb9
    have h9 := h3.below hb9
    have hi9 := Ints.below hi3 hb9 (Nat.le_refl _)
    apply Lst_mapput (g : Fl) (hmp := h9.2)
    focus rfl
    focus rfl
    focus rfl
    focus rfl
    focus rfl
    focus exact ⟨a, _, c, rfl, hi9, hmc, hs⟩
    intro w10 hmp hch hsz
    have h10 := h9.putm hmp hch
    (refine Ga ?_)
    (apply Lst_call; (focus rfl); (focus rfl))
    refine (done_at h10 hc).mono ?_
    rintro v w11 ⟨rfl, hd, hcd⟩
    (refine Ga ?_)
    (apply retQ1; (focus rfl))
    exact ⟨rfl, hd, c3.trans (Chg.chain hb9 hch hcd)⟩
  · rw [if_neg h0]
    (refine Ga ?_)
    (apply retQ1; (focus rfl))
    exact ⟨rfl, h1, .of hb1⟩
end Dk
namespace Dk
open Go Go.RowKit Sx Wire
theorem N8.box {w : World} {b m c : Nat} {a : Option Addr} {z : Int} {e : TypeId} (h : Blk w b [.slice a m c, .int .i64 z] e) : N8 w b := fun off z => by
  rw [h.cell off]
  match off with
  | 0 => simp
  | 1 => simp
  | n + 2 => simp
attribute [local irreducible] W Lst Qst Pu seqQ blkQ rndQ cutQ retQ Does Enters IntKind.wrap bits sb World.alloc World.putObj Blk
theorem c_Read (p mb : Nat) (d : Dsk) (n : ByteArray) (hl : (d.file n).b.length ≤ 1000000) (w : World) (h : DkAt w p mb d) : Does Tryz.prog 39 #[.pointer (some ⟨p, 0, none⟩), .string n] w fun v w' =>
    (∃ sv, v = .tuple #[sv, .int .i64 (d.read n).2] ∧ Ints w' .u8 sv (nums (d.read n).1)) ∧ Below w.heap.size w w' := by
  refine Does_of (args := [.pointer (some ⟨p, 0, none⟩), .string n]) Tryz.func39 (by kernel_rfl) rfl rfl rfl rfl rfl ?_
  have hb := h.1
  have hlt := hb.lt
  unfold Dsk.read
  (refine Ga ?_)
  (apply Lst_call; (focus rfl); (focus rfl))
  refine (c_is p mb d n _ h).mono ?_
  rintro v w1 ⟨rfl, hb1⟩
  have b1 := Sx.Below.after (w := w) Bel hb1
  have s1 := hb1.size
  try simp only [Sx.sizes] at s1
  have h1 := h.below hb1
  by_cases h0 : d.isE n = 0
  · rw [if_pos h0]
    (refine Ga ?_)
    apply Lst_mapget (hmp := h1.2) (z := fz)
    focus rfl
    focus rfl
    focus rfl
    focus rfl
    focus exact fzero _
    focus rfl
    intro v there hg
    obtain ⟨a, c, rfl, hi, hmc, hs⟩ := Got.file hg
    clear hg
    generalize d.file n = g at hi hmc hs hl ⊢
    (refine Ga ?_)
    (apply Lst_call; (focus rfl); (focus rfl))
    refine (c_Clone _ g.b (by omega) _ hi).mono ?_
    rintro u w2 ⟨hu, hb2⟩
    obtain ⟨u1, u2, rfl⟩ := hu.form
    (refine Ga ?_)
    apply retQ2
    focus rfl
    focus rfl
    exact ⟨⟨_, rfl, hu⟩, b1.trans (hb2.mono b1.size)⟩
  · rw [if_neg h0]
    (refine Ga ?_)
    apply retQ2
    focus rfl
    focus rfl
    exact ⟨⟨_, rfl, ⟨0, 0, 0, .inr ⟨⟨none, rfl⟩, rfl⟩, fun e => absurd rfl e, fun j hj => by simp [nums] at hj⟩⟩, b1⟩
theorem c_AppendBy (p mb : Nat) (d : Dsk) (hc : d.cut < 9223372036854775808) (n : ByteArray) (sv : Value) (l : List UInt8) (hul : used d.es + l.length ≤ 1099511627776) (hfl : (d.file n).b.length ≤ 1099511627776) (w : World) (h : DkAt w p mb d) (hsv : By w sv l) :
    Does Tryz.prog 29 #[.pointer (some ⟨p, 0, none⟩), .string n, sv] w fun v w' => v = .int .i64 (d.append n l).1 ∧ DkAt w' p mb (d.append n l).2 ∧ Chg [p, mb] w w' := by
  obtain ⟨s1, s2, rfl⟩ := hsv.form
  refine Does_of (args := [.pointer (some ⟨p, 0, none⟩), .string n, .slice s1 l.length s2]) Tryz.func29 (by kernel_rfl) rfl rfl rfl rfl rfl ?_
  have hb := h.1
  have hlt := hb.lt
  have hml := h.2.lt
  unfold Dsk.append Dsk.full
  (refine Ga ?_)
  apply Lst_mapget (hmp := h.2) (z := fz)
  focus rfl
  focus rfl
  focus rfl
  focus rfl
  focus exact fzero _
  focus rfl
  intro v there hg
  obtain ⟨a, c, rfl, hi, hmc, hs⟩ := Got.file hg
  clear hg
  generalize d.file n = g at hi hmc hs hfl ⊢
  cases hdd : d.dead with
  | true =>
    rw [hdd] at hb
    (refine Ga ?_)
    (apply retQ1; (focus rfl))
    exact ⟨rfl, h.below Bel, .of Bel⟩
  | false =>
    rw [hdd] at hb
    simp only [Bool.false_eq_true, if_false]
    (refine Ga ?_)
    (apply Lst_call; (focus rfl); (focus rfl))
    refine (c_name n _).mono ?_
    rintro v w' ⟨rfl, rfl⟩
    cases hnb : nameOk n
    · (refine Ga ?_)
      (apply retQ1; (focus rfl))
      exact ⟨rfl, h.below Bel, .of Bel⟩
    simp only [if_true]
    have uc := fun A hA => c_Used p mb d (by omega) A hA
    generalize used d.es = U at uc hul ⊢
    by_cases e1 : 4194304 < g.b.length + l.length
    · rw [decide_eq_true e1]
      (refine Ga ?_)
      refine W_draws (Grown _) rfl (by kernel_rfl) (grown_start _) ?_
      (refine Qb ?_)
      intro w9 hb9
      have b9 := Sx.Below.after (w := w) Bel hb9
      (refine Ga ?_)
      (apply retQ1; (focus rfl))
      exact ⟨rfl, h.below b9, .of b9⟩
    · rw [decide_eq_false e1]
      by_cases e2 : d.room < ((U + l.length : Nat) : Int)
      · rw [decide_eq_true e2]
        (refine Ga ?_)
        refine W_draws (Grown _) rfl (by kernel_rfl) (grown_start _) ?_
        (refine Qb ?_)
        apply Qst_call (.int .i64 (U : Int))
        focus rfl
        focus rfl
        · intro A9 hb9
          exact (uc A9 (h.below (Sx.Below.after (w := w) Bel hb9))).mono fun v w' h => ⟨h.1, Sx.Below.after hb9 h.2⟩
        (refine Qb ?_)
        intro w9 hb9
        have b9 := Sx.Below.after (w := w) Bel hb9
        (refine Ga ?_)
        (apply retQ1; (focus rfl))
        exact ⟨rfl, h.below b9, .of b9⟩
      · rw [decide_eq_false e2]
        (refine Ga ?_)
        refine W_draws (Grown _) rfl (by kernel_rfl) (grown_start _) ?_
        (refine Qb ?_)
        apply Qst_call (.int .i64 (U : Int))
        focus rfl
        focus rfl
        · intro A9 hb9
          exact (uc A9 (h.below (Sx.Below.after (w := w) Bel hb9))).mono fun v w' h => ⟨h.1, Sx.Below.after hb9 h.2⟩
        (refine Qb ?_)
        intro w1 hb1
        have b1 := Sx.Below.after (w := w) Bel hb1
        have s1' := b1.size
        (refine Ga ?_)
        (apply Lst_slit; (focus rfl); (focus rfl); (focus rfl); (focus rfl); (focus rfl); (focus rfl); (focus rfl); (focus rfl); (focus rfl); (focus (repeat (first | apply FillO.nil | (apply FillO.cons; (focus constructor); (focus rfl); (focus rfl); (focus (repeat constructor)))))); (focus ((try simp only [Sx.sizes]); first | done | rfl)); (focus rfl))
        (refine Ga ?_)
        (apply Lst_call; (focus rfl); (focus rfl))
        refine (c_Concat _ _ _ g.b l (by omega) _ (by (repeat (first | assumption | (apply Blk.below (hb := hb1); rotate_left; (focus ((try simp only [Sx.sizes]); omega)); rotate_right) | (apply Blk.below (hb := hb2); rotate_left; (focus ((try simp only [Sx.sizes]); omega)); rotate_right) | (apply Blk.below (hb := hb3); rotate_left; (focus ((try simp only [Sx.sizes]); omega)); rotate_right) | (apply Blk.below (hb := hb4); rotate_left; (focus ((try simp only [Sx.sizes]); omega)); rotate_right) | (apply Blk.below (hb := hb5); rotate_left; (focus ((try simp only [Sx.sizes]); omega)); rotate_right) | (apply Blk.below (hb := hb6); rotate_left; (focus ((try simp only [Sx.sizes]); omega)); rotate_right) | (apply Blk.below (hb := hb7); rotate_left; (focus ((try simp only [Sx.sizes]); omega)); rotate_right) | (apply Blk.below (hb := hb8); rotate_left; (focus ((try simp only [Sx.sizes]); omega)); rotate_right) | (apply Blk.below (hb := hb9); rotate_left; (focus ((try simp only [Sx.sizes]); omega)); rotate_right) | exact Blk.newE (by first | rfl | ((try simp only [Sx.sizes]); first | done | omega)) _ _ | exact Blk.put_same (by (try simp only [Sx.sizes]); first | done | omega) _ _ | (apply Blk.put_ne; (focus omega)) | apply Blk.alloc | apply Blk.drew)); done) (.inl (Ints.below hi Bel (Nat.le_refl _))) (By.below hsv Bel (Nat.le_refl _))).mono ?_
        rintro r w2 ⟨⟨a2, c2, rfl, hc2⟩, hr, hb2⟩
        have b2 := Sx.Below.after (w := w) Bel hb2
        have kb2 : Blk w2 w.heap.size [.slice a g.b.length c, .int .i64 (g.safe : Int)] 73 := (by (repeat (first | assumption | (apply Blk.below (hb := hb1); rotate_left; (focus ((try simp only [Sx.sizes]); omega)); rotate_right) | (apply Blk.below (hb := hb2); rotate_left; (focus ((try simp only [Sx.sizes]); omega)); rotate_right) | (apply Blk.below (hb := hb3); rotate_left; (focus ((try simp only [Sx.sizes]); omega)); rotate_right) | (apply Blk.below (hb := hb4); rotate_left; (focus ((try simp only [Sx.sizes]); omega)); rotate_right) | (apply Blk.below (hb := hb5); rotate_left; (focus ((try simp only [Sx.sizes]); omega)); rotate_right) | (apply Blk.below (hb := hb6); rotate_left; (focus ((try simp only [Sx.sizes]); omega)); rotate_right) | (apply Blk.below (hb := hb7); rotate_left; (focus ((try simp only [Sx.sizes]); omega)); rotate_right) | (apply Blk.below (hb := hb8); rotate_left; (focus ((try simp only [Sx.sizes]); omega)); rotate_right) | (apply Blk.below (hb := hb9); rotate_left; (focus ((try simp only [Sx.sizes]); omega)); rotate_right) | exact Blk.newE (by first | rfl | ((try simp only [Sx.sizes]); first | done | omega)) _ _ | exact Blk.put_same (by (try simp only [Sx.sizes]); first | done | omega) _ _ | (apply Blk.put_ne; (focus omega)) | apply Blk.alloc | apply Blk.drew)); done)
        have s2' := hb2.size
        simp only [Sx.sizes] at s2'
        (refine Ga ?_)
        refine W_draw 6 (Grown _) rfl (by kernel_rfl) (grown_start _) ?_
        (refine Qb ?_)
        intro w9 hb9
        have b9 := Sx.Below.after (w := w) Bel hb9
        have h9 := h.below b9
        have c9 : Chg [w.heap.size] w2 w9 := ((Chg.refl _ _).put (by simp) _).trans (Chg.of hb9)
        have hi9 := Ints.chg hr c9 (fun b hb => by
          obtain rfl : b = w.heap.size := by simpa using hb
          exact N8.box kb2)
        apply Lst_mapput (⟨g.b ++ l, g.safe⟩ : Fl) (hmp := h9.2)
        focus rfl
        focus rfl
        focus rfl
        focus rfl
        focus rfl
        focus exact ⟨a2, _, c2, rfl, hi9, hc2, by simp only [List.length_append]; omega⟩
        intro w10 hmp hch hsz
        have h10 := h9.putm hmp hch
        (refine Ga ?_)
        (apply Lst_call; (focus rfl); (focus rfl))
        refine (done_at h10 hc).mono ?_
        rintro v w11 ⟨rfl, hd, hcd⟩
        (refine Ga ?_)
        (apply retQ1; (focus rfl))
        rw [hdd] at hd
        exact ⟨rfl, hd, Chg.chain b9 hch hcd⟩
theorem c_Append (p mb : Nat) (d : Dsk) (hc : d.cut < 9223372036854775808) (n : ByteArray) (sv : Value) (l : List UInt8) (hul : used d.es + l.length ≤ 1099511627776) (hfl : (d.file n).b.length ≤ 1099511627776) (w : World) (h : DkAt w p mb d) (hsv : Ints w .u8 sv (nums l)) :
    Does Tryz.prog 29 #[.pointer (some ⟨p, 0, none⟩), .string n, sv] w fun v w' => v = .int .i64 (d.append n l).1 ∧ DkAt w' p mb (d.append n l).2 ∧ Chg [p, mb] w w' := c_AppendBy p mb d hc n sv l hul hfl w h (.inl hsv)
end Dk
namespace Dk
open Go Go.RowKit Sx Wire
theorem All2.map_eq {β γ δ : Type} {r : β → γ → Prop} {f : β → δ} {g : γ → δ} (hr : ∀ a b, r a b → f a = g b) : ∀ {l : List β} {m : List γ}, All2 r l m → l.map f = m.map g
  | [], [], _ => rfl
  | _ :: _, _ :: _, h => by rw [List.map_cons, List.map_cons, hr _ _ h.1, All2.map_eq hr h.2]
  | [], _ :: _, h => h.elim
  | _ :: _, [], h => h.elim
theorem All2.and_right {β γ : Type} {r : β → γ → Prop} {p : γ → Prop} : ∀ {l : List β} {m : List γ}, All2 r l m → (∀ b ∈ m, p b) → All2 (fun a b => r a b ∧ p b) l m
  | [], [], _, _ => trivial
  | _ :: _, b :: _, h, hp => ⟨⟨h.1, hp b (by simp)⟩, All2.and_right h.2 fun c hc => hp c (by simp [hc])⟩
  | [], _ :: _, h, _ => h.elim
  | _ :: _, [], h, _ => h.elim
theorem All2.left {β γ : Type} {r : β → γ → Prop} : ∀ {l : List β} {m : List γ}, All2 r l m → ∀ a ∈ l, ∃ b, r a b
  | [], [], _, a, ha => by cases ha
  | _ :: _, b :: _, h, a, ha => by
    rcases List.mem_cons.1 ha with rfl | ha
    · exact ⟨b, h.1⟩
    · exact All2.left h.2 a ha
  | [], _ :: _, h, _, _ => h.elim
  | _ :: _, [], h, _, _ => h.elim
/-- The keys, sorted. -/
def keysB {α : Type} (es : List (ByteArray × α)) : List (List UInt8) := es.map fun p => p.1.data.toList
def keysS {α : Type} (es : List (ByteArray × α)) : List (List UInt8) := (keysB es).mergeSort leB
theorem mp_owns {H α : Type} {P : Program} {k : TypeId} (hk : P.underlying k = some .string) {w : World} {mb : Nat} {R : Value → α → Prop} {es : List (ByteArray × α)} (h : MpAt w mb R es) (hs : ∀ p ∈ es, p.1.size ≤ maxLen) (hl : es.length ≤ maxLen) :
    ∃ D : DataW H, w.ownsMap P k (fun _ => some (.nil, [])) mb es.length D ∧ (strKeys D).Perm (keysB es) ∧ Maps.size D = es.length := by
  obtain ⟨arr, clock, hb, hst, hA⟩ := h
  have hlen : arr.size = es.length := by have := hA.len; simpa using this
  have hA2 := All2.and_right (p := fun q => q.1.size ≤ maxLen) hA hs
  have hrd : ∀ (e : MapEntry) (q : ByteArray × α), Ent R e q ∧ q.1.size ≤ maxLen → WideElems.rd (H := H) P k (fun _ => some (.nil, [])) e = some (.string q.1.data.toList, .nil) := by
    rintro e q ⟨h1, h2⟩
    unfold WideElems.rd
    rw [h1.1]
    have : keyOf P k (.string q.1) = some (.string q.1.data.toList) := by simp [keyOf, hk, mapKey, h2]
    rw [this]
    rfl
  refine ⟨_, ⟨arr, clock, hb, ⟨by omega, hst, fun x hx => ?_⟩, by omega, rfl⟩, ?_, ?_⟩
  · obtain ⟨q, hq⟩ := All2.left hA2 x hx
    exact ⟨_, hrd x q hq⟩
  · show ((arr.toList.map (WideElems.rg P k _)).foldr DataW.insert []).map (fun p => strOf p.1) |>.Perm _
    refine ((WideShapes.sorted_perm _).map _).trans ?_
    rw [List.map_map]
    have e := All2.map_eq (f := fun x => strOf (WideElems.rg (H := H) P k (fun _ => some (.nil, [])) x).1) (g := fun q : ByteArray × α => q.1.data.toList) (fun a b h => by
      unfold WideElems.rg
      rw [hrd a b h]
      rfl) hA2
    unfold keysB
    rw [← e]
    exact List.Perm.refl _
  · show ((arr.toList.map (WideElems.rg P k _)).foldr DataW.insert []).length = _
    rw [length_sorted]
    simp [hlen]
theorem sorts (m : Nat) : AnyZ.SortsIn Tryz.prog Tryz.sorted34_ren Fence.wide m :=
  ⟨fun blk off cap ss W hH hblk hsz => callsIn_wide.2 (AnyM.slices_Sort_string Tryz.sort55 blk off cap ss W hH hblk hsz),
   fun p cap W => callsIn_wide.2 (AnyM.slices_Sort_string_none Tryz.sort55 p cap W)⟩
theorem c_Keys (mb : Nat) (w : World) : Does Tryz.prog 35 #[.map (some mb)] w fun v w' => v = .func (.func 56) #[] #[.pointer (some ⟨w.heap.size, 0, none⟩)] ∧ w' = w.alloc (.cells #[.map (some mb)] 47) :=
  ⟨Sx.enters_of Tryz.func35 (by kernel_rfl) rfl, (callsIn_wide.1 (AnyZ.keys_in Tryz.keys35 Fence.wide 5 trivial rfl (some mb) w)).mono fun e w' h => ⟨_, h.1, rfl, h.2⟩⟩
set_option maxHeartbeats 1000000 in
theorem c_Sorted {α : Type} (mb : Nat) (R : Value → α → Prop) (es : List (ByteArray × α)) (w : World) (h : MpAt w mb R es) (hs : ∀ p ∈ es, p.1.size ≤ maxLen) (hl : es.length ≤ 1000000) :
    Does Tryz.prog 34 #[.func (.func 56) #[] #[.pointer (some ⟨w.heap.size, 0, none⟩)]] (w.alloc (.cells #[.map (some mb)] 47)) fun v w' =>
      w'.ownsRow (w.alloc (.cells #[.map (some mb)] 47)).heap.size 9 1 v es.length ((keysS es).map encStr) ∧ Below (w.alloc (.cells #[.map (some mb)] 47)).heap.size (w.alloc (.cells #[.map (some mb)] 47)) w' := by
  refine ⟨Sx.enters_of Tryz.func34 (by kernel_rfl) rfl, ?_⟩
  obtain ⟨D, hown, hp, hz⟩ := mp_owns (H := Unit) (k := 9) Tryz.underlying9 h hs (by simp only [maxLen]; omega)
  have hbl := hown.lt
  have hseq : SeqGives Fence.wide 2 Tryz.prog 56 #[.pointer (some ⟨w.heap.size, 0, none⟩)] encStr (fun ss => ss.Perm (strKeys D)) (Maps.size D) (w.alloc (.cells #[.map (some mb)] 47)) :=
    AnyZ.keys_gives (ρ := Tryz.keys35_ren) { Tryz.keys35 with } Fence.wide _ trivial rfl (by omega) w.heap.size mb es.length D _ (by simp) (by simp) (by
      obtain ⟨es, clock, hb, Ft, hs, hD⟩ := hown
      exact ⟨es, clock, (Below.heap_alloc _ _ mb hbl).trans hb, Ft, hs, hD⟩)
  have := AnyZ.sorted_in Tryz.sorted34 Fence.wide 5 trivial trivial trivial trivial rfl (by omega) (sorts _) (Go.Proofs.enters_of Tryz.func55 (by kernel_rfl) rfl) 56 #[.pointer (some ⟨w.heap.size, 0, none⟩)] trivial (Go.Proofs.enters_of Tryz.func56 (by kernel_rfl) rfl) _ _ (by rw [hz]; simp only [maxLen]; omega) (by rw [hz]; omega) _ hseq
  refine (callsIn_wide.1 this).mono ?_
  rintro e w' ⟨v, ss, rfl, hS, hrow, _, hb⟩
  have hS2 := hS.trans hp
  have e1 : ss.length = es.length := by rw [hS2.length_eq]; unfold keysB; simp
  refine ⟨v, rfl, ?_, hb⟩
  rw [e1] at hrow
  unfold keysS
  rw [← mergeSort_of_perm hS2]
  exact hrow
end Dk
namespace Dk
open Go Go.RowKit Sx Wire
open Go.Proofs (encStr)
/-- Strings behind a slice. -/
def Strs (w : World) (v : Value) (ss : List (List UInt8)) : Prop :=
  ∃ b cap, (v = .slice (some ⟨b, 0, none⟩) ss.length cap ∨ (v = .slice none 0 0 ∧ ss = [])) ∧ (ss ≠ [] → b < w.heap.size) ∧ ∀ j (h : j < ss.length), w.cell? ⟨b, j, none⟩ = some (.string ⟨ss[j].toArray⟩)
theorem Strs.form {w : World} {v : Value} {ss : List (List UInt8)} (h : Strs w v ss) : ∃ a c, v = .slice a ss.length c := by
  obtain ⟨b, cap, hf | ⟨hf, rfl⟩, _⟩ := h
  · exact ⟨_, _, hf⟩
  · exact ⟨_, _, hf⟩
theorem Strs.at {w : World} {ss : List (List UInt8)} {a : Option Addr} {n c : Nat} (h : Strs w (.slice a n c) ss) {j : Nat} (hj : j < ss.length) : ∃ b, a = some ⟨b, 0, none⟩ ∧ w.cell? ⟨b, j, none⟩ = some (.string ⟨ss[j].toArray⟩) := by
  obtain ⟨b, cap, hf, _, hr⟩ := h
  rcases hf with hf | ⟨hf, rfl⟩
  · cases hf
    exact ⟨b, rfl, hr j hj⟩
  · exact absurd hj (Nat.not_lt_zero _)
def NS (w : World) (b : Nat) : Prop := ∀ off s, w.cell? ⟨b, off, none⟩ ≠ some (.string s)
theorem Strs.chg {bs : List Nat} {w w' : World} {v : Value} {ss : List (List UInt8)} (h : Strs w v ss) (hc : Chg bs w w') (hn : ∀ b ∈ bs, NS w b) : Strs w' v ss := by
  obtain ⟨b, cap, h1, h2, h3⟩ := h
  refine ⟨b, cap, h1, fun hz => Nat.lt_of_lt_of_le (h2 hz) hc.size, fun j hj => ?_⟩
  have hlt := h2 (by intro e; subst e; simp at hj)
  have hnb : b ∉ bs := fun hb => hn b hb _ _ (h3 j hj)
  have e : w'.cell? ⟨b, j, none⟩ = w.cell? ⟨b, j, none⟩ := by simp only [World.cell?, hc.block b hlt hnb]
  rw [e]
  exact h3 j hj
theorem Strs.below {w w' : World} {v : Value} {ss : List (List UInt8)} (h : Strs w v ss) (hb : Below w.heap.size w w') : Strs w' v ss := h.chg (bs := []) (.of hb) (by simp)
theorem Strs.of_own {w : World} {base e nn : Nat} {v : Value} {ss : List (List UInt8)} (h : w.ownsRow base e 1 v nn (ss.map encStr)) : Strs w v ss := by
  obtain ⟨hl, h⟩ := h
  simp at hl
  rcases h with ⟨rfl, hn⟩ | ⟨g, cap, cur, rfl, _, hg, _, _, hs, ht⟩
  · have hz : ss = [] := List.eq_nil_of_length_eq_zero (by omega)
    subst hz
    exact ⟨0, 0, .inr ⟨rfl, rfl⟩, fun e => absurd rfl e, fun j hj => by simp at hj⟩
  · refine ⟨g, cap, .inl (by rw [hl]), fun _ => (Array.getElem?_eq_some_iff.1 hg).1, fun j hj => ?_⟩
    have hj' : cur.toList[j]? = some (encStr ss[j]) := by
      have : (cur.toList.take (nn * 1))[j]? = some (encStr ss[j]) := by rw [ht]; simp [hj]
      rw [List.getElem?_take] at this
      split at this
      · exact this
      · cases this
    have : cur[j]? = some (encStr ss[j]) := by simpa using hj'
    simp [World.cell?, hg, this, encStr]
theorem NS.map {w : World} {mb : Nat} {α : Type} {R : Value → α → Prop} {es : List (ByteArray × α)} (h : MpAt w mb R es) : NS w mb := fun off z => by rw [h.not_cells]; simp
theorem NS.blk {w : World} {p mb : Nat} {r c : Int} {d : Bool} {e : TypeId} (h : Blk w p [.map (some mb), .int .i64 r, .int .i64 c, .bool d] e) : NS w p := fun off z => by
  rw [h.cell off]
  match off with
  | 0 => simp
  | 1 => simp
  | 2 => simp
  | 3 => simp
  | n + 4 => simp
theorem DkAt.ns {w : World} {p mb : Nat} {d : Dsk} (h : DkAt w p mb d) : ∀ b ∈ [p, mb], NS w b := by
  intro b hb
  simp only [List.mem_cons, List.not_mem_nil, or_false] at hb
  rcases hb with rfl | rfl
  · exact NS.blk h.1
  · exact NS.map h.2
/-- The names that a disk may have. -/
def Names (d : Dsk) : Prop := (∀ p ∈ d.es, p.1.size ≤ 32) ∧ d.es.length ≤ 1000000
theorem Names.max {d : Dsk} (h : Names d) : ∀ p ∈ d.es, p.1.size ≤ maxLen := fun p hp => by have := h.1 p hp; simp only [maxLen]; omega
def Dsk.list (d : Dsk) : List (List UInt8) := if d.dead then [] else keysS d.es
theorem keysS_len {α : Type} (es : List (ByteArray × α)) : (keysS es).length = es.length := by unfold keysS keysB; rw [List.length_mergeSort, List.length_map]
attribute [local irreducible] W Lst Qst Pu seqQ blkQ rndQ cutQ retQ Does Enters IntKind.wrap bits sb World.alloc World.putObj Blk
theorem c_List (p mb : Nat) (d : Dsk) (hn : Names d) (w : World) (h : DkAt w p mb d) : Does Tryz.prog 20 #[.pointer (some ⟨p, 0, none⟩)] w fun v w' => Strs w' v d.list ∧ Below w.heap.size w w' := by
  refine Does_of (args := [.pointer (some ⟨p, 0, none⟩)]) Tryz.func20 (by kernel_rfl) rfl rfl rfl rfl rfl ?_
  have hb := h.1
  have hlt := hb.lt
  unfold Dsk.list
  cases hdd : d.dead with
  | true =>
    rw [hdd] at hb
    (refine Ga ?_)
    (apply retQ1; (focus rfl))
    exact ⟨⟨0, 0, .inr ⟨rfl, rfl⟩, fun e => absurd rfl e, fun j hj => by simp at hj⟩, Bel⟩
  | false =>
    rw [hdd] at hb
    (refine Ga ?_)
    (apply Lst_call; (focus rfl); (focus rfl))
    refine (c_Keys mb w).mono ?_
    rintro v w1 ⟨rfl, rfl⟩
    (refine Ga ?_)
    (apply Lst_call; (focus rfl); (focus rfl))
    refine (c_Sorted mb _ d.es w h.2 hn.max hn.2).mono ?_
    rintro v w2 ⟨hown, hb2⟩
    have hs := Strs.of_own hown
    obtain ⟨a, c, rfl⟩ := hs.form
    (refine Ga ?_)
    (apply retQ1; (focus rfl))
    exact ⟨hs, Sx.Below.after (w := w) Bel hb2⟩
/-- How much of a file a crash leaves. -/
def crEnd (keep : List Int) (i : Nat) (f : Fl) : Int := (f.safe : Int) + (if i < keep.length then min (max (keep.getD i 0) 0) ((f.b.length : Int) - f.safe) else 0)
def crF (keep : List Int) (i : Nat) (f : Fl) : Fl := ⟨f.b.take (crEnd keep i f).toNat, (crEnd keep i f).toNat⟩
def nameAt (ns : List (List UInt8)) (i : Nat) : ByteArray := ⟨(ns.getD i []).toArray⟩
/-- The files when the first i names are done. -/
def crN (keep : List Int) (ns : List (List UInt8)) (es : List (ByteArray × Fl)) : Nat → List (ByteArray × Fl)
  | 0 => es
  | i + 1 => Sx.put (crN keep ns es i) (nameAt ns i) (crF keep i ((Sx.look (crN keep ns es i) (nameAt ns i)).getD f0))
theorem look_put {α : Type} (k n : ByteArray) (a : α) : ∀ (l : List (ByteArray × α)), Sx.look (Sx.put l k a) n = if k = n then some a else Sx.look l n
  | [] => by simp [Sx.put, Sx.look]
  | q :: l => by
    unfold Sx.put
    by_cases h : q.1 = k
    · rw [if_pos h]
      unfold Sx.look
      by_cases hn : k = n
      · rw [if_pos hn, if_pos hn]
      · rw [if_neg hn, if_neg hn, if_neg (by rw [h]; exact hn)]
    · rw [if_neg h]
      unfold Sx.look
      by_cases hq : q.1 = n
      · rw [if_pos hq, if_pos hq, if_neg (fun e => h (hq.trans e.symm))]
      · rw [if_neg hq, if_neg hq]; exact look_put k n a l
def Small (es : List (ByteArray × Fl)) : Prop := ∀ n f, Sx.look es n = some f → f.b.length ≤ 1099511627776
theorem Small.file {es : List (ByteArray × Fl)} (h : Small es) (n : ByteArray) : ((Sx.look es n).getD f0).b.length ≤ 1099511627776 := by
  cases hl : Sx.look es n with
  | none => simp [f0]
  | some f => exact h n f hl
theorem Small.crN {es : List (ByteArray × Fl)} (h : Small es) (keep : List Int) (ns : List (List UInt8)) : ∀ i, Small (crN keep ns es i)
  | 0 => h
  | i + 1 => by
    have ih := Small.crN h keep ns i
    intro n f hf
    unfold Dk.crN at hf
    rw [look_put] at hf
    split at hf
    · cases hf
      have := ih.file (nameAt ns i)
      unfold crF
      dsimp only
      rw [List.length_take]
      omega
    · exact ih n f hf
theorem cell_lt {w : World} {b off : Nat} {v : Value} (h : w.cell? ⟨b, off, none⟩ = some v) : b < w.heap.size := by
  rcases Nat.lt_or_ge b w.heap.size with hl | hl
  · exact hl
  · simp [World.cell?, Array.getElem?_eq_none hl] at h
theorem Ints.keep {w w' : World} {kk : IntKind} {v : Value} {zs : List Int} {mb : Nat} {α : Type} {R : Value → α → Prop} {es : List (ByteArray × α)} (h : Ints w kk v zs) (hc : Chg [mb] w w') (hm : MpAt w mb R es) : Ints w' kk v zs := by
  obtain ⟨b, off, cap, h1, h2, h3⟩ := h
  refine ⟨b, off, cap, h1, fun hz => Nat.lt_of_lt_of_le (h2 hz) hc.size, fun j hj => ?_⟩
  have hlt := h2 (by intro e; subst e; simp at hj)
  have hn : b ∉ [mb] := fun hb => by
    obtain rfl : b = mb := by simpa using hb
    have := h3 j hj
    rw [hm.not_cells] at this
    cases this
  have e : w'.cell? ⟨b, off + j, none⟩ = w.cell? ⟨b, off + j, none⟩ := by simp only [World.cell?, hc.block b hlt hn]
  rw [e]
  exact h3 j hj
def Dsk.crash (d : Dsk) (keep : List Int) : Dsk := { d with es := crN keep (keysS d.es) d.es d.es.length, dead := false, cut := -1 }
theorem c_Crash (p mb : Nat) (d : Dsk) (hn : Names d) (hsm : Small d.es) (kv : Value) (keep : List Int) (hkl : keep.length ≤ 1000000) (hkb : ∀ k ∈ keep, -9223372036854775808 ≤ k ∧ k < 9223372036854775808) (w : World) (h : DkAt w p mb d) (hk : Ints w .i64 kv keep) :
    Does Tryz.prog 18 #[.pointer (some ⟨p, 0, none⟩), kv] w fun v w' => v = .tuple #[] ∧ DkAt w' p mb (d.crash keep) ∧ Chg [p, mb] w w' := by
  obtain ⟨k1, k2, rfl⟩ := hk.form
  refine Does_of (args := [.pointer (some ⟨p, 0, none⟩), .slice k1 keep.length k2]) Tryz.func18 (by kernel_rfl) rfl rfl rfl rfl rfl ?_
  have hb := h.1
  have hlt := hb.lt
  (refine Ga ?_)
  (apply Lst_call; (focus rfl); (focus rfl))
  refine (c_Keys mb w).mono ?_
  rintro v w1 ⟨rfl, rfl⟩
  (refine Ga ?_)
  (apply Lst_call; (focus rfl); (focus rfl))
  refine (c_Sorted mb _ d.es w h.2 hn.max hn.2).mono ?_
  rintro v w2 ⟨hown, hb2⟩
  have hs := Strs.of_own hown
  obtain ⟨a, c, rfl⟩ := hs.form
  have b2 : Below w.heap.size w w2 := Sx.Below.after (w := w) Bel hb2
  have h2 := h.below b2
  have hk2 := Ints.below hk b2 (Nat.le_refl _)
  rw [keysS_len] at *
  clear hown hb2
  (refine Ga ?_)
  refine W_loop (α := Nat) (fun i => [(0, .pointer (some ⟨p, 0, none⟩)), (1, .slice k1 keep.length k2), (14, .slice a d.es.length c), (15, .int .i64 (d.es.length : Int)), (16, .int .i64 (i : Int))])
    (fun i A => i ≤ d.es.length ∧ DkAt A p mb { d with es := crN keep (keysS d.es) d.es i } ∧ Strs A (.slice a d.es.length c) (keysS d.es) ∧ Ints A .i64 (.slice k1 keep.length k2) keep ∧ Chg [mb] w A) (fun i _ => d.es.length - i) 0
    ⟨Nat.zero_le _, h2, hs, hk2, .of b2⟩ ⟨rfl, rfl, rfl, rfl, rfl, trivial⟩ ?_
  clear h2 hs hk2 b2 w2
  rintro J i A ⟨hi, hd, hs, hk2, hcA⟩
  have hbA := hd.1
  have hlA := hbA.lt
  have hnl := hn.2
  by_cases hil : i < d.es.length
  · obtain ⟨b', ha, hcell⟩ := hs.at (j := i) (by rw [keysS_len]; exact hil)
    subst ha
    have hname : (⟨((keysS d.es)[i]'(by rw [keysS_len]; exact hil)).toArray⟩ : ByteArray) = nameAt (keysS d.es) i := by
      unfold nameAt
      congr 2
      simp [List.getD, keysS_len, hil]
    rw [hname] at hcell
    have hcell' : A.cell? ⟨b', 0 + i, none⟩ = some (.string (nameAt (keysS d.es) i)) := by rw [Nat.zero_add]; exact hcell
    have hsz := (hsm.crN keep (keysS d.es) i).file (nameAt (keysS d.es) i)
    have hstep : crN keep (keysS d.es) d.es (i + 1) = Sx.put (crN keep (keysS d.es) d.es i) (nameAt (keysS d.es) i) (crF keep i ((Sx.look (crN keep (keysS d.es) d.es i) (nameAt (keysS d.es) i)).getD f0)) := rfl
    generalize nameAt (keysS d.es) i = nm at hcell' hsz hstep
    (refine Ga ?_)
    apply Lst_mapget (hmp := hd.2) (z := fz)
    focus rfl
    focus rfl
    focus rfl
    focus rfl
    focus exact fzero _
    focus rfl
    intro v there hg
    obtain ⟨a, c', rfl, hi', hmc, hss⟩ := Got.file (d := { d with es := crN keep (keysS d.es) d.es i }) hg
    clear hg
    have hfile : Dsk.file { d with es := crN keep (keysS d.es) d.es i } nm = (Sx.look (crN keep (keysS d.es) d.es i) nm).getD f0 := rfl
    rw [hfile] at hi' hmc hss ⊢
    generalize (Sx.look (crN keep (keysS d.es) d.es i) nm).getD f0 = g at hi' hmc hss hsz hstep ⊢
    by_cases hik : i < keep.length
    · have hEe : ((g.safe : Int) + min (max (keep.getD i 0) 0) ((g.b.length : Int) - (g.safe : Int))) = crEnd keep i g := by unfold crEnd; rw [if_pos hik]
      have hE0 : (g.safe : Int) ≤ crEnd keep i g := by rw [← hEe]; omega
      have hE1 : crEnd keep i g ≤ (g.b.length : Int) := by rw [← hEe]; omega
      obtain ⟨kb, ko, hka, hkc⟩ := hk2.at hik
      subst hka
      have hkr := hkb (keep.getD i 0) (by rw [List.getD, List.getElem?_eq_getElem hik]; simp)
      (refine Ga ?_)
      refine W_draws (Grown _) rfl (by kernel_rfl) (grown_start _) ?_
      (refine Qb ?_)
      apply Qst_loadc
      focus rfl
      focus rfl
      focus rfl
      focus (
        intro A9 hb9
        have bA : Below A.heap.size A A9 := Sx.Below.after (w := A) Bel hb9
        exact (bA.cell (p := ⟨kb, ko + i, none⟩) (cell_lt hkc)).trans hkc)
      focus rfl
      (refine Qb ?_)
      intro w3 hb3
      have b3 : Below A.heap.size A w3 := Sx.Below.after (w := A) Bel hb3
      have s3 := hb3.size
      simp only [Sx.sizes] at s3
      (refine Ga ?_)
      refine W_draw 12 (Grown _) rfl (by kernel_rfl) (grown_start _) ?_
      (refine Qb ?_)
      apply Qst_pu
      · apply P_lslice3
        focus rfl
        focus rfl
        focus rfl
        focus rfl
        focus rfl
        focus rfl
        focus omega
        focus omega
      focus rfl
      (refine Qb ?_)
      intro w9 hb9
      have b9 : Below A.heap.size A w9 := Sx.Below.after (w := A) Bel hb9
      have h9 := hd.below b9
      have hi9 := Ints.below hi' b9 (Nat.le_refl _)
      apply Lst_mapput (crF keep i g) (hmp := h9.2)
      focus rfl
      focus rfl
      focus rfl
      focus rfl
      focus rfl
      focus (
        have e := Ints.cut hi9 (crEnd keep i g).toNat (by omega)
        show FileV w9 (.agg #[sliced a 0 ((g.safe : Int) + min (max (keep.getD i 0) 0) ((g.b.length : Int) - (g.safe : Int))).toNat ((g.safe : Int) + min (max (keep.getD i 0) 0) ((g.b.length : Int) - (g.safe : Int))).toNat 1, .int .i64 ((g.safe : Int) + min (max (keep.getD i 0) 0) ((g.b.length : Int) - (g.safe : Int)))]) _
        rw [hEe, e.2]
        have e1 := e.1
        rw [e.2] at e1
        have e2 : (((crEnd keep i g).toNat : Nat) : Int) = crEnd keep i g := by omega
        refine ⟨a, (crEnd keep i g).toNat, (crEnd keep i g).toNat, by rw [show (crF keep i g).safe = (crEnd keep i g).toNat from rfl, e2], ?_, Nat.le_refl _, ?_⟩
        · unfold crF
          unfold nums at e1 ⊢
          rwa [List.map_take]
        · unfold crF
          dsimp only
          rw [List.length_take]
          omega)
      intro w10 hmp hch hsz10
      have h10 := h9.putm hmp hch
      have cA : Chg [mb] A w10 := (Chg.of b9).trans hch
      have nA := NS.map hd.2
      (refine Ga ?_)
      refine rndQ_n (α := Nat) (i + 1) ⟨by omega, ?_, hs.chg cA (fun b hb => ?_), ?_, hcA.trans cA⟩ ⟨rfl, rfl, rfl, rfl, ?_, trivial⟩ (by omega)
      · rw [hstep]
        exact h10
      · obtain rfl : b = mb := by simpa using hb
        exact nA
      · exact Ints.keep hk2 cA hd.2
      · show Value.int .i64 ((i : Int) + 1) = Value.int .i64 ((i + 1 : Nat) : Int)
        rw [Int.natCast_add]
        rfl
    · have hEe : ((g.safe : Int) + 0) = crEnd keep i g := by unfold crEnd; rw [if_neg hik]
      have hE0 : (g.safe : Int) ≤ crEnd keep i g := by rw [← hEe]; omega
      have hE1 : crEnd keep i g ≤ (g.b.length : Int) := by rw [← hEe]; omega
      (refine Ga ?_)
      refine W_draw 12 (Grown _) rfl (by kernel_rfl) (grown_start _) ?_
      (refine Qb ?_)
      apply Qst_pu
      · apply P_lslice3
        focus rfl
        focus rfl
        focus rfl
        focus rfl
        focus rfl
        focus rfl
        focus omega
        focus omega
      focus rfl
      (refine Qb ?_)
      intro w9 hb9
      have b9 : Below A.heap.size A w9 := Sx.Below.after (w := A) Bel hb9
      have h9 := hd.below b9
      have hi9 := Ints.below hi' b9 (Nat.le_refl _)
      apply Lst_mapput (crF keep i g) (hmp := h9.2)
      focus rfl
      focus rfl
      focus rfl
      focus rfl
      focus rfl
      focus (
        have e := Ints.cut hi9 (crEnd keep i g).toNat (by omega)
        show FileV w9 (.agg #[sliced a 0 ((g.safe : Int) + 0).toNat ((g.safe : Int) + 0).toNat 1, .int .i64 ((g.safe : Int) + 0)]) _
        rw [hEe, e.2]
        have e1 := e.1
        rw [e.2] at e1
        have e2 : (((crEnd keep i g).toNat : Nat) : Int) = crEnd keep i g := by omega
        refine ⟨a, (crEnd keep i g).toNat, (crEnd keep i g).toNat, by rw [show (crF keep i g).safe = (crEnd keep i g).toNat from rfl, e2], ?_, Nat.le_refl _, ?_⟩
        · unfold crF
          unfold nums at e1 ⊢
          rwa [List.map_take]
        · unfold crF
          dsimp only
          rw [List.length_take]
          omega)
      intro w10 hmp hch hsz10
      have h10 := h9.putm hmp hch
      have cA : Chg [mb] A w10 := (Chg.of b9).trans hch
      have nA := NS.map hd.2
      (refine Ga ?_)
      refine rndQ_n (α := Nat) (i + 1) ⟨by omega, ?_, hs.chg cA (fun b hb => ?_), ?_, hcA.trans cA⟩ ⟨rfl, rfl, rfl, rfl, ?_, trivial⟩ (by omega)
      · rw [hstep]
        exact h10
      · obtain rfl : b = mb := by simpa using hb
        exact nA
      · exact Ints.keep hk2 cA hd.2
      · show Value.int .i64 ((i : Int) + 1) = Value.int .i64 ((i + 1 : Nat) : Int)
        rw [Int.natCast_add]
        rfl
  · obtain rfl : i = d.es.length := by omega
    (refine Ga ?_)
    apply retQ0n
    refine ⟨rfl, DkAt.cells (d' := d.crash keep) hd (((Chg.refl _ _).put (by simp) _).put (by simp) _) ?_ rfl, (hcA.mono (by simp)).trans (((Chg.refl _ _).put (by simp) _).put (by simp) _)⟩
    exact (by (repeat (first | assumption | (apply Blk.below (hb := hb1); rotate_left; (focus ((try simp only [Sx.sizes]); omega)); rotate_right) | (apply Blk.below (hb := hb2); rotate_left; (focus ((try simp only [Sx.sizes]); omega)); rotate_right) | (apply Blk.below (hb := hb3); rotate_left; (focus ((try simp only [Sx.sizes]); omega)); rotate_right) | (apply Blk.below (hb := hb4); rotate_left; (focus ((try simp only [Sx.sizes]); omega)); rotate_right) | (apply Blk.below (hb := hb5); rotate_left; (focus ((try simp only [Sx.sizes]); omega)); rotate_right) | (apply Blk.below (hb := hb6); rotate_left; (focus ((try simp only [Sx.sizes]); omega)); rotate_right) | (apply Blk.below (hb := hb7); rotate_left; (focus ((try simp only [Sx.sizes]); omega)); rotate_right) | (apply Blk.below (hb := hb8); rotate_left; (focus ((try simp only [Sx.sizes]); omega)); rotate_right) | (apply Blk.below (hb := hb9); rotate_left; (focus ((try simp only [Sx.sizes]); omega)); rotate_right) | exact Blk.newE (by first | rfl | ((try simp only [Sx.sizes]); first | done | omega)) _ _ | exact Blk.put_same (by (try simp only [Sx.sizes]); first | done | omega) _ _ | (apply Blk.put_ne; (focus omega)) | apply Blk.alloc | apply Blk.drew)); done)
end Dk
namespace Dk
open Go Go.RowKit Sx Wire
attribute [local irreducible] W Lst Qst Pu seqQ blkQ rndQ cutQ retQ Does Enters IntKind.wrap bits sb World.alloc World.putObj Blk
theorem c_CloneC (v : Value) (l : List UInt8) (hl : l.length ≤ 1000000) (w : World) (h : Ints w .u8 v (nums l)) : Does Tryz.prog 60 #[v] w fun u w' => (Ints w' .u8 u (nums l) ∧ ∃ a c, u = .slice a l.length c ∧ l.length ≤ c) ∧ Below w.heap.size w w' :=
  (Wire.c_CloneC v l (by omega) w h).mono fun _ _ h => ⟨⟨h.1.1, h.2⟩, h.1.2⟩
theorem c_ReadC (p mb : Nat) (d : Dsk) (n : ByteArray) (hl : (d.file n).b.length ≤ 1000000) (w : World) (h : DkAt w p mb d) : Does Tryz.prog 39 #[.pointer (some ⟨p, 0, none⟩), .string n] w fun v w' =>
    (∃ sv, v = .tuple #[sv, .int .i64 (d.read n).2] ∧ Ints w' .u8 sv (nums (d.read n).1) ∧ ∃ a c, sv = .slice a (d.read n).1.length c ∧ (d.read n).1.length ≤ c) ∧ Below w.heap.size w w' := by
  refine Does_of (args := [.pointer (some ⟨p, 0, none⟩), .string n]) Tryz.func39 (by kernel_rfl) rfl rfl rfl rfl rfl ?_
  have hb := h.1
  have hlt := hb.lt
  unfold Dsk.read
  (refine Ga ?_)
  (apply Lst_call; (focus rfl); (focus rfl))
  refine (c_is p mb d n _ h).mono ?_
  rintro v w1 ⟨rfl, hb1⟩
  have b1 := Sx.Below.after (w := w) Bel hb1
  have s1 := hb1.size
  try simp only [Sx.sizes] at s1
  have h1 := h.below hb1
  by_cases h0 : d.isE n = 0
  · rw [if_pos h0]
    (refine Ga ?_)
    apply Lst_mapget (hmp := h1.2) (z := fz)
    focus rfl
    focus rfl
    focus rfl
    focus rfl
    focus exact fzero _
    focus rfl
    intro v there hg
    obtain ⟨a, c, rfl, hi, hmc, hs⟩ := Got.file hg
    clear hg
    generalize d.file n = g at hi hmc hs hl ⊢
    (refine Ga ?_)
    (apply Lst_call; (focus rfl); (focus rfl))
    refine (c_CloneC _ g.b hl _ hi).mono ?_
    rintro u w2 ⟨⟨hu, u1, u2, rfl, hlc⟩, hb2⟩
    (refine Ga ?_)
    apply retQ2
    focus rfl
    focus rfl
    exact ⟨⟨_, rfl, hu, _, _, rfl, hlc⟩, b1.trans (hb2.mono b1.size)⟩
  · rw [if_neg h0]
    (refine Ga ?_)
    apply retQ2
    focus rfl
    focus rfl
    exact ⟨⟨_, rfl, ⟨0, 0, 0, .inr ⟨⟨none, rfl⟩, rfl⟩, fun e => absurd rfl e, fun j hj => by simp [nums] at hj⟩, none, 0, rfl, Nat.le_refl _⟩, b1⟩
end Dk
end Go.Proofs.YtfocnbmihcnaoaaGreatDoor
