/- The walks of wire.Writer: bytes, numbers, texts; copies of bytes. -/
import Derived.Test.YtoljcnlmockpcaaProg
import Derived.Test.YtoljcnlmockpcaaSxGo
import Derived.Lib.AppendStr
import Derived.Lib.Varint
namespace Go.Proofs.Ytoljcnlmockpcaa
set_option maxRecDepth 100000
namespace Wire
open Go Go.RowKit Sx
/-- A byte as a cell. -/
def bc (x : UInt8) : Value := .int .u8 (x.toNat : Int)
/-- Whatever lies below B stays, but for the block b. -/
structure Off (b B : Nat) (w w' : World) : Prop where
  os : w'.os = w.os
  tape : w'.tape = w.tape
  output : w'.output = w.output
  size : w.heap.size ≤ w'.heap.size
  block : ∀ g, g < B → g ≠ b → w'.heap[g]? = w.heap[g]?
  typed : ∀ K pl T, K ≠ b → T ≠ 5 → Blk w K pl T → Blk w' K pl T
theorem Off.refl (b B : Nat) (w : World) : Off b B w w := ⟨rfl, rfl, rfl, Nat.le_refl _, fun _ _ _ => rfl, fun _ _ _ _ _ h => h⟩
theorem Off.trans {b B : Nat} {x y z : World} (h : Off b B x y) (k : Off b B y z) : Off b B x z :=
  ⟨k.os.trans h.os, k.tape.trans h.tape, k.output.trans h.output, Nat.le_trans h.size k.size, fun g h1 h2 => (k.block g h1 h2).trans (h.block g h1 h2), fun K pl T h1 h2 h3 => k.typed K pl T h1 h2 (h.typed K pl T h1 h2 h3)⟩
theorem Off.below {b B N : Nat} {w w' : World} (h : Off b B w w') (hb : N ≤ b) (hB : N ≤ B) : Below N w w' :=
  ⟨h.os, h.tape, h.output, h.size, fun k hk => h.block k (by omega) (by omega)⟩
theorem own_typed {w : World} {B b nn T : Nat} {v : Value} {xs l : List Value} (h : w.ownsRow B 5 1 v nn xs) (hT : T ≠ 5) (hb : Blk w b l T) : v.ownBlock ≠ some b := by
  intro he
  obtain ⟨_, ⟨rfl, _⟩ | ⟨g, cap, cur, rfl, _, hg, _⟩⟩ := h
  · simp [Value.ownBlock] at he
  · simp only [Value.ownBlock, Option.some.injEq] at he
    subst he
    unfold Blk at hb
    rw [hb] at hg
    simp at hg
    exact hT hg.2
theorem Off.grown {b B : Nat} {w w' : World} {nn : Nat} {v : Value} {xs : List Value} (hown : w.ownsRow B 5 1 v nn xs) (hg : w.grownBy w' v.ownBlock) (hB : B ≤ w.heap.size) : Off b B w w' :=
  ⟨hg.os, hg.tape, hg.output, hg.size, fun g h1 _ => hg.block g (by omega) (fun e => by have := own_ne hown h1 g e.symm; omega), fun _ _ _ _ h2 h3 => h3.grown hg (fun k hk e => own_typed hown h2 h3 (by rw [hk, e]))⟩
theorem Off.put {b B : Nat} {x w : World} (h : Off b B x w) (o : Obj) : Off b B x (w.putObj b o) :=
  ⟨h.os, h.tape, h.output, by rw [World.putObj_size]; exact h.size, fun g h1 h2 => (World.putObj_heap_other h2).trans (h.block g h1 h2), fun K pl T h1 h2 h3 => (World.putObj_heap_other h1).trans (h.typed K pl T h1 h2 h3)⟩
/-- A writer in a block of its own, that holds these bytes; its row lies from B on. -/
def WrAt (b B : Nat) (l : List UInt8) (w : World) : Prop := B ≤ w.heap.size ∧ ∃ sv, Blk w b [sv] 103 ∧ w.ownsRow B 5 1 sv l.length (l.map bc) ∧ sv.ownBlock ≠ some b
theorem own_off {w : World} {B b nn : Nat} {v : Value} {xs l : List Value} (h : w.ownsRow B 5 1 v nn xs) (hb : Blk w b l 103) : v.ownBlock ≠ some b := by
  intro he
  obtain ⟨_, ⟨rfl, _⟩ | ⟨g, cap, cur, rfl, _, hg, _⟩⟩ := h
  · simp [Value.ownBlock] at he
  · simp only [Value.ownBlock, Option.some.injEq] at he
    subst he
    unfold Blk at hb
    rw [hb] at hg
    simp at hg
theorem WrAt.new (w : World) (B : Nat) (hB : B ≤ w.heap.size) : WrAt w.heap.size B [] (w.alloc (.cells [.slice none 0 0].toArray 103)) :=
  ⟨by rw [World.size_alloc]; omega, .slice none 0 0, Blk.newE rfl _ _, World.ownsRow_nil _ _ _ _, by simp [Value.ownBlock]⟩
theorem own_put' {w : World} {B b nn : Nat} {v : Value} {xs : List Value} (h : w.ownsRow B 5 1 v nn xs) (hne : v.ownBlock ≠ some b) (o : Obj) : (w.putObj b o).ownsRow B 5 1 v nn xs :=
  h.kept (row := some b) ⟨rfl, rfl, rfl, by rw [World.putObj_size]; exact Nat.le_refl _, fun k _ hk => World.putObj_heap_other (fun e => hk (by rw [e]))⟩ (.inr hne)
section rules
variable {P : Program} {rd : Option Nat} {n : Nat} {ops : Array Oper} {Q : Post} {rest : List Oper} {F : Fr} {ds : List Deferred} {w : World} {ty : TypeId} {pos : String} {after : Array Edge}
/-- append(b, s...) of a string. -/
theorem Lst_sappend {d : Nat} {s x : Operand} {t u e base nn : Nat} {i : TypeInfo} {v : Value} {xs : List Value} {str : ByteArray} (hown : w.ownsRow base e 1 v nn xs) (hs : ev F s = v) (hx : ev F x = .string str) (ht : P.underlying t = some (.slice e)) (hu : P.underlying u = some .string) (hi : P.info? e = some i) (hz : i.zero = some (.int .u8 0))
    (hsize : i.size = 1) (hby : i.bytes = 1) (hd : Nat.blt d n = true) (hbytes : nn + str.size ≤ 140737488355328) (hbase : base ≤ w.heap.size)
    (h : ∀ v' w', w'.ownsRow base e 1 v' (nn + str.size) (xs ++ Lib.strCells str) → w.grownBy w' v.ownBlock → Lst P rd n ops Q rest (upd F d v') ds w') :
    Lst P rd n ops Q (⟨some d, .call { callee := .builtin .append, args := #[s, x], argTypes := #[t, u] }, ty, pos, after, none⟩ :: rest) F ds w := by
  obtain ⟨v', w', hrun, h2, h3, h4⟩ := Lib.run_append_own_string (P := P) (w := w) base t u ty e i ht hu hi hz hsize hby v nn xs hown str (by simp only [maxLen]; omega) hbytes hbase
  refine Lst_value (v := v') (w' := w') rfl ?_ hd (h v' w' h2 h3)
  simp [execOp, resolve, invoke, builtin, hs, hx, hrun]
end rules
theorem or128 (n : Nat) : bits .or .u8 ((n % 256 : Nat) : Int) 128 = ((n % 128 + 128 : Nat) : Int) := by
  have e1 : (BitVec.ofInt 8 ((n % 256 : Nat) : Int)).toNat = n % 256 := by
    rw [BitVec.toNat_ofInt]; omega
  have e2 : (BitVec.ofInt 8 128).toNat = 128 := by decide
  show IntKind.u8.wrap ((BitVec.ofInt 8 ((n % 256 : Nat) : Int) ||| BitVec.ofInt 8 128).toNat : Int) = _
  rw [BitVec.toNat_or, e1, e2]
  have h : ∀ k : Fin 256, (k.1 ||| 128) = k.1 % 128 + 128 := by decide
  have := h ⟨n % 256, Nat.mod_lt _ (by omega)⟩
  simp only at this
  rw [this]
  rw [show n % 256 % 128 = n % 128 by omega]
  exact wu8 (by omega) (by omega)
theorem bc_of (n : Nat) (h : n < 256) : bc n.toUInt8 = .int .u8 (n : Int) := by
  unfold bc
  rw [show n.toUInt8.toNat = n % 256 from UInt8.toNat_ofNat ..]
  rw [Nat.mod_eq_of_lt h]
attribute [local irreducible] W Lst Qst Pu seqQ blkQ rndQ cutQ retQ Does Enters IntKind.wrap bits sb World.alloc World.putObj Blk
theorem c_Byte (b B : Nat) (l : List UInt8) (c : UInt8) (w : World) (h : WrAt b B l w) (hlen : l.length + 1 ≤ 140737488355328) : Does Try.prog 56 #[.pointer (some ⟨b, 0, none⟩), bc c] w fun v w' => v = .tuple #[] ∧ WrAt b B (l ++ [c]) w' ∧ Off b B w w' := by
  refine Does_of (args := [.pointer (some ⟨b, 0, none⟩), bc c]) Try.func56 (by kernel_rfl) rfl rfl rfl rfl rfl ?_
  obtain ⟨hB, sv, hblk, hown, hne⟩ := h
  unfold bc
  (refine Ga ?_)
  apply Lst_push (hown := hown) (bytes := 1)
  ((focus constructor); (focus rfl); (focus rfl); (focus rfl); (focus rfl); (focus rfl); (focus rfl); (focus rfl); (focus rfl); (focus rfl); (focus rfl); (focus simp [Value.oneCell']); (focus rfl); (focus rfl); (focus rfl); (focus rfl); (focus omega); (focus omega); (focus omega))
  intro v' w2 ho' hg _
  have hblk2 := hblk.grown hg (fun k hk e => hne (by rw [hk, e]))
  have hne2 := own_off ho' hblk2
  have hoff : Off b B w w2 := Off.grown hown hg hB
  obtain ⟨v1, v2, v3, rfl⟩ := own_slice ho'
  (refine Ga ?_)
  apply retQ0n
  refine ⟨rfl, ⟨?_, _, Blk.put_same hblk2.lt _ _, ?_, hne2⟩, hoff.put _⟩
  · rw [World.putObj_size]
    exact Nat.le_trans hB hoff.size
  · rw [List.length_append, List.map_append]
    exact own_put' ho' hne2 _
theorem c_UintAt (b B : Nat) (l : List UInt8) (n : Nat) (hn : n < 18446744073709551616) (w : World) (h : WrAt b B l w) (hlen : l.length + 20 ≤ 140737488355328) : Does Try.prog 55 #[.pointer (some ⟨b, 0, none⟩), .int .u64 (n : Int)] w fun v w' => v = .tuple #[] ∧ WrAt b B (l ++ Lib.uvarint n) w' ∧ Off b B w w' := by
  refine Does_of (args := [.pointer (some ⟨b, 0, none⟩), .int .u64 (n : Int)]) Try.func55 (by kernel_rfl) rfl rfl rfl rfl rfl ?_
  (refine Ga ?_)
  refine W_loop (α := Nat × List UInt8) (fun x => [(0, .pointer (some ⟨b, 0, none⟩)), (1, .int .u64 (x.1 : Int))])
    (fun x A => x.1 < 18446744073709551616 ∧ x.2 ++ Lib.uvarint x.1 = l ++ Lib.uvarint n ∧ WrAt b B x.2 A ∧ Off b B w A) (fun x _ => x.1) (n, l) ⟨hn, rfl, h, Off.refl _ _ _⟩ ⟨rfl, rfl, trivial⟩ ?_
  clear h
  rintro J ⟨m, k⟩ A ⟨hm, hk, h, hoff⟩
  dsimp only at hm hk h ⊢
  have hlen2 : k.length + 1 ≤ l.length + 10 := by
    have e := congrArg List.length hk
    rw [List.length_append, List.length_append] at e
    have h1 := Lib.uvarint_length64 hn
    have h2 : 1 ≤ (Lib.uvarint m).length := by
      rw [Lib.uvarint]; split <;> simp
    omega
  obtain ⟨hB, sv, hblk, hown, hne⟩ := h
  by_cases hge : 128 ≤ m
  · have hw8 : IntKind.u8.wrap (m : Int) = ((m % 256 : Nat) : Int) := by
      simp [IntKind.wrap, IntKind.signed, IntKind.bits]
    have ho := or128 m
    (refine Ga ?_)
    apply Lst_push (hown := hown) (bytes := 1)
    ((focus constructor); (focus rfl); (focus rfl); (focus rfl); (focus rfl); (focus rfl); (focus rfl); (focus rfl); (focus rfl); (focus rfl); (focus rfl); (focus simp [Value.oneCell']); (focus rfl); (focus rfl); (focus rfl); (focus rfl); (focus omega); (focus omega); (focus omega))
    intro v' w2 ho' hg _
    have hblk2 := hblk.grown hg (fun k hk e => hne (by rw [hk, e]))
    have hne2 := own_off ho' hblk2
    have hoff2 : Off b B A w2 := Off.grown hown hg hB
    obtain ⟨v1, v2, v3, rfl⟩ := own_slice ho'
    (refine Ga ?_)
    refine rndQ_n (m / 128, k ++ [(m % 128 + 128).toUInt8]) ⟨?_, ?_, ⟨?_, _, Blk.put_same hblk2.lt _ _, ?_, hne2⟩, ?_⟩ ⟨rfl, ?_, trivial⟩ ?_
    · dsimp only; omega
    · dsimp only
      rw [← hk, Lib.uvarint_big hge, List.append_assoc]
      rfl
    · rw [World.putObj_size]
      exact Nat.le_trans hB hoff2.size
    · dsimp only
      rw [List.length_append, List.map_append]
      have := own_put' ho' hne2 (.cells [.slice v1 v2 v3].toArray 103)
      rw [List.map_singleton, bc_of _ (by omega)]
      exact this
    · exact (hoff.trans hoff2).put _
    · show Value.int .u64 _ = _
      congr 1
    · dsimp only
      omega
  · have hw8 : IntKind.u8.wrap (m : Int) = (m : Int) := wu8 (by omega) (by omega)
    (refine Ga ?_)
    apply Lst_push (hown := hown) (bytes := 1)
    ((focus constructor); (focus rfl); (focus rfl); (focus rfl); (focus rfl); (focus rfl); (focus rfl); (focus rfl); (focus rfl); (focus rfl); (focus rfl); (focus simp [Value.oneCell']); (focus rfl); (focus rfl); (focus rfl); (focus rfl); (focus omega); (focus omega); (focus omega))
    intro v' w2 ho' hg _
    have hblk2 := hblk.grown hg (fun k hk e => hne (by rw [hk, e]))
    have hne2 := own_off ho' hblk2
    have hoff2 : Off b B A w2 := Off.grown hown hg hB
    obtain ⟨v1, v2, v3, rfl⟩ := own_slice ho'
    (refine Ga ?_)
    apply retQ0n
    refine ⟨rfl, ⟨?_, _, Blk.put_same hblk2.lt _ _, ?_, hne2⟩, (hoff.trans hoff2).put _⟩
    · rw [World.putObj_size]
      exact Nat.le_trans hB hoff2.size
    · rw [← hk, Lib.uvarint_small (by omega), List.length_append, List.map_append]
      have := own_put' ho' hne2 (.cells [.slice v1 v2 v3].toArray 103)
      rw [List.map_singleton, bc_of _ (by omega)]
      exact this
end Wire
end Go.Proofs.Ytoljcnlmockpcaa
