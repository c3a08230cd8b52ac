/- The walks of wire.Writer, continued: numbers below nought, eight bytes, texts; copies of bytes. -/
import Derived.Test.YtoljcnlmockpcaaWire
import Derived.Laws.BytesArg
namespace Go.Proofs.Ytoljcnlmockpcaa
set_option maxRecDepth 100000
namespace Wire
open Go Go.RowKit Sx
theorem xor_all (x : Nat) (h : x < 18446744073709551616) : bits .xor .u64 (x : Int) 18446744073709551615 = ((18446744073709551615 - x : Nat) : Int) := by
  have e2 : BitVec.ofInt 64 18446744073709551615 = BitVec.allOnes 64 := by decide
  show IntKind.u64.wrap ((BitVec.ofInt 64 (x : Int) ^^^ BitVec.ofInt 64 18446744073709551615).toNat : Int) = _
  rw [e2, BitVec.xor_allOnes, BitVec.toNat_not]
  have e1 : (BitVec.ofInt 64 (x : Int)).toNat = x := by
    rw [BitVec.toNat_ofInt]; omega
  rw [e1, show 2 ^ 64 - 1 - x = 18446744073709551615 - x by omega]
  exact wu64 (by omega) (by omega)
theorem xor_none (x : Nat) (h : x < 18446744073709551616) : bits .xor .u64 (x : Int) 0 = (x : Int) := by
  show IntKind.u64.wrap ((BitVec.ofInt 64 (x : Int) ^^^ BitVec.ofInt 64 0).toNat : Int) = _
  rw [show BitVec.ofInt 64 0 = 0#64 by decide, BitVec.xor_zero]
  have e1 : (BitVec.ofInt 64 (x : Int)).toNat = x := by
    rw [BitVec.toNat_ofInt]; omega
  rw [e1]
  exact wu64 (by omega) (by omega)
theorem zz_lt {n : Int} (h0 : -9223372036854775808 ≤ n) (h1 : n < 9223372036854775808) : Lib.zigzag n < 18446744073709551616 := by
  unfold Lib.zigzag
  split <;> omega
/-- The last k bytes of a number, the greatest first. -/
def fixN : Nat → Nat → List UInt8
  | 0, _ => []
  | k + 1, n => (n / 256 ^ k % 256).toUInt8 :: fixN k n
theorem fixN_length : ∀ k n, (fixN k n).length = k
  | 0, _ => rfl
  | k + 1, n => by simp [fixN, fixN_length k]
section rules
variable {P : Program} {rd : Option Nat} {n : Nat} {ops : Array Oper} {Q : Post} {rest : List Oper} {F : Fr} {ds : List Deferred} {w : World} {ty : TypeId} {pos : String} {after : Array Edge}
/-- Bytes behind a slice. -/
def nums (l : List UInt8) : List Int := l.map fun x => (x.toNat : Int)
theorem nums_map (l : List UInt8) : (nums l).map (Value.int .u8) = l.map bc := by
  unfold nums bc
  rw [List.map_map]
  rfl
/-- string(b) of bytes that are only read. -/
theorem Lst_bytesI {d t t' e : Nat} {x : Operand} {v : Value} {l : List UInt8} (hx : ev F x = v) (hv : Ints w .u8 v (nums l)) (ht : P.underlying t = some (.slice e)) (he : P.underlying e = some (.int .u8)) (ht' : P.underlying t' = some .string) (hd : Nat.blt d n = true)
    (h : Lst P rd n ops Q rest (upd F d (.string ⟨l.toArray⟩)) ds w) : Lst P rd n ops Q (⟨some d, .convert t t' x, ty, pos, after, none⟩ :: rest) F ds w := by
  obtain ⟨b, off, cap, h1, h2, h3⟩ := hv
  rcases h1 with rfl | ⟨rfl, hz⟩
  · refine Lst_bytes (l := l) hx (by simp [nums]) ht he ht' (fun j hj => ?_) hd h
    have := h3 j (by simp [nums]; exact hj)
    rw [this]
    simp [nums]
  · have hl : l = [] := by simpa [nums] using hz
    subst hl
    refine Lst_value (v := .string ⟨[].toArray⟩) (w' := w) rfl ?_ hd h
    have := run_convert_bytes_nil (P := P) (w := w) t e ht he 0 0 t' ht'
    simp [execOp, hx, this]
    rfl
/-- []T{}: none. -/
theorem Lst_none {d t e B : Nat} {i : TypeInfo} (ht : P.underlying t = some (.slice e)) (hi : P.info? e = some i) (hB : w.heap.size = B) (hd : Nat.blt d n = true)
    (h : Lst P rd n ops Q rest (upd F d (.slice (some ⟨B, 0, none⟩) 0 0)) ds (w.alloc (.cells #[] e))) : Lst P rd n ops Q (⟨some d, .buildSlice t 0 #[], ty, pos, after, none⟩ :: rest) F ds w :=
  Lst_value rfl (by
    subst hB
    have hsz : (sizeOf e).run P w = .ok i.size w := by simp [sizeOf, typeInfo, hi]
    have e0 : Array.map (fun _ => (default : Value)) (Array.range 0) = #[] := by simp
    simp [execOp, Instr.buildSlice, run_underlying ht, hsz, Instr.fill, newRow]
    exact congrArg (fun x => w.alloc (.cells x e)) e0) hd h
theorem guard_slice_nil {op : BinOp} {t : TypeId} {x y : Operand} {b : Option Addr} {m c : Nat} : (eqGuard op t x y (.slice b m c) (.slice none 0 0)).run P w = .ok () w := by
  cases op <;> simp [eqGuard, Sem.run_pure]
theorem run_slice_nil {t te : TypeId} (b : Option Addr) (m c : Nat) (w : World) (ht : P.underlying t = some (.slice te)) : (Op.equal t (.slice b m c) (.slice none 0 0)).run P w = .ok b.isNone w := by
  have h : ∀ d : Nat, (Op.equalIn (d + 1) t (.slice b m c) (.slice none 0 0)).run P w = .ok b.isNone w := fun d => by
    cases b <;> simp [Op.equalIn, run_underlying ht]
  simp [Op.equal, Op.maxDepth, h 9999]
theorem P_slice_nil {t t' te : TypeId} {x y : Operand} {b : Option Addr} {m c : Nat} {r : Bool} (hx : ev F x = .slice b m c) (hy : ev F y = .slice none 0 0) (ht : P.underlying t = some (.slice te)) (hr : b.isNone = r) : Pu P F (.binOp .eql t x y t') ty (.bool r) :=
  fun _ _ _ w => bin_run hx hy guard_slice_nil (by
    subst hr
    have := run_slice_nil b m c w ht
    simp only [binOp, Sem.run_bind, this]
    rfl)
end rules
theorem wrap_0 : IntKind.u64.wrap 0 = 0 := by decide
theorem wrap_m1 : IntKind.u64.wrap (-1) = 18446744073709551615 := by decide
theorem shr_nn {n : Int} (h0 : 0 ≤ n) (h1 : n < 9223372036854775808) : n.fdiv (2 ^ (min (63 : Int).toNat IntKind.i64.bits)) = 0 := by
  rw [show (2 : Int) ^ (min (63 : Int).toNat IntKind.i64.bits) = 9223372036854775808 by decide, Int.fdiv_eq_ediv_of_nonneg _ (by decide)]
  omega
theorem shr_neg {n : Int} (h0 : n < 0) (h1 : -9223372036854775808 ≤ n) : n.fdiv (2 ^ (min (63 : Int).toNat IntKind.i64.bits)) = -1 := by
  rw [show (2 : Int) ^ (min (63 : Int).toNat IntKind.i64.bits) = 9223372036854775808 by decide, Int.fdiv_eq_ediv_of_nonneg _ (by decide)]
  omega
theorem pow8 (k : Nat) : (2 : Int) ^ (8 * k) = ((256 ^ k : Nat) : Int) := by
  rw [Int.pow_mul]
  simp
theorem shr8 (n j : Nat) (hj : j < 8) : ((n : Int)).fdiv (2 ^ (min ((8 * j : Nat) : Int).toNat IntKind.u64.bits)) = ((n / 256 ^ j : Nat) : Int) := by
  rw [Int.toNat_natCast, show min (8 * j) IntKind.u64.bits = 8 * j from Nat.min_eq_left (by show 8 * j ≤ 64; omega), pow8, Int.fdiv_eq_ediv_of_nonneg _ (Int.natCast_nonneg _)]
  exact (Int.natCast_ediv n (256 ^ j)).symm
theorem Blk_new (w : World) (e : TypeId) : (w.alloc (.cells #[] e)).heap[w.heap.size]? = some (.cells #[] e (0, 0)) := Blk.newE (l := []) rfl _
attribute [local irreducible] W Lst Qst Pu seqQ blkQ rndQ cutQ retQ Does Enters IntKind.wrap bits sb World.alloc World.putObj Blk
theorem c_TextAt (b B : Nat) (l : List UInt8) (s : ByteArray) (w : World) (h : WrAt b B l w) (hlen : l.length + s.size + 20 ≤ 140737488355328) : Does Try.prog 57 #[.pointer (some ⟨b, 0, none⟩), .string s] w fun v w' => v = .tuple #[] ∧ WrAt b B (l ++ (Lib.uvarint s.size ++ s.data.toList)) w' ∧ Off b B w w' := by
  refine Does_of (args := [.pointer (some ⟨b, 0, none⟩), .string s]) Try.func57 (by kernel_rfl) rfl rfl rfl rfl rfl ?_
  have hw : IntKind.u64.wrap (s.size : Int) = ((s.size : Nat) : Int) := wu64 (by omega) (by omega)
  (refine Ga ?_)
  (apply Lst_call; (focus rfl); (focus rfl))
  refine (c_UintAt b B l s.size (by omega) _ h (by omega)).mono ?_
  rintro v w1 ⟨rfl, ⟨hB, sv, hblk, hown, hne⟩, hoff⟩
  (refine Ga ?_)
  apply Lst_sappend (hown := hown)
  focus rfl
  focus rfl
  focus rfl
  focus rfl
  focus rfl
  focus rfl
  focus rfl
  focus rfl
  focus rfl
  focus (rw [List.length_append]; have := Lib.uvarint_length64 (show s.size < 18446744073709551616 by omega); omega)
  focus exact hB
  intro v' w2 ho' hg
  have hblk2 := hblk.grown hg (fun k hk e => hne (by rw [hk, e]))
  have hne2 := own_off ho' hblk2
  have hoff2 : Off b B w1 w2 := Off.grown hown hg hB
  obtain ⟨v1, v2, v3, rfl⟩ := own_slice ho'
  (refine Ga ?_)
  apply retQ0n
  refine ⟨rfl, ⟨?_, _, Blk.put_same hblk2.lt _ _, ?_, hne2⟩, (hoff.trans hoff2).put _⟩
  · rw [World.putObj_size]
    exact Nat.le_trans hB hoff2.size
  · have := own_put' ho' hne2 (.cells [.slice v1 v2 v3].toArray 103)
    rw [← List.append_assoc, List.length_append, List.map_append]
    exact this
theorem c_CloneO (v : Value) (l : List UInt8) (hl : l.length ≤ 1000000) (w : World) (h : Ints w .u8 v (nums l)) : Does Try.prog 59 #[v] w fun u w' => w'.ownsRow w.heap.size 5 1 u l.length (l.map bc) ∧ Below w.heap.size w w' := by
  refine Does_of (args := [v]) Try.func59 (by kernel_rfl) rfl rfl rfl rfl rfl ?_
  obtain ⟨g, off, cap, h1, h2, h3⟩ := h
  rcases h1 with rfl | ⟨rfl, hz⟩
  · (refine Ga ?_)
    apply Lst_pu
    · apply P_slice_nil
      focus rfl
      focus rfl
      focus rfl
      focus rfl
    focus rfl
    (refine Ga ?_)
    apply Lst_none
    focus rfl
    focus rfl
    focus rfl
    focus rfl
    (refine Ga ?_)
    have hlen : (nums l).length = l.length := by simp [nums]
    have hown : (w.alloc (.cells #[] 5)).ownsRow w.heap.size 5 1 (.slice (some ⟨w.heap.size, 0, none⟩) 0 0) 0 [] :=
      ⟨rfl, .inr ⟨w.heap.size, 0, #[], rfl, Nat.le_refl _, Blk_new w _, Nat.le_refl _, Nat.zero_le _, rfl, rfl⟩⟩
    apply Lst_append (hown := hown) (bytes := 1) (news := l.map bc)
    focus rfl
    focus rfl
    focus rfl
    focus rfl
    focus rfl
    focus rfl
    focus rfl
    focus rfl
    focus rfl
    focus (
      intro j u hu
      have hj : j < l.length := by
        have := (List.getElem?_eq_some_iff.1 hu).1
        simpa using this
      have hg : g < w.heap.size := h2 (fun e => by rw [e] at hlen; simp at hlen; omega)
      have h3' := h3 j (by omega)
      have hk : (w.alloc (.cells #[] 5)).cell? ⟨g, off + j, none⟩ = w.cell? ⟨g, off + j, none⟩ := ((Below.refl w.heap.size w).alloc (Nat.le_refl _) _).cell hg
      rw [hk, h3']
      rw [List.getElem?_map, List.getElem?_eq_getElem hj] at hu
      rw [← Option.some.inj hu]
      simp [nums, bc])
    focus (rw [List.length_map]; omega)
    focus (intro u hu; simp only [List.mem_map] at hu; obtain ⟨c, _, rfl⟩ := hu; rfl)
    focus omega
    focus omega
    focus (rw [World.size_alloc]; omega)
    focus rfl
    intro v' w2 ho' hg' _
    obtain ⟨v1, v2, v3, rfl⟩ := own_slice ho'
    (refine Ga ?_)
    (apply retQ1; (focus rfl))
    refine ⟨?_, ?_⟩
    · rw [List.nil_append, Nat.zero_add, hlen] at ho'
      exact ho'
    · exact Below.grown ((Below.refl w.heap.size w).alloc (Nat.le_refl _) _) hg' (by rw [World.size_alloc]; omega) (fun k hk => by
        have : w.heap.size = k := by simpa [Value.ownBlock] using hk
        omega)
  · (refine Ga ?_)
    apply Lst_pu
    · apply P_slice_nil
      focus rfl
      focus rfl
      focus rfl
      focus rfl
    focus rfl
    (refine Ga ?_)
    (apply retQ1; (focus rfl))
    have hn : l = [] := by simpa [nums] using hz
    subst hn
    exact ⟨World.ownsRow_nil _ _ _ _, Bel⟩
theorem c_CloneC (v : Value) (l : List UInt8) (hl : l.length ≤ 1000000) (w : World) (h : Ints w .u8 v (nums l)) : Does Try.prog 59 #[v] w fun u w' => (Ints w' .u8 u (nums l) ∧ Below w.heap.size w w') ∧ ∃ a c, u = .slice a l.length c ∧ l.length ≤ c :=
  (c_CloneO v l hl w h).mono fun u w' h => ⟨⟨by
    have ho := h.1
    rw [← nums_map] at ho
    exact Ints.of_own ho, h.2⟩, own_form h.1⟩
theorem c_Clone (v : Value) (l : List UInt8) (hl : l.length ≤ 1000000) (w : World) (h : Ints w .u8 v (nums l)) : Does Try.prog 59 #[v] w fun u w' => Ints w' .u8 u (nums l) ∧ Below w.heap.size w w' :=
  (c_CloneC v l hl w h).mono fun _ _ h => h.1
theorem h_Bytes (u v : Value) (l k : List UInt8) (w : World) (h : Ints w .u8 u (nums l)) (h' : Ints w .u8 v (nums k)) : Does Try.prog 21 #[u, v] w fun r w' => r = .bool (decide (l = k)) ∧ w = w' := by
  refine Does_of (args := [u, v]) Try.func21 (by kernel_rfl) rfl rfl rfl rfl rfl ?_
  (refine Ga ?_)
  apply Lst_bytesI (l := l)
  focus rfl
  focus exact h
  focus rfl
  focus rfl
  focus rfl
  focus rfl
  (refine Ga ?_)
  apply Lst_bytesI (l := k)
  focus rfl
  focus exact h'
  focus rfl
  focus rfl
  focus rfl
  focus rfl
  by_cases he : l = k
  · have hs : (⟨l.toArray⟩ : ByteArray) = ⟨k.toArray⟩ := by rw [he]
    (refine Ga ?_)
    (apply retQ1; (focus rfl))
    exact ⟨by rw [decide_eq_true he]; rfl, rfl⟩
  · have hs : ¬ (⟨l.toArray⟩ : ByteArray) = ⟨k.toArray⟩ := fun e => he (by simpa using congrArg (fun x : ByteArray => x.data.toList) e)
    (refine Ga ?_)
    (apply retQ1; (focus rfl))
    exact ⟨by rw [decide_eq_false he]; rfl, rfl⟩
theorem c_WBytesO (b B : Nat) (l : List UInt8) (hl : l.length ≤ 1000000) (w : World) (h : WrAt b B l w) : Does Try.prog 58 #[.pointer (some ⟨b, 0, none⟩)] w fun u w' => w'.ownsRow w.heap.size 5 1 u l.length (l.map bc) ∧ Below w.heap.size w w' := by
  refine Does_of (args := [.pointer (some ⟨b, 0, none⟩)]) Try.func58 (by kernel_rfl) rfl rfl rfl rfl rfl ?_
  obtain ⟨hB, sv, hblk, hown, hne⟩ := h
  rw [← nums_map] at hown
  have hi := Ints.of_own hown
  obtain ⟨v1, v2, v3, rfl⟩ := own_slice hown
  (refine Ga ?_)
  (apply Lst_call; (focus rfl); (focus rfl))
  refine (c_CloneO _ l hl _ hi).mono ?_
  rintro u w1 ⟨hu, hb⟩
  obtain ⟨v4, v5, v6, rfl⟩ := own_slice hu
  (refine Ga ?_)
  (apply retQ1; (focus rfl))
  exact ⟨hu, hb⟩
theorem Ints.ofO {w : World} {B nn : Nat} {u : Value} {l : List UInt8} (h : w.ownsRow B 5 1 u nn (l.map bc)) : Ints w .u8 u (nums l) := by
  rw [← nums_map] at h
  exact Ints.of_own h
theorem c_WBytes (b B : Nat) (l : List UInt8) (hl : l.length ≤ 1000000) (w : World) (h : WrAt b B l w) : Does Try.prog 58 #[.pointer (some ⟨b, 0, none⟩)] w fun u w' => Ints w' .u8 u (nums l) ∧ Below w.heap.size w w' :=
  (c_WBytesO b B l hl w h).mono fun _ _ h => ⟨Ints.ofO h.1, h.2⟩
end Wire
end Go.Proofs.Ytoljcnlmockpcaa
