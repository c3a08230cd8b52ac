/- Rules of our calculus of walks, one for each kind of operation, over any program. Printed by gen_ops.py. -/
import Derived.Test.YtoljcnlmockpcaaSx
import Derived.RangeFuncRecord
import Derived.IntWalk
import Derived.Laws.BitsLemmas
import Derived.Laws.BitsAllLaws
namespace Go.Proofs.Ytoljcnlmockpcaa
namespace Sx
open Go Go.RowKit

/-- A value that is written out: forces what the frame holds. -/
inductive Fc : Value → Value → Prop
  | int (k : IntKind) (m : Int) : Fc (.int k m) (.int k m)
  | bool (b : Bool) : Fc (.bool b) (.bool b)
  | ptr (a : Option Addr) : Fc (.pointer a) (.pointer a)
  | string (s : ByteArray) : Fc (.string s) (.string s)
  | slice (a : Option Addr) (l c : Nat) : Fc (.slice a l c) (.slice a l c)
  | agg (cs : Array Value) : Fc (.agg cs) (.agg cs)
  | map (r : Option Nat) : Fc (.map r) (.map r)
  | tuple (vs : Array Value) : Fc (.tuple vs) (.tuple vs)
  | float (k : FloatKind) (b : Nat) : Fc (.float k b) (.float k b)
  | func (f : Fn) (a b : Array Value) : Fc (.func f a b) (.func f a b)
  | nilFunc : Fc .nilFunc .nilFunc
  | iface (t : TypeId) (v : Value) : Fc (.iface t v) (.iface t v)
  | nilIface : Fc .nilIface .nilIface
  | other (v : Value) : Fc v v
inductive FcL : List Value → List Value → Prop
  | nil : FcL [] []
  | cons {v u : Value} {l k : List Value} (h : Fc v u) (t : FcL l k) : FcL (v :: l) (u :: k)
theorem Fc.eq {a b : Value} (h : Fc a b) : a = b := by cases h <;> rfl
theorem FcL.eq {a b : List Value} (h : FcL a b) : a = b := by
  induction h with
  | nil => rfl
  | cons h _ ih => rw [h.eq, ih]

/-- A list with one place set, written out. -/
inductive SetR : List Value → Nat → Value → List Value → Prop
  | zero (x v : Value) (l : List Value) : SetR (x :: l) 0 v (v :: l)
  | succ (x v : Value) (l k : List Value) (j : Nat) (h : SetR l j v k) : SetR (x :: l) (j + 1) v (x :: k)
theorem SetR.eq {l k : List Value} {j : Nat} {v : Value} (h : SetR l j v k) : l.set j v = k := by
  induction h with
  | zero => rfl
  | succ _ _ _ _ _ _ ih => simp [ih]
theorem SetR.some {l k : List Value} {j : Nat} {v : Value} (h : SetR l j v k) : ∃ o, l[j]? = Option.some o := by
  induction h with
  | zero => exact ⟨_, rfl⟩
  | succ _ _ _ _ _ _ ih => simpa using ih

theorem wi64 {m : Int} (a : -9223372036854775808 ≤ m) (b : m ≤ 9223372036854775807) : IntKind.i64.wrap m = m := by simp [IntKind.wrap, IntKind.signed, IntKind.bits]; omega
theorem wu64 {m : Int} (a : 0 ≤ m) (b : m ≤ 18446744073709551615) : IntKind.u64.wrap m = m := by simp [IntKind.wrap, IntKind.signed, IntKind.bits]; omega
theorem wi32 {m : Int} (a : -2147483648 ≤ m) (b : m ≤ 2147483647) : IntKind.i32.wrap m = m := by simp [IntKind.wrap, IntKind.signed, IntKind.bits]; omega
theorem wu32 {m : Int} (a : 0 ≤ m) (b : m ≤ 4294967295) : IntKind.u32.wrap m = m := by simp [IntKind.wrap, IntKind.signed, IntKind.bits]; omega
theorem wu16 {m : Int} (a : 0 ≤ m) (b : m ≤ 65535) : IntKind.u16.wrap m = m := by simp [IntKind.wrap, IntKind.signed, IntKind.bits]; omega
theorem wu8 {m : Int} (a : 0 ≤ m) (b : m ≤ 255) : IntKind.u8.wrap m = m := by simp [IntKind.wrap, IntKind.signed, IntKind.bits]; omega

set_option maxRecDepth 10000 in
theorem and192 {x : Int} (h0 : 0 ≤ x) (h1 : x < 256) : bits .and .u8 x 192 = x / 64 * 64 := by
  obtain ⟨a, rfl⟩ := Int.eq_ofNat_of_zero_le h0
  have key : ∀ b : Fin 256, b.val &&& 192 = b.val / 64 * 64 := by decide
  have h : a &&& 192 = a / 64 * 64 := key ⟨a, by omega⟩
  have e := u8_and_nat a 192 (by omega) (by omega)
  have e2 : bits .and .u8 (a : Int) 192 = ((a &&& 192 : Nat) : Int) := e
  rw [e2, h]
  omega
/-- Byte i of a string. -/
def sb (s : ByteArray) (i : Nat) : Int := ((s.data.toList.getD i 0).toNat : Int)
theorem sb_lo (s : ByteArray) (i : Nat) : 0 ≤ sb s i := by unfold sb; omega
theorem sb_hi (s : ByteArray) (i : Nat) : sb s i ≤ 255 := by
  unfold sb
  have := (s.data.toList.getD i 0).toNat_lt
  omega
/-- A block of cells that is known whole, none of them frozen. -/
def Blk (w : World) (b : Nat) (l : List Value) (e : TypeId) : Prop := w.heap[b]? = some (.cells l.toArray e (0, 0))

section ops
variable {P : Program} {rd : Option Nat} {n : Nat} {ops : Array Oper} {Q : Post} {rest : List Oper} {F : Fr} {ds : List Deferred} {w : World} {a : Act} {ty : TypeId} {pos : String} {after : Array Edge}

theorem Blk.lt {b : Nat} {l : List Value} {e : TypeId} (h : Blk w b l e) : b < w.heap.size := (Array.getElem?_eq_some_iff.1 h).1
theorem Blk.new (w : World) (l : List Value) (e : TypeId) : Blk (w.alloc (.cells l.toArray e)) w.heap.size l e := World.alloc_heap_new w _
theorem Blk.newE {b : Nat} (h : w.heap.size = b) (l : List Value) (e : TypeId) : Blk (w.alloc (.cells l.toArray e)) b l e := h ▸ Blk.new w l e
theorem Blk.alloc {b : Nat} {l : List Value} {e : TypeId} (h : Blk w b l e) (o : Obj) : Blk (w.alloc o) b l e := (Below.heap_alloc w o b h.lt).trans h
theorem size_drew (w : World) : w.drew.heap.size = w.heap.size := rfl
theorem Blk.drew {b : Nat} {l : List Value} {e : TypeId} (h : Blk w b l e) : Blk w.drew b l e := h
theorem Blk.put_same {b : Nat} (h : b < w.heap.size) (l : List Value) (e : TypeId) : Blk (w.putObj b (.cells l.toArray e)) b l e := World.putObj_heap_same h
theorem Blk.put_ne {b c : Nat} {l : List Value} {e : TypeId} {o : Obj} (hn : b ≠ c) (h : Blk w b l e) : Blk (w.putObj c o) b l e := (World.putObj_heap_other hn).trans h
theorem Blk.below {B b : Nat} {l : List Value} {e : TypeId} {w' : World} (h : Blk w b l e) (hb : Below B w w') (hl : b < B) : Blk w' b l e := (hb.block b hl).trans h
theorem Blk.cell {b : Nat} {l : List Value} {e : TypeId} (h : Blk w b l e) (off : Nat) : w.cell? ⟨b, off, none⟩ = l[off]? := by
  unfold World.cell?
  unfold Blk at h
  rw [h]
  simp
theorem Blk.frozen {b : Nat} {l : List Value} {e : TypeId} (h : Blk w b l e) (off : Nat) : w.frozen? ⟨b, off, none⟩ = false := by
  unfold World.frozen?
  unfold Blk at h
  rw [h]
  simp
theorem Blk.set {b : Nat} {l : List Value} {e : TypeId} (h : Blk w b l e) (off : Nat) (v : Value) : w.setCell ⟨b, off, none⟩ v = w.putObj b (.cells (l.set off v).toArray e) := by
  unfold World.setCell World.putObj
  unfold Blk at h
  congr 1
  obtain ⟨hl, hv⟩ := Array.getElem?_eq_some_iff.1 h
  apply Array.ext
  · simp
  · intro i h1 h2
    by_cases e' : i = b
    · subst e'
      simp [Array.getElem_modify, hv]
    · simp only [Array.getElem_modify, Ne.symm e', if_false]
      exact (Array.getElem_setIfInBounds_ne _ (Ne.symm e')).symm

theorem Lst_nil (h : Q .normal F ds w) : Lst P rd n ops Q [] F ds w := fun _ _ hf => ⟨F, ds, hf, h⟩
theorem wanted_none {o : Oper} (hg : o.guard = none) (y : Nat → Option Bool) : Region.wanted o y = true := by simp [Region.wanted, hg]
/-- In a round, too, an operation that is no defer statement is carried out as everywhere. -/
theorem sem_same {o : Oper} {ρ : Operand → Value} (h : ∀ c, o.op ≠ .defer c) : o.semAt (E rd).round ρ = execOp ρ o := by
  rw [E_round]
  cases rd with
  | none => rfl
  | some l => exact Oper.semAt_some l ρ o h
theorem no_defer {o : Oper} {ρ : Operand → Value} {r : Next} {w' : World} (hrun : (execOp ρ o).run P w = .ok r w') (hr : ∀ d, r ≠ .defer d) : ∀ c, o.op ≠ .defer c := by
  intro c hc
  unfold execOp at hrun
  rw [hc] at hrun
  simp only [Sem.run_bind] at hrun
  cases h : (resolve ρ c o.type).run P w with
  | ok d w1 => rw [h] at hrun; simp [Result.andThen, Sem.run_pure] at hrun; exact hr d hrun.1.symm
  | halt x w1 => rw [h] at hrun; simp [Result.andThen] at hrun
theorem Lst_value {o : Oper} {v : Value} {w' : World} (hg : o.guard = none) (hrun : (execOp (ev F) o).run P w = .ok (.value v) w') (hd : okd n o.dst = true)
    (h : Lst P rd n ops Q rest (updO F o.dst v) ds w') : Lst P rd n ops Q (o :: rest) F ds w := fun m a hf => by
  unfold wpListIn
  rw [if_pos (wanted_none hg _)]
  refine ⟨fun f _ => E_fn rd f, ?_⟩
  rw [hf.eval, sem_same (no_defer hrun (by simp)), hrun]
  exact h m _ (hf.put v hd)
theorem Lst_unit {o : Oper} {w' : World} (hg : o.guard = none) (hrun : (execOp (ev F) o).run P w = .ok .skip w') (hd : okd n o.dst = true)
    (h : Lst P rd n ops Q rest (updO F o.dst undef) ds w') : Lst P rd n ops Q (o :: rest) F ds w := fun m a hf => by
  unfold wpListIn
  rw [if_pos (wanted_none hg _)]
  refine ⟨fun f _ => E_fn rd f, ?_⟩
  rw [hf.eval, sem_same (no_defer hrun (by simp)), hrun]
  exact h m _ (hf.put undef hd)
theorem Lst_enter {o : Oper} {w' : World} {f : Nat} {args : Array Value} (hg : o.guard = none) (hrun : (execOp (ev F) o).run P w = .ok (.enter f args) w') (hd : okd n o.dst = true)
    (h : Calls P f args w' fun e w'' => ∃ v, e = .returned v ∧ Lst P rd n ops Q rest (updO F o.dst v) ds w'') : Lst P rd n ops Q (o :: rest) F ds w := fun m a hf => by
  unfold wpListIn
  rw [if_pos (wanted_none hg _)]
  refine ⟨fun f _ => E_fn rd f, ?_⟩
  rw [hf.eval, sem_same (no_defer hrun (by simp)), hrun, Oper.uponIn_enter]
  refine ⟨E_one rd m, E_calls.2 (h.mono ?_)⟩
  rintro e w2 ⟨v, rfl, hl⟩
  exact hl m _ (hf.put v hd)

/-! ### Guards -/
theorem slot_bool {t : Array Value} {d : Nat} {b : Bool} (h : t.getD d undef = .bool b) : t[d]? = some (.bool b) := by
  by_cases hd : d < t.size
  · simp [Array.getD, hd] at h
    simp [hd, h]
  · simp [Array.getD, hd, undef] at h
theorem slot_undef {t : Array Value} {d : Nat} (h : t.getD d undef = undef) : t[d]? = some undef ∨ t[d]? = none := by
  by_cases hd : d < t.size
  · simp [Array.getD, hd] at h
    simp [hd, h]
  · simp [hd]
def dstOf (l : List Oper) (j : Nat) : Option Nat := (l[j]?).bind (·.dst)
theorem yielded_at {l : List Oper} {j d : Nat} {b : Bool} (hj : dstOf l j = some d) (hF : F d = .bool b) (hf : Fits n F ds a) : yielded l.toArray a.tmps j = some b := by
  unfold yielded
  unfold dstOf at hj
  have h := hf.slot d
  rw [hF] at h
  simp only [List.getElem?_toArray, hj]
  simp [slot_bool h]
theorem Lst_guard_t {l : List Oper} {dst : Option Nat} {op : Op} {j d : Nat} {b : Bool} (hj : dstOf l j = some d) (hF : F d = .bool b)
    (h : Lst P rd n l.toArray Q (⟨dst, op, ty, pos, after, none⟩ :: rest) F ds w) : Lst P rd n l.toArray Q (⟨dst, op, ty, pos, after, some (j, b)⟩ :: rest) F ds w := fun m a hf => by
  have h1 := h m a hf
  have hy := yielded_at hj hF hf
  unfold wpListIn at h1 ⊢
  rw [if_pos (wanted_none rfl _)] at h1
  rw [if_pos (by simp [Region.wanted, hy])]
  exact h1
theorem Lst_guard_f {l : List Oper} {dst : Option Nat} {op : Op} {j d : Nat} {b c : Bool} (hj : dstOf l j = some d) (hF : F d = .bool c) (hbc : (c == b) = false) (hd : okd n dst = true)
    (h : Lst P rd n l.toArray Q rest (updO F dst undef) ds w) : Lst P rd n l.toArray Q (⟨dst, op, ty, pos, after, some (j, b)⟩ :: rest) F ds w := fun m a hf => by
  have hy := yielded_at hj hF hf
  unfold wpListIn
  rw [if_neg (by simpa [Region.wanted, hy] using hbc)]
  exact ⟨fun f _ => E_fn rd f, h m _ (hf.put undef hd)⟩
theorem yielded_undef {l : List Oper} {j d : Nat} (hj : dstOf l j = some d) (hF : F d = undef) (hf : Fits n F ds a) : yielded l.toArray a.tmps j = none := by
  unfold yielded
  unfold dstOf at hj
  have h := hf.slot d
  rw [hF] at h
  simp only [List.getElem?_toArray, hj]
  rcases slot_undef h with h | h <;> simp [h, undef]
theorem Lst_guard_u {l : List Oper} {dst : Option Nat} {op : Op} {j d : Nat} {b : Bool} (hj : dstOf l j = some d) (hF : F d = undef) (hd : okd n dst = true)
    (h : Lst P rd n l.toArray Q rest (updO F dst undef) ds w) : Lst P rd n l.toArray Q (⟨dst, op, ty, pos, after, some (j, b)⟩ :: rest) F ds w := fun m a hf => by
  have hy := yielded_undef hj hF hf
  unfold wpListIn
  rw [if_neg (by simp [Region.wanted, hy])]
  exact ⟨fun f _ => E_fn rd f, h m _ (hf.put undef hd)⟩

/-! ### Operations that leave the world alone -/
def Pu (P : Program) (F : Fr) (op : Op) (ty : TypeId) (v : Value) : Prop := ∀ (dst : Option Nat) (pos : String) (after : Array Edge) (w : World), (execOp (ev F) ⟨dst, op, ty, pos, after, none⟩).run P w = .ok (.value v) w
theorem Lst_pu {d : Nat} {op : Op} {v : Value} (h : Pu P F op ty v) (hd : Nat.blt d n = true) (k : Lst P rd n ops Q rest (upd F d v) ds w) : Lst P rd n ops Q (⟨some d, op, ty, pos, after, none⟩ :: rest) F ds w :=
  Lst_value rfl (h _ _ _ _) hd k
theorem Lst_pu0 {op : Op} {v : Value} (h : Pu P F op ty v) (k : Lst P rd n ops Q rest F ds w) : Lst P rd n ops Q (⟨none, op, ty, pos, after, none⟩ :: rest) F ds w :=
  Lst_value rfl (h _ _ _ _) rfl k
theorem P_move {x : Operand} {v : Value} (hx : Fc (ev F x) v) : Pu P F (.move x) ty (v) :=
  fun dst pos after w => (by rw [← hx.eq]; rfl)
theorem P_assign {x : Operand} {v : Value} (hx : Fc (ev F x) v) : Pu P F (.assign x) ty (v) :=
  fun dst pos after w => (by rw [← hx.eq]; rfl)
theorem P_pick_t {c x y : Operand} {v : Value} (hc : ev F c = .bool true) (hx : Fc (ev F x) v) : Pu P F (.pick c x y) ty (v) :=
  fun dst pos after w => (by rw [← hx.eq]; simp [execOp, hc, asBool, Sem.run_pure])
theorem P_pick_f {c x y : Operand} {v : Value} (hc : ev F c = .bool false) (hx : Fc (ev F y) v) : Pu P F (.pick c x y) ty (v) :=
  fun dst pos after w => (by rw [← hx.eq]; simp [execOp, hc, asBool, Sem.run_pure])
theorem P_nilCheck {x : Operand} {b : Addr} (hx : ev F x = .pointer (some b)) : Pu P F (.nilCheck x) ty (.pointer (some b)) :=
  fun dst pos after w => (by simp [execOp, hx])

/-! ### Operators -/
theorem bin_run {dst : Option Nat} {op : BinOp} {t t' : TypeId} {x y : Operand} {vx vy v : Value} (hx : ev F x = vx) (hy : ev F y = vy) (hgd : (eqGuard op t x y vx vy).run P w = .ok () w) (hb : (binOp op t vx vy).run P w = .ok v w) :
    (execOp (ev F) ⟨dst, .binOp op t x y t', ty, pos, after, none⟩).run P w = .ok (.value v) w := by
  simp only [execOp, hx, hy, Sem.run_bind, hgd, Result.andThen, hb, Sem.run_pure]
theorem guard_int {op : BinOp} {t : TypeId} {x y : Operand} {k k' : IntKind} {p q : Int} : (eqGuard op t x y (.int k p) (.int k' q)).run P w = .ok () w := by
  cases op <;> simp [eqGuard, Sem.run_pure]
theorem guard_str {op : BinOp} {t : TypeId} {x y : Operand} {p q : ByteArray} : (eqGuard op t x y (.string p) (.string q)).run P w = .ok () w := by
  cases op <;> simp [eqGuard, Sem.run_pure]

/-- Sum, difference, product of two whole numbers of a kind. -/
def arith : BinOp → IntKind → Int → Int → Int
  | .add, k, p, q => k.wrap (p + q)
  | .sub, k, p, q => k.wrap (p - q)
  | _, k, p, q => k.wrap (p * q)
def isArith : BinOp → Bool
  | .add | .sub | .mul => true
  | _ => false
theorem P_ar {t t' : TypeId} {x y : Operand} {k : IntKind} {op : BinOp} {p q r : Int} (hx : ev F x = .int k p) (hy : ev F y = .int k q) (ho : isArith op = true) (hr : arith op k p q = r) : Pu P F (.binOp op t x y t') ty (.int k r) :=
  fun dst pos after w => bin_run hx hy guard_int (by subst hr; cases op <;> first | (cases ho; done) | simp [binOp, Op.intArith, arith])
theorem P_quo {t t' : TypeId} {x y : Operand} {k : IntKind} {p q r : Int} (hx : ev F x = .int k p) (hy : ev F y = .int k q) (h0 : q ≠ 0) (hr : k.wrap (p.tdiv q) = r) : Pu P F (.binOp .quo t x y t') ty ((.int k r)) :=
  fun dst pos after w => (bin_run hx hy guard_int (by simp [binOp, Op.intDiv, h0, hr]))
theorem P_rem {t t' : TypeId} {x y : Operand} {k : IntKind} {p q r : Int} (hx : ev F x = .int k p) (hy : ev F y = .int k q) (h0 : q ≠ 0) (hr : p.tmod q = r) : Pu P F (.binOp .rem t x y t') ty ((.int k r)) :=
  fun dst pos after w => (bin_run hx hy guard_int (by simp [binOp, Op.intDiv, h0, hr]))
theorem P_and {t t' : TypeId} {x y : Operand} {k : IntKind} {p q r : Int} (hx : ev F x = .int k p) (hy : ev F y = .int k q) (hr : bits .and k p q = r) : Pu P F (.binOp .and t x y t') ty ((.int k r)) :=
  fun dst pos after w => (bin_run hx hy guard_int (by subst hr; simp [binOp, Op.intBits, bits]))
theorem P_or {t t' : TypeId} {x y : Operand} {k : IntKind} {p q r : Int} (hx : ev F x = .int k p) (hy : ev F y = .int k q) (hr : bits .or k p q = r) : Pu P F (.binOp .or t x y t') ty ((.int k r)) :=
  fun dst pos after w => (bin_run hx hy guard_int (by subst hr; simp [binOp, Op.intBits, bits]))
theorem P_xor {t t' : TypeId} {x y : Operand} {k : IntKind} {p q r : Int} (hx : ev F x = .int k p) (hy : ev F y = .int k q) (hr : bits .xor k p q = r) : Pu P F (.binOp .xor t x y t') ty ((.int k r)) :=
  fun dst pos after w => (bin_run hx hy guard_int (by subst hr; simp [binOp, Op.intBits, bits]))
theorem P_andNot {t t' : TypeId} {x y : Operand} {k : IntKind} {p q r : Int} (hx : ev F x = .int k p) (hy : ev F y = .int k q) (hr : bits .andNot k p q = r) : Pu P F (.binOp .andNot t x y t') ty ((.int k r)) :=
  fun dst pos after w => (bin_run hx hy guard_int (by subst hr; simp [binOp, Op.intBits, bits]))
theorem P_shl {t t' : TypeId} {x y : Operand} {k k' : IntKind} {p q r : Int} (hx : ev F x = .int k p) (hy : ev F y = .int k' q) (h0 : 0 ≤ q) (hr : k.wrap (p * 2 ^ (min q.toNat k.bits)) = r) : Pu P F (.binOp .shl t x y t') ty ((.int k r)) :=
  fun dst pos after w => (bin_run hx hy guard_int (by subst hr; simp [binOp, Op.shift, show ¬ q < 0 by omega]))
theorem P_shr {t t' : TypeId} {x y : Operand} {k k' : IntKind} {p q r : Int} (hx : ev F x = .int k p) (hy : ev F y = .int k' q) (h0 : 0 ≤ q) (hr : p.fdiv (2 ^ (min q.toNat k.bits)) = r) : Pu P F (.binOp .shr t x y t') ty ((.int k r)) :=
  fun dst pos after w => (bin_run hx hy guard_int (by subst hr; simp [binOp, Op.shift, show ¬ q < 0 by omega]))
theorem P_shl_1 {t t' : TypeId} {x y : Operand} {k k' : IntKind} {p r : Int} (hx : ev F x = .int k p) (hy : ev F y = .int k' 1) (hb : Nat.ble 1 k.bits = true) (hr : k.wrap (p * 2) = r) : Pu P F (.binOp .shl t x y t') ty ((.int k r)) :=
  P_shl hx hy (by decide) (by rw [← hr, show min ((1 : Int).toNat) k.bits = 1 from Nat.min_eq_left (by simpa using hb)]; rfl)
theorem P_shr_1 {t t' : TypeId} {x y : Operand} {k k' : IntKind} {p : Int} (hx : ev F x = .int k p) (hy : ev F y = .int k' 1) (hb : Nat.ble 1 k.bits = true) : Pu P F (.binOp .shr t x y t') ty ((.int k (p / 2))) :=
  P_shr hx hy (by decide) (by rw [show min ((1 : Int).toNat) k.bits = 1 from Nat.min_eq_left (by simpa using hb)]; exact Int.fdiv_eq_ediv_of_nonneg _ (by decide))
theorem P_shl_2 {t t' : TypeId} {x y : Operand} {k k' : IntKind} {p r : Int} (hx : ev F x = .int k p) (hy : ev F y = .int k' 2) (hb : Nat.ble 2 k.bits = true) (hr : k.wrap (p * 4) = r) : Pu P F (.binOp .shl t x y t') ty ((.int k r)) :=
  P_shl hx hy (by decide) (by rw [← hr, show min ((2 : Int).toNat) k.bits = 2 from Nat.min_eq_left (by simpa using hb)]; rfl)
theorem P_shr_2 {t t' : TypeId} {x y : Operand} {k k' : IntKind} {p : Int} (hx : ev F x = .int k p) (hy : ev F y = .int k' 2) (hb : Nat.ble 2 k.bits = true) : Pu P F (.binOp .shr t x y t') ty ((.int k (p / 4))) :=
  P_shr hx hy (by decide) (by rw [show min ((2 : Int).toNat) k.bits = 2 from Nat.min_eq_left (by simpa using hb)]; exact Int.fdiv_eq_ediv_of_nonneg _ (by decide))
theorem P_shl_3 {t t' : TypeId} {x y : Operand} {k k' : IntKind} {p r : Int} (hx : ev F x = .int k p) (hy : ev F y = .int k' 3) (hb : Nat.ble 3 k.bits = true) (hr : k.wrap (p * 8) = r) : Pu P F (.binOp .shl t x y t') ty ((.int k r)) :=
  P_shl hx hy (by decide) (by rw [← hr, show min ((3 : Int).toNat) k.bits = 3 from Nat.min_eq_left (by simpa using hb)]; rfl)
theorem P_shr_3 {t t' : TypeId} {x y : Operand} {k k' : IntKind} {p : Int} (hx : ev F x = .int k p) (hy : ev F y = .int k' 3) (hb : Nat.ble 3 k.bits = true) : Pu P F (.binOp .shr t x y t') ty ((.int k (p / 8))) :=
  P_shr hx hy (by decide) (by rw [show min ((3 : Int).toNat) k.bits = 3 from Nat.min_eq_left (by simpa using hb)]; exact Int.fdiv_eq_ediv_of_nonneg _ (by decide))
theorem P_shl_4 {t t' : TypeId} {x y : Operand} {k k' : IntKind} {p r : Int} (hx : ev F x = .int k p) (hy : ev F y = .int k' 4) (hb : Nat.ble 4 k.bits = true) (hr : k.wrap (p * 16) = r) : Pu P F (.binOp .shl t x y t') ty ((.int k r)) :=
  P_shl hx hy (by decide) (by rw [← hr, show min ((4 : Int).toNat) k.bits = 4 from Nat.min_eq_left (by simpa using hb)]; rfl)
theorem P_shr_4 {t t' : TypeId} {x y : Operand} {k k' : IntKind} {p : Int} (hx : ev F x = .int k p) (hy : ev F y = .int k' 4) (hb : Nat.ble 4 k.bits = true) : Pu P F (.binOp .shr t x y t') ty ((.int k (p / 16))) :=
  P_shr hx hy (by decide) (by rw [show min ((4 : Int).toNat) k.bits = 4 from Nat.min_eq_left (by simpa using hb)]; exact Int.fdiv_eq_ediv_of_nonneg _ (by decide))
theorem P_shl_5 {t t' : TypeId} {x y : Operand} {k k' : IntKind} {p r : Int} (hx : ev F x = .int k p) (hy : ev F y = .int k' 5) (hb : Nat.ble 5 k.bits = true) (hr : k.wrap (p * 32) = r) : Pu P F (.binOp .shl t x y t') ty ((.int k r)) :=
  P_shl hx hy (by decide) (by rw [← hr, show min ((5 : Int).toNat) k.bits = 5 from Nat.min_eq_left (by simpa using hb)]; rfl)
theorem P_shr_5 {t t' : TypeId} {x y : Operand} {k k' : IntKind} {p : Int} (hx : ev F x = .int k p) (hy : ev F y = .int k' 5) (hb : Nat.ble 5 k.bits = true) : Pu P F (.binOp .shr t x y t') ty ((.int k (p / 32))) :=
  P_shr hx hy (by decide) (by rw [show min ((5 : Int).toNat) k.bits = 5 from Nat.min_eq_left (by simpa using hb)]; exact Int.fdiv_eq_ediv_of_nonneg _ (by decide))
theorem P_shl_6 {t t' : TypeId} {x y : Operand} {k k' : IntKind} {p r : Int} (hx : ev F x = .int k p) (hy : ev F y = .int k' 6) (hb : Nat.ble 6 k.bits = true) (hr : k.wrap (p * 64) = r) : Pu P F (.binOp .shl t x y t') ty ((.int k r)) :=
  P_shl hx hy (by decide) (by rw [← hr, show min ((6 : Int).toNat) k.bits = 6 from Nat.min_eq_left (by simpa using hb)]; rfl)
theorem P_shr_6 {t t' : TypeId} {x y : Operand} {k k' : IntKind} {p : Int} (hx : ev F x = .int k p) (hy : ev F y = .int k' 6) (hb : Nat.ble 6 k.bits = true) : Pu P F (.binOp .shr t x y t') ty ((.int k (p / 64))) :=
  P_shr hx hy (by decide) (by rw [show min ((6 : Int).toNat) k.bits = 6 from Nat.min_eq_left (by simpa using hb)]; exact Int.fdiv_eq_ediv_of_nonneg _ (by decide))
theorem P_shl_7 {t t' : TypeId} {x y : Operand} {k k' : IntKind} {p r : Int} (hx : ev F x = .int k p) (hy : ev F y = .int k' 7) (hb : Nat.ble 7 k.bits = true) (hr : k.wrap (p * 128) = r) : Pu P F (.binOp .shl t x y t') ty ((.int k r)) :=
  P_shl hx hy (by decide) (by rw [← hr, show min ((7 : Int).toNat) k.bits = 7 from Nat.min_eq_left (by simpa using hb)]; rfl)
theorem P_shr_7 {t t' : TypeId} {x y : Operand} {k k' : IntKind} {p : Int} (hx : ev F x = .int k p) (hy : ev F y = .int k' 7) (hb : Nat.ble 7 k.bits = true) : Pu P F (.binOp .shr t x y t') ty ((.int k (p / 128))) :=
  P_shr hx hy (by decide) (by rw [show min ((7 : Int).toNat) k.bits = 7 from Nat.min_eq_left (by simpa using hb)]; exact Int.fdiv_eq_ediv_of_nonneg _ (by decide))
theorem P_shl_8 {t t' : TypeId} {x y : Operand} {k k' : IntKind} {p r : Int} (hx : ev F x = .int k p) (hy : ev F y = .int k' 8) (hb : Nat.ble 8 k.bits = true) (hr : k.wrap (p * 256) = r) : Pu P F (.binOp .shl t x y t') ty ((.int k r)) :=
  P_shl hx hy (by decide) (by rw [← hr, show min ((8 : Int).toNat) k.bits = 8 from Nat.min_eq_left (by simpa using hb)]; rfl)
theorem P_shr_8 {t t' : TypeId} {x y : Operand} {k k' : IntKind} {p : Int} (hx : ev F x = .int k p) (hy : ev F y = .int k' 8) (hb : Nat.ble 8 k.bits = true) : Pu P F (.binOp .shr t x y t') ty ((.int k (p / 256))) :=
  P_shr hx hy (by decide) (by rw [show min ((8 : Int).toNat) k.bits = 8 from Nat.min_eq_left (by simpa using hb)]; exact Int.fdiv_eq_ediv_of_nonneg _ (by decide))
theorem P_shl_16 {t t' : TypeId} {x y : Operand} {k k' : IntKind} {p r : Int} (hx : ev F x = .int k p) (hy : ev F y = .int k' 16) (hb : Nat.ble 16 k.bits = true) (hr : k.wrap (p * 65536) = r) : Pu P F (.binOp .shl t x y t') ty ((.int k r)) :=
  P_shl hx hy (by decide) (by rw [← hr, show min ((16 : Int).toNat) k.bits = 16 from Nat.min_eq_left (by simpa using hb)]; rfl)
theorem P_shr_16 {t t' : TypeId} {x y : Operand} {k k' : IntKind} {p : Int} (hx : ev F x = .int k p) (hy : ev F y = .int k' 16) (hb : Nat.ble 16 k.bits = true) : Pu P F (.binOp .shr t x y t') ty ((.int k (p / 65536))) :=
  P_shr hx hy (by decide) (by rw [show min ((16 : Int).toNat) k.bits = 16 from Nat.min_eq_left (by simpa using hb)]; exact Int.fdiv_eq_ediv_of_nonneg _ (by decide))
theorem P_shl_24 {t t' : TypeId} {x y : Operand} {k k' : IntKind} {p r : Int} (hx : ev F x = .int k p) (hy : ev F y = .int k' 24) (hb : Nat.ble 24 k.bits = true) (hr : k.wrap (p * 16777216) = r) : Pu P F (.binOp .shl t x y t') ty ((.int k r)) :=
  P_shl hx hy (by decide) (by rw [← hr, show min ((24 : Int).toNat) k.bits = 24 from Nat.min_eq_left (by simpa using hb)]; rfl)
theorem P_shr_24 {t t' : TypeId} {x y : Operand} {k k' : IntKind} {p : Int} (hx : ev F x = .int k p) (hy : ev F y = .int k' 24) (hb : Nat.ble 24 k.bits = true) : Pu P F (.binOp .shr t x y t') ty ((.int k (p / 16777216))) :=
  P_shr hx hy (by decide) (by rw [show min ((24 : Int).toNat) k.bits = 24 from Nat.min_eq_left (by simpa using hb)]; exact Int.fdiv_eq_ediv_of_nonneg _ (by decide))
theorem P_shl_32 {t t' : TypeId} {x y : Operand} {k k' : IntKind} {p r : Int} (hx : ev F x = .int k p) (hy : ev F y = .int k' 32) (hb : Nat.ble 32 k.bits = true) (hr : k.wrap (p * 4294967296) = r) : Pu P F (.binOp .shl t x y t') ty ((.int k r)) :=
  P_shl hx hy (by decide) (by rw [← hr, show min ((32 : Int).toNat) k.bits = 32 from Nat.min_eq_left (by simpa using hb)]; rfl)
theorem P_shr_32 {t t' : TypeId} {x y : Operand} {k k' : IntKind} {p : Int} (hx : ev F x = .int k p) (hy : ev F y = .int k' 32) (hb : Nat.ble 32 k.bits = true) : Pu P F (.binOp .shr t x y t') ty ((.int k (p / 4294967296))) :=
  P_shr hx hy (by decide) (by rw [show min ((32 : Int).toNat) k.bits = 32 from Nat.min_eq_left (by simpa using hb)]; exact Int.fdiv_eq_ediv_of_nonneg _ (by decide))
theorem P_shl_40 {t t' : TypeId} {x y : Operand} {k k' : IntKind} {p r : Int} (hx : ev F x = .int k p) (hy : ev F y = .int k' 40) (hb : Nat.ble 40 k.bits = true) (hr : k.wrap (p * 1099511627776) = r) : Pu P F (.binOp .shl t x y t') ty ((.int k r)) :=
  P_shl hx hy (by decide) (by rw [← hr, show min ((40 : Int).toNat) k.bits = 40 from Nat.min_eq_left (by simpa using hb)]; rfl)
theorem P_shr_40 {t t' : TypeId} {x y : Operand} {k k' : IntKind} {p : Int} (hx : ev F x = .int k p) (hy : ev F y = .int k' 40) (hb : Nat.ble 40 k.bits = true) : Pu P F (.binOp .shr t x y t') ty ((.int k (p / 1099511627776))) :=
  P_shr hx hy (by decide) (by rw [show min ((40 : Int).toNat) k.bits = 40 from Nat.min_eq_left (by simpa using hb)]; exact Int.fdiv_eq_ediv_of_nonneg _ (by decide))
theorem P_shl_48 {t t' : TypeId} {x y : Operand} {k k' : IntKind} {p r : Int} (hx : ev F x = .int k p) (hy : ev F y = .int k' 48) (hb : Nat.ble 48 k.bits = true) (hr : k.wrap (p * 281474976710656) = r) : Pu P F (.binOp .shl t x y t') ty ((.int k r)) :=
  P_shl hx hy (by decide) (by rw [← hr, show min ((48 : Int).toNat) k.bits = 48 from Nat.min_eq_left (by simpa using hb)]; rfl)
theorem P_shr_48 {t t' : TypeId} {x y : Operand} {k k' : IntKind} {p : Int} (hx : ev F x = .int k p) (hy : ev F y = .int k' 48) (hb : Nat.ble 48 k.bits = true) : Pu P F (.binOp .shr t x y t') ty ((.int k (p / 281474976710656))) :=
  P_shr hx hy (by decide) (by rw [show min ((48 : Int).toNat) k.bits = 48 from Nat.min_eq_left (by simpa using hb)]; exact Int.fdiv_eq_ediv_of_nonneg _ (by decide))
theorem P_shl_56 {t t' : TypeId} {x y : Operand} {k k' : IntKind} {p r : Int} (hx : ev F x = .int k p) (hy : ev F y = .int k' 56) (hb : Nat.ble 56 k.bits = true) (hr : k.wrap (p * 72057594037927936) = r) : Pu P F (.binOp .shl t x y t') ty ((.int k r)) :=
  P_shl hx hy (by decide) (by rw [← hr, show min ((56 : Int).toNat) k.bits = 56 from Nat.min_eq_left (by simpa using hb)]; rfl)
theorem P_shr_56 {t t' : TypeId} {x y : Operand} {k k' : IntKind} {p : Int} (hx : ev F x = .int k p) (hy : ev F y = .int k' 56) (hb : Nat.ble 56 k.bits = true) : Pu P F (.binOp .shr t x y t') ty ((.int k (p / 72057594037927936))) :=
  P_shr hx hy (by decide) (by rw [show min ((56 : Int).toNat) k.bits = 56 from Nat.min_eq_left (by simpa using hb)]; exact Int.fdiv_eq_ediv_of_nonneg _ (by decide))
/-- What a comparison of two whole numbers says. -/
def cmpP : BinOp → Int → Int → Prop
  | .eql, p, q => p = q
  | .neq, p, q => p ≠ q
  | .lss, p, q => p < q
  | .leq, p, q => p ≤ q
  | .gtr, p, q => q < p
  | .geq, p, q => q ≤ p
  | _, _, _ => False
def isCmp : BinOp → Bool
  | .eql | .neq | .lss | .leq | .gtr | .geq => true
  | _ => false
theorem P_ct {t t' : TypeId} {x y : Operand} {k : IntKind} {op : BinOp} {p q : Int} (hx : ev F x = .int k p) (hy : ev F y = .int k q) (ho : isCmp op = true) (hp : cmpP op p q) : Pu P F (.binOp op t x y t') ty (.bool true) :=
  fun dst pos after w => bin_run hx hy guard_int (by cases op <;> first | (cases ho; done) | (simp only [cmpP] at hp; simp [binOp, Op.intCmp]; omega))
theorem P_cf {t t' : TypeId} {x y : Operand} {k : IntKind} {op : BinOp} {p q : Int} (hx : ev F x = .int k p) (hy : ev F y = .int k q) (ho : isCmp op = true) (hp : ¬ cmpP op p q) : Pu P F (.binOp op t x y t') ty (.bool false) :=
  fun dst pos after w => bin_run hx hy guard_int (by cases op <;> first | (cases ho; done) | (simp only [cmpP] at hp; simp [binOp, Op.intCmp]; omega))
theorem Lst_cs {d : Nat} {t t' : TypeId} {x y : Operand} {k : IntKind} {op : BinOp} {p q : Int} (hx : ev F x = .int k p) (hy : ev F y = .int k q) (ho : isCmp op = true) (hd : Nat.blt d n = true)
    (ht : cmpP op p q → Lst P rd n ops Q rest (upd F d (.bool true)) ds w) (hf : ¬ cmpP op p q → Lst P rd n ops Q rest (upd F d (.bool false)) ds w) : Lst P rd n ops Q (⟨some d, .binOp op t x y t', ty, pos, after, none⟩ :: rest) F ds w := by
  by_cases hp : cmpP op p q
  · exact Lst_pu (P_ct hx hy ho hp) hd (ht hp)
  · exact Lst_pu (P_cf hx hy ho hp) hd (hf hp)
theorem toList_inj {s t : ByteArray} (h : s.toList = t.toList) : s = t := by
  have e : ∀ x : ByteArray, x.toList = x.data.toList := Go.ByteArray.toList_eq
  rw [e, e] at h
  cases s; cases t; simp at h; subst h; rfl
theorem P_seq_t {t t' : TypeId} {x y : Operand} {p q : ByteArray} (hx : ev F x = .string p) (hy : ev F y = .string q) (hp : p = q) : Pu P F (.binOp .eql t x y t') ty ((.bool true)) :=
  fun dst pos after w => (bin_run hx hy guard_str (by simp [binOp, Op.stringOp, hp]))
theorem P_seq_f {t t' : TypeId} {x y : Operand} {p q : ByteArray} (hx : ev F x = .string p) (hy : ev F y = .string q) (hp : p ≠ q) : Pu P F (.binOp .eql t x y t') ty ((.bool false)) :=
  have e : (p.toList == q.toList) = false := beq_eq_false_iff_ne.2 fun e => hp (toList_inj e)
  fun dst pos after w => (bin_run hx hy guard_str (by simp only [binOp, Op.stringOp, e]; rfl))
theorem P_sne_t {t t' : TypeId} {x y : Operand} {p q : ByteArray} (hx : ev F x = .string p) (hy : ev F y = .string q) (hp : p ≠ q) : Pu P F (.binOp .neq t x y t') ty ((.bool true)) :=
  have e : (p.toList == q.toList) = false := beq_eq_false_iff_ne.2 fun e => hp (toList_inj e)
  fun dst pos after w => (bin_run hx hy guard_str (by simp only [binOp, Op.stringOp, e]; rfl))
theorem P_sne_f {t t' : TypeId} {x y : Operand} {p q : ByteArray} (hx : ev F x = .string p) (hy : ev F y = .string q) (hp : p = q) : Pu P F (.binOp .neq t x y t') ty ((.bool false)) :=
  fun dst pos after w => (bin_run hx hy guard_str (by simp [binOp, Op.stringOp, hp]))
theorem P_sadd {t t' : TypeId} {x y : Operand} {p q : ByteArray} (hx : ev F x = .string p) (hy : ev F y = .string q) (hp : p.size + q.size ≤ 9223372036854775807) : Pu P F (.binOp .add t x y t') ty ((.string (p ++ q))) :=
  fun dst pos after w => (bin_run hx hy guard_str (by
    have : ¬ (((p.size + q.size : Nat) : Int) > IntKind.i64.max) := by simp [IntKind.max, IntKind.signed, IntKind.bits]; omega
    simp only [binOp, Op.stringOp, this, if_false]
    rfl))
theorem guard_bool {op : BinOp} {t : TypeId} {x y : Operand} {p q : Bool} : (eqGuard op t x y (.bool p) (.bool q)).run P w = .ok () w := by
  cases op <;> simp [eqGuard, Sem.run_pure]
theorem run_equal_bool {t : TypeId} (ht : P.underlying t = some .bool) (p q : Bool) : (Op.equal t (.bool p) (.bool q)).run P w = .ok (p == q) w := by
  have h : ∀ d, (Op.equalIn (d + 1) t (.bool p) (.bool q)).run P w = .ok (p == q) w := fun d => by simp [Op.equalIn, run_underlying ht]
  exact h 9999
theorem P_beq {t t' : TypeId} {x y : Operand} {p q r : Bool} (hx : ev F x = .bool p) (hy : ev F y = .bool q) (ht : P.underlying t = some .bool) (hr : (p == q) = r) : Pu P F (.binOp .eql t x y t') ty ((.bool r)) :=
  fun dst pos after w => (bin_run hx hy guard_bool (by subst hr; simp [binOp, run_equal_bool ht]))
theorem P_bne {t t' : TypeId} {x y : Operand} {p q r : Bool} (hx : ev F x = .bool p) (hy : ev F y = .bool q) (ht : P.underlying t = some .bool) (hr : (p != q) = r) : Pu P F (.binOp .neq t x y t') ty ((.bool r)) :=
  fun dst pos after w => (bin_run hx hy guard_bool (by subst hr; simp [binOp, run_equal_bool ht, bne]))
theorem P_not {t : TypeId} {x : Operand} {p r : Bool} (hx : ev F x = .bool p) (hr : (!p) = r) : Pu P F (.unOp .not t x) ty ((.bool r)) :=
  fun dst pos after w => (by subst hr; simp [execOp, hx, Op.unary])
theorem P_neg {t : TypeId} {x : Operand} {k : IntKind} {p r : Int} (hx : ev F x = .int k p) (hr : k.wrap (0 - p) = r) : Pu P F (.unOp .neg t x) ty ((.int k r)) :=
  fun dst pos after w => (by subst hr; simp [execOp, hx, Op.unary, Op.intArith])
theorem P_conv {t t' : TypeId} {x : Operand} {k k' : IntKind} {u : TypeDesc} {p r : Int} (hx : ev F x = .int k p) (ht : P.underlying t = some u) (ht' : P.underlying t' = some (.int k')) (hr : k'.wrap p = r) : Pu P F (.convert t t' x) ty ((.int k' r)) :=
  fun dst pos after w => (by subst hr; simp [execOp, hx, convert, run_underlying ht, run_underlying ht', Conv.intToInt])
/-! ### Strings, tuples, functions -/
theorem P_sindex {t : TypeId} {x i : Operand} {k : IntKind} {s : ByteArray} {m : Int} (hx : ev F x = .string s) (hi : ev F i = .int k m) (ht : P.underlying t = some .string) (h0 : 0 ≤ m) (h1 : m < s.size) : Pu P F (.index t x i) ty ((.int .u8 (sb s m.toNat))) :=
  fun dst pos after w => (by
    have hlt : m.toNat < s.size := by omega
    have e : s[m.toNat]? = some (s.data.toList.getD m.toNat 0) := by
      have hl : m.toNat < s.data.toList.length := by simpa using hlt
      rw [List.getD_eq_getElem?_getD, List.getElem?_eq_getElem hl]
      simp [getElem?_pos, hlt]
      rfl
    simp only [execOp, hx, hi, Instr.index, asIntOf, Sem.run_bind, Sem.run_pure, Result.andThen, run_underlying ht, h0, if_true, e]
    rfl)
theorem P_sindex0 {t : TypeId} {x i : Operand} {k : IntKind} {s : ByteArray} (hx : ev F x = .string s) (hi : ev F i = .int k 0) (ht : P.underlying t = some .string) (h1 : 0 < s.size) : Pu P F (.index t x i) ty ((.int .u8 (sb s 0))) :=
  P_sindex hx hi ht (by decide) (by omega)
theorem P_sindexN {j : Nat} {t : TypeId} {x i : Operand} {k : IntKind} {s : ByteArray} (hx : ev F x = .string s) (hi : ev F i = .int k (j : Int)) (ht : P.underlying t = some .string) (h1 : j < s.size) : Pu P F (.index t x i) ty ((.int .u8 (sb s j))) :=
  P_sindex hx hi ht (by omega) (by omega)
theorem P_slen {x : Operand} {t : TypeId} {s : ByteArray} (hx : ev F x = .string s) (ht : P.underlying t = some .string) : Pu P F (.call { callee := .builtin .len, args := #[x], argTypes := #[t] }) ty ((.int .i64 s.size)) :=
  fun dst pos after w => (by simp [execOp, resolve, invoke, builtin, Builtin.len_, hx, run_underlying ht, goInt])
theorem P_llen {x : Operand} {t e : TypeId} {b : Option Addr} {l c : Nat} (hx : ev F x = .slice b l c) (ht : P.underlying t = some (.slice e)) : Pu P F (.call { callee := .builtin .len, args := #[x], argTypes := #[t] }) ty ((.int .i64 l)) :=
  fun dst pos after w => (by simp [execOp, resolve, invoke, builtin, Builtin.len_, hx, run_underlying ht, goInt])
/-- s[lo:], s[:hi], s[lo:hi] -/
theorem P_sslice_lo {t : TypeId} {x lo : Operand} {k : IntKind} {s : ByteArray} {m : Int} (hx : ev F x = .string s) (hlo : ev F lo = .int k m) (ht : P.underlying t = some .string) (h0 : 0 ≤ m) (h1 : m ≤ s.size) : Pu P F (.slice t x (some lo) none none) ty ((.string (s.extract m.toNat s.size))) :=
  fun dst pos after w => (by simp [execOp, hx, hlo, Instr.sliceAt, Instr.slice, Instr.sliceBounds, Instr.sliceBound, asIntOf, run_underlying ht, h0, h1])
theorem P_sslice_hi {t : TypeId} {x hi : Operand} {k : IntKind} {s : ByteArray} {m : Int} (hx : ev F x = .string s) (hhi : ev F hi = .int k m) (ht : P.underlying t = some .string) (h0 : 0 ≤ m) (h1 : m ≤ s.size) : Pu P F (.slice t x none (some hi) none) ty ((.string (s.extract 0 m.toNat))) :=
  fun dst pos after w => (by simp [execOp, hx, hhi, Instr.sliceAt, Instr.slice, Instr.sliceBounds, Instr.sliceBound, asIntOf, run_underlying ht, h0, h1])
theorem P_sslice {t : TypeId} {x lo hi : Operand} {k k' : IntKind} {s : ByteArray} {m m' : Int} (hx : ev F x = .string s) (hlo : ev F lo = .int k m) (hhi : ev F hi = .int k' m') (ht : P.underlying t = some .string) (h0 : 0 ≤ m) (h1 : m ≤ m') (h2 : m' ≤ s.size) : Pu P F (.slice t x (some lo) (some hi) none) ty ((.string (s.extract m.toNat m'.toNat))) :=
  fun dst pos after w => (by
    obtain ⟨q, rfl⟩ := Int.eq_ofNat_of_zero_le (show 0 ≤ m' by omega)
    have a1 : (0 : Int) ≤ (q : Int) := by omega
    have a2 : q ≤ s.size := by omega
    simp [execOp, hx, hlo, hhi, Instr.sliceAt, Instr.slice, Instr.sliceBounds, Instr.sliceBound, asIntOf, run_underlying ht, h0, h1, a1, a2])
theorem P_extract {i : Nat} {x : Operand} {vs : List Value} {v : Value} (hx : ev F x = .tuple vs.toArray) (hv : vs[i]? = some v) : Pu P F (.extract x i) ty (v) :=
  fun dst pos after w => (by simp [execOp, hx, Instr.extract, hv])
theorem map_evs (l : List Operand) : (l.toArray.map (ev F)) = (evs F l).toArray := by
  have : ∀ l : List Operand, l.map (ev F) = evs F l := fun l => by induction l with | nil => rfl | cons x l ih => simp [evs, ih]
  simp [this]
theorem P_makeFunc {fn : Fn} {fs cs : List Operand} {us vs : List Value} (hf : FcL (evs F fs) us) (hc : FcL (evs F cs) vs) : Pu P F (.makeFunc fn fs.toArray cs.toArray) ty ((.func fn us.toArray vs.toArray)) :=
  fun dst pos after w => (by rw [← hf.eq, ← hc.eq, ← map_evs, ← map_evs]; rfl)
/-- A call of a function value that is a Go function with what it captured. -/
theorem Lst_call {d : Option Nat} {f : Operand} {as : List Operand} {cs : List Value} {g : Nat} {ts : Array TypeId} (hf : ev F f = .func (.func g) #[] cs.toArray) (hd : okd n d = true)
    (h : Does P g (evs F as ++ cs).toArray w fun v w' => Lst P rd n ops Q rest (updO F d v) ds w') : Lst P rd n ops Q (⟨d, .call { callee := .value f, args := as.toArray, argTypes := ts }, ty, pos, after, none⟩ :: rest) F ds w :=
  Lst_enter rfl (by
    have e := h.1 (evs F as ++ cs).toArray w
    have e2 := map_evs (F := F) as
    simp only [execOp, resolve, hf, Deferred.ofValue, invoke, Sem.run_bind, Sem.run_pure, Result.andThen, e2]
    simpa using e) hd h.2

/-! ### Memory -/
theorem Lst_alloc {d e B : Nat} {i : TypeInfo} {z : Value} {cs : List Value} (hi : P.info? e = some i) (hz : i.zero = some z) (hc : z.cells = cs.toArray) (hB : w.heap.size = B) (hd : Nat.blt d n = true)
    (h : Lst P rd n ops Q rest (upd F d (.pointer (some ⟨B, 0, none⟩))) ds (w.alloc (.cells cs.toArray e))) : Lst P rd n ops Q (⟨some d, .alloc e, ty, pos, after, none⟩ :: rest) F ds w :=
  Lst_value rfl (by subst hB; simp [execOp, Instr.alloc, zeroValue, typeInfo, hi, hz, newVar, newRow, hc]) hd h
theorem Lst_box {d e B : Nat} {x : Operand} {v : Value} {cs : List Value} (hx : Fc (ev F x) v) (hc : v.cells = cs.toArray) (hB : w.heap.size = B) (hd : Nat.blt d n = true)
    (h : Lst P rd n ops Q rest (upd F d (.pointer (some ⟨B, 0, none⟩))) ds (w.alloc (.cells cs.toArray e))) : Lst P rd n ops Q (⟨some d, .box e x, ty, pos, after, none⟩ :: rest) F ds w :=
  Lst_value rfl (by subst hB; simp [execOp, Instr.box, hx.eq, newVar, newRow, hc]) hd h
def aggT : TypeDesc → Bool
  | .struct _ | .array _ _ => true
  | _ => false
theorem run_isAgg {t : TypeId} {u : TypeDesc} (ht : P.underlying t = some u) (w : World) : (isAgg t).run P w = .ok (aggT u) w := by
  unfold isAgg
  simp only [Sem.run_bind, run_underlying ht, Result.andThen]
  cases u <;> rfl
theorem Lst_loadc {d : Nat} {x : Operand} {t : TypeId} {u : TypeDesc} {p : Addr} {v : Value} (hx : ev F x = .pointer (some p)) (ht : P.underlying t = some u) (hu : aggT u = false) (hv : w.cell? p = some v) (hd : Nat.blt d n = true)
    (h : Lst P rd n ops Q rest (upd F d v) ds w) : Lst P rd n ops Q (⟨some d, .load t x, ty, pos, after, none⟩ :: rest) F ds w :=
  Lst_value rfl (by simp [execOp, hx, Instr.loadAt, Instr.sureAddr, loadVar, run_isAgg ht, hu, load, Sem.run, hv]) hd h
theorem Lst_load {d : Nat} {x : Operand} {t e : TypeId} {u : TypeDesc} {b off : Nat} {l : List Value} {v : Value} (hx : ev F x = .pointer (some ⟨b, off, none⟩)) (ht : P.underlying t = some u) (hu : aggT u = false) (hb : Blk w b l e) (hv : l[off]? = some v) (hd : Nat.blt d n = true)
    (h : Lst P rd n ops Q rest (upd F d v) ds w) : Lst P rd n ops Q (⟨some d, .load t x, ty, pos, after, none⟩ :: rest) F ds w :=
  Lst_loadc hx ht hu ((hb.cell off).trans hv) hd h
theorem Lst_store {x y : Operand} {t e : TypeId} {i : TypeInfo} {b off : Nat} {l l' : List Value} {v : Value} (hx : ev F x = .pointer (some ⟨b, off, none⟩)) (hy : Fc (ev F y) v) (hi : P.info? t = some i) (hs : i.size = 1) (h1 : v.cells = #[v]) (ho : v.oneCell' = true) (hb : Blk w b l e) (hl : SetR l off v l')
    (h : Lst P rd n ops Q rest F ds (w.putObj b (.cells l'.toArray e))) : Lst P rd n ops Q (⟨none, .store t x y, ty, pos, after, none⟩ :: rest) F ds w :=
  Lst_unit rfl (by
    obtain ⟨old, hold⟩ := hl.some
    have hc := (hb.cell off).trans hold
    have hf := hb.frozen off
    have hst : (store ⟨b, off, none⟩ v).run P w = .ok () (w.setCell ⟨b, off, none⟩ v) := by
      unfold store
      cases v <;> first | (simp [Value.oneCell'] at ho; done) | simp [Sem.run, hc, hf]
    rw [← hl.eq, ← hb.set]
    have ha : (⟨b, off, none⟩ : Addr).add 0 = ⟨b, off, none⟩ := rfl
    simp [execOp, hx, hy.eq, Instr.storeAt, Instr.sureAddr, storeVar, sizeOf, typeInfo, hi, hs, h1, storeCells, ha, hst]) rfl h
theorem W_abs {c : Code} (M : World → Prop) (h : M w) (k : ∀ w', M w' → W P rd n c Q F ds w') : W P rd n c Q F ds w := k w h
theorem Lst_abs (M : World → Prop) (h : M w) (k : ∀ w', M w' → Lst P rd n ops Q rest F ds w') : Lst P rd n ops Q rest F ds w := k w h
theorem Below.put {m b : Nat} {X : World} (h : Below m X w) (hb : m ≤ b) (o : Obj) : Below m X (w.putObj b o) :=
  ⟨h.os, h.tape, h.output, by have := h.size; simpa using this, fun k hk => (World.putObj_heap_other (by omega)).trans (h.block k hk)⟩
end ops
end Sx
end Go.Proofs.Ytoljcnlmockpcaa
