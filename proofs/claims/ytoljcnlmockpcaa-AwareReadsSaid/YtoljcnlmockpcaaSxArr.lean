/- Further rules of our calculus: arrays, bytes to strings, pointers against nil, a strings.Builder's bytes. Over any program. -/
import Derived.Test.YtoljcnlmockpcaaSxMore
import Derived.Laws.IdiomStrings
import Derived.Lib.Builder
import Derived.Laws.Externs
namespace Go.Proofs.Ytoljcnlmockpcaa
namespace Sx
open Go Go.RowKit
section arr
variable {P : Program} {rd : Option Nat} {n : Nat} {ops : Array Oper} {Q : Post} {rest : List Oper} {F : Fr} {ds : List Deferred} {w : World} {ty : TypeId} {pos : String} {after : Array Edge}
/-- The address of an element of an array. -/
theorem P_aidx {t e b off len r : Nat} {x ix : Operand} {k : IntKind} {q : Int} {i : TypeInfo} (hx : ev F x = .pointer (some ⟨b, off, none⟩)) (hq : ev F ix = .int k q) (ht : P.underlying t = some (.array len e)) (hi : P.info? e = some i) (hs : i.size = 1) (h0 : 0 ≤ q) (h1 : q < len) (hr : off + q.toNat = r) :
    Pu P F (.indexAddr t x ix) ty (.pointer (some ⟨b, r, none⟩)) := fun dst pos after w => by
  have hsz : (sizeOf e).run P w = .ok 1 w := by simp [sizeOf, typeInfo, hi, hs]
  subst hr
  simp [execOp, hx, hq, Instr.indexAt, Instr.sureAddr, asIntOf, run_underlying ht, h0, h1, hsz, add_none]
/-- a[lo:] of an array. -/
theorem P_aslice_lo {t e b len : Nat} {x lo : Operand} {k : IntKind} {m : Int} {i : TypeInfo} (hx : ev F x = .pointer (some ⟨b, 0, none⟩)) (hlo : ev F lo = .int k m) (ht : P.underlying t = some (.array len e)) (hi : P.info? e = some i) (hs : i.size = 1) (h0 : 0 ≤ m) (h1 : m < len) :
    Pu P F (.slice t x (some lo) none none) ty (.slice (some ⟨b, m.toNat, none⟩) (len - m.toNat) (len - m.toNat)) := fun dst pos after w => by
  have hsz : (sizeOf e).run P w = .ok 1 w := by simp [sizeOf, typeInfo, hi, hs]
  simp [execOp, hx, hlo, Instr.sliceAt, Instr.sureAddr, Instr.sliceBounds, Instr.sliceBound, asIntOf, run_underlying ht, h0, show m ≤ len by omega, hsz, add_none, show ¬ len = m.toNat by omega]
/-- A store into a row's cell. -/
theorem Lst_storeN {x y : Operand} {t e : TypeId} {i : TypeInfo} {b off : Nat} {l : List Value} {v : Value} (hx : ev F x = .pointer (some ⟨b, off, none⟩)) (hy : Fc (ev F y) v) (hi : P.info? t = some i) (hs : i.size = 1) (h1 : v.cells = #[v]) (ho : v.oneCell' = true) (hb : Blk w b l e) (hl : off < l.length)
    (h : Lst P rd n ops Q rest F ds (w.putObj b (.cells (l.set off v).toArray e))) : Lst P rd n ops Q (⟨none, .store t x y, ty, pos, after, none⟩ :: rest) F ds w :=
  Lst_unit rfl (by
    have hold : l[off]? = some (l[off]) := List.getElem?_eq_getElem hl
    have hc := (hb.cell off).trans hold
    have hf := hb.frozen off
    have hst : (store ⟨b, off, none⟩ v).run P w = .ok () (w.setCell ⟨b, off, none⟩ v) := by
      unfold store
      cases v <;> first | (simp [Value.oneCell'] at ho; done) | simp [Sem.run, hc, hf]
    rw [← hb.set]
    have ha : (⟨b, off, none⟩ : Addr).add 0 = ⟨b, off, none⟩ := rfl
    simp [execOp, hx, hy.eq, Instr.storeAt, Instr.sureAddr, storeVar, sizeOf, typeInfo, hi, hs, h1, storeCells, ha, hst]) rfl h
/-- string(bytes). -/
theorem Lst_bytes {d t t' e b off c len : Nat} {x : Operand} {l : List UInt8} (hx : ev F x = .slice (some ⟨b, off, none⟩) len c) (hlen : l.length = len) (ht : P.underlying t = some (.slice e)) (he : P.underlying e = some (.int .u8)) (ht' : P.underlying t' = some .string)
    (hc : ∀ j (hj : j < l.length), w.cell? ⟨b, off + j, none⟩ = some (.int .u8 (l[j].toNat : Int))) (hd : Nat.blt d n = true)
    (h : Lst P rd n ops Q rest (upd F d (.string ⟨l.toArray⟩)) ds w) : Lst P rd n ops Q (⟨some d, .convert t t' x, ty, pos, after, none⟩ :: rest) F ds w :=
  Lst_value rfl (by
    subst hlen
    have := run_convert_bytes_back (P := P) w t t' e ⟨b, off, none⟩ c l ht he ht' (fun j hj => by rw [add_none]; exact hc j hj)
    simp [execOp, hx, this]) hd h
/-! ### Pointers -/
theorem guard_ptr {op : BinOp} {t : TypeId} {x y : Operand} {p q : Option Addr} : (eqGuard op t x y (.pointer p) (.pointer q)).run P w = .ok () w := by
  cases op <;> simp [eqGuard, Sem.run_pure]
theorem run_ptr_nil {t te : TypeId} (p : Option Addr) (w : World) (ht : P.underlying t = some (.pointer te)) : (Op.equal t (.pointer p) (.pointer none)).run P w = .ok p.isNone w := by
  have h : ∀ d : Nat, (Op.equalIn (d + 1) t (.pointer p) (.pointer none)).run P w = .ok p.isNone w := fun d => by
    cases p <;> simp [Op.equalIn, run_underlying ht]
  simp [Op.equal, Op.maxDepth, h 9999]
theorem P_ptr_nil {t t' te : TypeId} {x y : Operand} {p : Option Addr} {r : Bool} (hx : ev F x = .pointer p) (hy : ev F y = .pointer none) (ht : P.underlying t = some (.pointer te)) (hr : p.isNone = r) : Pu P F (.binOp .eql t x y t') ty (.bool r) :=
  fun _ _ _ w => bin_run hx hy guard_ptr (by
    subst hr
    have := run_ptr_nil p w ht
    simp only [binOp, Sem.run_bind, this]
    rfl)
theorem P_ptr_nonnil {t t' te : TypeId} {x y : Operand} {p : Option Addr} {r : Bool} (hx : ev F x = .pointer p) (hy : ev F y = .pointer none) (ht : P.underlying t = some (.pointer te)) (hr : (!p.isNone) = r) : Pu P F (.binOp .neq t x y t') ty (.bool r) :=
  fun _ _ _ w => bin_run hx hy guard_ptr (by
    subst hr
    have := run_ptr_nil p w ht
    simp only [binOp, Sem.run_bind, this]
    rfl)
theorem P_ptr_same {t t' te : TypeId} {x y : Operand} {a : Addr} {j : TypeInfo} (hx : ev F x = .pointer (some a)) (hy : ev F y = .pointer (some a)) (ht : P.underlying t = some (.pointer te)) (hj : P.info? te = some j) : Pu P F (.binOp .neq t x y t') ty (.bool false) :=
  fun _ _ _ w => bin_run hx hy guard_ptr (Lib.run_neq_ptr_same w a ht hj)
theorem Blk.shape {b : Nat} {l : List Value} {e : TypeId} (h : Blk w b l e) : w.shape? b = some (e, l.length) := by
  unfold Blk at h
  simp [World.shape?, h]
theorem Lst_tounsafe {d t t' te b off : Nat} {x : Operand} {e : TypeId} {l : List Value} {j : TypeInfo} (hx : ev F x = .pointer (some ⟨b, off, none⟩)) (ht : P.underlying t = some (.pointer te)) (ht' : P.underlying t' = some .unsafePointer) (hj : P.info? te = some j) (hj0 : (j.size == 0) = false) (hb : Blk w b l e) (hoff : off < l.length) (hd : Nat.blt d n = true)
    (h : Lst P rd n ops Q rest (upd F d (.pointer (some ⟨b, off, none⟩))) ds w) : Lst P rd n ops Q (⟨some d, .convert t t' x, ty, pos, after, none⟩ :: rest) F ds w :=
  Lst_value rfl (by
    have := Lib.run_to_unsafe (P := P) (w := w) ⟨b, off, none⟩ ht ht' hj (by simpa using hj0) hb.shape hoff
    simp [execOp, hx, this]) hd h
theorem Lst_fromunsafe {d t t' te b off : Nat} {x : Operand} {e : TypeId} {l : List Value} {j : TypeInfo} (hx : ev F x = .pointer (some ⟨b, off, none⟩)) (ht : P.underlying t = some .unsafePointer) (ht' : P.underlying t' = some (.pointer te)) (hj : P.info? te = some j) (hb : Blk w b l e) (hl : liesAt P P.depth e (l.length / P.cellsOf e) off te 1 = true) (hd : Nat.blt d n = true)
    (h : Lst P rd n ops Q rest (upd F d (.pointer (some ⟨b, off, none⟩))) ds w) : Lst P rd n ops Q (⟨some d, .convert t t' x, ty, pos, after, none⟩ :: rest) F ds w :=
  Lst_value rfl (by
    have := Lib.run_from_unsafe (P := P) (w := w) ⟨b, off, none⟩ ht ht' hj hb.shape hl
    simp [execOp, hx, this]) hd h
theorem P_noescape {f x : Operand} {g : Nat} {ts : Array TypeId} {fn : Func} {a : Value} (hx : ev F x = a) (hf : ev F f = .func (.func g) #[] #[]) (hfn : P.funcs[g]? = some fn) (hb : fn.body.isNone = true) (he : Extern.find fn = some Extern.AbiNoEscape.same) (hname : (fn.name == "runtime.NumGoroutine") = false) (hn : Extern.findNext fn = none) : Pu P F (.call { callee := .value f, args := #[x], argTypes := ts }) ty a :=
  P_ext (as := [x]) he hf hfn hname hb hn (fun w => by show (Extern.AbiNoEscape.same #[ev F x]).run P w = _; rw [hx]; rfl)
end arr
end Sx
end Go.Proofs.Ytoljcnlmockpcaa
