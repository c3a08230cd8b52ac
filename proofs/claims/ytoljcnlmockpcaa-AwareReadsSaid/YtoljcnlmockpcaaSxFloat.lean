/- Rules of our calculus for floats, and for calls that the model answers itself (bits of floats). Over any program. -/
import Derived.Test.YtoljcnlmockpcaaSxStruct
import Derived.Test.YtoljcnlmockpcaaFloat
import Derived.Laws.Externs
namespace Go.Proofs.Ytoljcnlmockpcaa
namespace Sx
open Go Go.RowKit

section floats
variable {P : Program} {rd : Option Nat} {n : Nat} {ops : Array Oper} {Q : Post} {rest : List Oper} {F : Fr} {ds : List Deferred} {w : World} {ty : TypeId} {pos : String} {after : Array Edge}

/-- A call that the model answers itself, without a look at the world. -/
theorem P_ext {f : Operand} {as : List Operand} {g : Nat} {ts : Array TypeId} {fn : Func} {e : Array Value → Sem Value} {v : Value} (he : Extern.find fn = some e) (hf : ev F f = .func (.func g) #[] #[]) (hfn : P.funcs[g]? = some fn) (hname : (fn.name == "runtime.NumGoroutine") = false) (hb : fn.body.isNone = true) (hn : Extern.findNext fn = none)
    (hv : ∀ w, (e (evs F as).toArray).run P w = .ok v w) : Pu P F (.call { callee := .value f, args := as.toArray, argTypes := ts }) ty v := fun dst pos after w => by
  have e2 := map_evs (F := F) as
  have hr : (callFunc g (evs F as).toArray).run P w = .ok (.value v) w := by rw [run_callFunc_extern hfn hname hb hn he, hv w]; rfl
  simp only [execOp, resolve, hf, Deferred.ofValue, invoke, Sem.run_bind, Sem.run_pure, Result.andThen, e2]
  simpa using hr
/-- math.Float64bits, math.Float64frombits. -/
theorem P_bits {f x : Operand} {g : Nat} {ts : Array TypeId} {fn : Func} {p : Nat} (hx : ev F x = .float .f64 p) (hf : ev F f = .func (.func g) #[] #[]) (hfn : P.funcs[g]? = some fn) (hb : fn.body.isNone = true) (he : Extern.find fn = some Extern.MathFloatBits.float64bits) (hname : (fn.name == "runtime.NumGoroutine") = false) (hn : Extern.findNext fn = none) : Pu P F (.call { callee := .value f, args := #[x], argTypes := ts }) ty (.int .u64 p) :=
  P_ext (as := [x]) he hf hfn hname hb hn (fun w => by show (Extern.MathFloatBits.float64bits #[ev F x]).run P w = _; rw [hx]; rfl)
theorem P_frombits {f x : Operand} {g : Nat} {ts : Array TypeId} {fn : Func} {p : Int} (hx : ev F x = .int .u64 p) (hf : ev F f = .func (.func g) #[] #[]) (hfn : P.funcs[g]? = some fn) (hb : fn.body.isNone = true) (he : Extern.find fn = some Extern.MathFloatBits.float64frombits) (hname : (fn.name == "runtime.NumGoroutine") = false) (hn : Extern.findNext fn = none) : Pu P F (.call { callee := .value f, args := #[x], argTypes := ts }) ty (.float .f64 p.toNat) :=
  P_ext (as := [x]) he hf hfn hname hb hn (fun w => by show (Extern.MathFloatBits.float64frombits #[ev F x]).run P w = _; rw [hx]; rfl)
theorem guard_flt {op : BinOp} {t : TypeId} {x y : Operand} {k k' : FloatKind} {p q : Nat} : (eqGuard op t x y (.float k p) (.float k' q)).run P w = .ok () w := by
  cases op <;> simp [eqGuard, Sem.run_pure]
/-- What a comparison of float64s tells. -/
def fcmp : BinOp → Option Ordering → Bool
  | .eql, c => c == some .eq
  | .neq, c => c != some .eq
  | .lss, c => c == some .lt
  | .leq, c => c == some .lt || c == some .eq
  | .gtr, c => c == some .gt
  | .geq, c => c == some .gt || c == some .eq
  | _, _ => false
theorem P_fcmp {t t' : TypeId} {x y : Operand} {op : BinOp} {p q : Nat} {c : Option Ordering} {r : Bool} (hx : ev F x = .float .f64 p) (hy : ev F y = .float .f64 q) (ho : isCmp op = true) (hc : Ieee.double.order p q = c) (hr : fcmp op c = r) : Pu P F (.binOp op t x y t') ty (.bool r) :=
  fun _ _ _ w => bin_run hx hy guard_flt (by
    subst hr; subst hc
    cases op <;> first | (simp [isCmp] at ho; done) | (simp [binOp, Op.floatCmp, fcmp, FloatKind.format]; done) | (simp [binOp, Op.floatCmp, fcmp, FloatKind.format, Op.equal, Op.floatEq]))
/-- A sum that is a number or an infinity. -/
theorem P_fadd {t t' : TypeId} {x y : Operand} {p q r : Nat} (hx : ev F x = .float .f64 p) (hy : ev F y = .float .f64 q) (hr : Ieee.double.add p q = some r) : Pu P F (.binOp .add t x y t') ty (.float .f64 r) :=
  fun _ _ _ w => bin_run hx hy guard_flt (run_float_arith w .add t .f64 p q r hr)
/-- A sum that is none: any NaN. -/
theorem Lst_fadd_nan {d : Nat} {t t' : TypeId} {x y : Operand} {p q : Nat} (hx : ev F x = .float .f64 p) (hy : ev F y = .float .f64 q) (hr : Ieee.double.add p q = none) (hd : Nat.blt d n = true)
    (h : ∀ r, Fl.isNaN r = true → r < 18446744073709551616 → Lst P rd n ops Q rest (upd F d (.float .f64 r)) ds w.drew) : Lst P rd n ops Q (⟨some d, .binOp .add t x y t', ty, pos, after, none⟩ :: rest) F ds w := by
  have hq : (Question.nanBits .f64 p q).forced = false := rfl
  refine Lst_value (v := .float .f64 ((Question.nanBits .f64 p q).cut (w.tape w.drawn (Question.nanBits .f64 p q)))) (w' := w.drew) rfl ?_ hd (h _ ?_ ?_)
  · have hr' : FloatKind.f64.format.add p q = none := hr
    have hb : (binOp .add t (.float .f64 p) (.float .f64 q)).run P w = .ok (.float .f64 ((Question.nanBits .f64 p q).cut (w.tape w.drawn (Question.nanBits .f64 p q)))) w.drew := by
      show (Op.floatArith .add .f64 p q).run P w = _
      unfold Op.floatArith
      simp only [hr']
      rfl
    simp only [execOp, hx, hy, Sem.run_bind, guard_flt, Result.andThen, hb]
    rfl
  · generalize w.tape w.drawn (Question.nanBits .f64 p q) = c
    simp only [Question.cut, Fl.isNaN, Fl.rung]
    refine decide_eq_true ?_
    have h2 : c / 2 % (2 ^ 52 - 1) < 2 ^ 52 - 1 := Nat.mod_lt _ (by omega)
    generalize c / 2 % (2 ^ 52 - 1) = e at h2 ⊢
    rcases Nat.mod_two_eq_zero_or_one c with h | h <;> rw [h] <;> omega
  · generalize w.tape w.drawn (Question.nanBits .f64 p q) = c
    simp only [Question.cut]
    have h2 : c / 2 % (2 ^ 52 - 1) < 2 ^ 52 - 1 := Nat.mod_lt _ (by omega)
    generalize c / 2 % (2 ^ 52 - 1) = e at h2 ⊢
    omega
end floats
end Sx
end Go.Proofs.Ytoljcnlmockpcaa
