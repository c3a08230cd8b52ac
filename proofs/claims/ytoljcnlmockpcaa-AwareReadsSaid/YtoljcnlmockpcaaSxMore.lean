/- Further rules of our calculus: the order of strings, floats' signs and conversions. Over any program. -/
import Derived.Test.YtoljcnlmockpcaaSxFloat
import Derived.Lib.Bytealg
namespace Go.Proofs.Ytoljcnlmockpcaa
namespace Sx
open Go Go.RowKit

theorem Below.after {w A w' : World} (h : Below w.heap.size w A) (hb : Below A.heap.size A w') : Below w.heap.size w w' := h.trans (hb.mono h.size)
/-- The order of two strings, by their bytes. -/
def cmpS (p q : ByteArray) : Int := Lib.compareBytes p.data.toList q.data.toList
theorem less_iff : ∀ a b : List UInt8, Op.bytesLess a b = decide (Lib.compareBytes a b < 0)
  | [], [] => rfl
  | [], _ :: _ => rfl
  | _ :: _, [] => rfl
  | a :: as, b :: bs => by
    have ih := less_iff as bs
    unfold Op.bytesLess Lib.compareBytes
    by_cases h : a < b
    · simp [h]
    · by_cases h2 : b < a
      · have hne : ¬ a = b := fun e => by subst e; exact UInt8.lt_irrefl a h2
        simp [h, h2, hne]
      · have he : a = b := UInt8.le_antisymm (UInt8.not_lt.1 h2) (UInt8.not_lt.1 h)
        subst he
        simp [h, ih]
theorem cmpB_eq : ∀ a b : List UInt8, Lib.compareBytes a b = 0 ↔ a = b
  | [], [] => by simp [Lib.compareBytes]
  | [], _ :: _ => by simp [Lib.compareBytes]
  | _ :: _, [] => by simp [Lib.compareBytes]
  | a :: as, b :: bs => by
    have ih := cmpB_eq as bs
    unfold Lib.compareBytes
    by_cases h : a < b
    · have hne : ¬ a = b := fun e => by subst e; exact UInt8.lt_irrefl a h
      simp [h, hne]
    · by_cases h2 : b < a
      · have hne : ¬ a = b := fun e => by subst e; exact UInt8.lt_irrefl a h2
        simp [h, h2, hne]
      · have he : a = b := UInt8.le_antisymm (UInt8.not_lt.1 h2) (UInt8.not_lt.1 h)
        subst he
        simp [h, ih]
theorem eqS_iff (p q : ByteArray) : (p.toList == q.toList) = decide (cmpS p q = 0) := by
  rw [Go.ByteArray.toList_eq, Go.ByteArray.toList_eq]
  unfold cmpS
  by_cases h : p.data.toList = q.data.toList
  · rw [h]
    simp [(cmpB_eq q.data.toList q.data.toList).2 rfl]
  · have h2 : ¬ Lib.compareBytes p.data.toList q.data.toList = 0 := fun e => h ((cmpB_eq _ _).1 e)
    rw [beq_eq_false_iff_ne.2 h, decide_eq_false h2]
def scmp : BinOp → Int → Bool
  | .lss, c => decide (c < 0)
  | .leq, c => decide (c < 0) || decide (c = 0)
  | .gtr, c => !(decide (c < 0) || decide (c = 0))
  | .geq, c => !decide (c < 0)
  | _, _ => false
def isOrd : BinOp → Bool
  | .lss | .leq | .gtr | .geq => true
  | _ => false
section more
variable {P : Program} {rd : Option Nat} {n : Nat} {ops : Array Oper} {Q : Post} {rest : List Oper} {F : Fr} {ds : List Deferred} {w : World} {ty : TypeId} {pos : String} {after : Array Edge}
theorem P_scmp {t t' : TypeId} {x y : Operand} {op : BinOp} {p q : ByteArray} {c : Int} {r : Bool} (hx : ev F x = .string p) (hy : ev F y = .string q) (ho : isOrd op = true) (hc : cmpS p q = c) (hr : scmp op c = r) : Pu P F (.binOp op t x y t') ty (.bool r) :=
  have e1 : Op.bytesLess p.toList q.toList = decide (cmpS p q < 0) := by
    rw [Go.ByteArray.toList_eq, Go.ByteArray.toList_eq, less_iff]; rfl
  fun _ _ _ w => bin_run hx hy guard_str (by
    subst hr; subst hc
    cases op <;> first | (simp [isOrd] at ho; done) | (simp only [binOp, Op.stringOp, e1, eqS_iff, scmp]; rfl))
/-- A float's other sign. -/
def negf (p : Nat) : Nat := p ^^^ 9223372036854775808
theorem P_fneg {t : TypeId} {x : Operand} {p r : Nat} (hx : ev F x = .float .f64 p) (hr : negf p = r) : Pu P F (.unOp .neg t x) ty (.float .f64 r) :=
  fun dst pos after w => (by subst hr; simp [execOp, hx, Op.unary, Op.negFloat, negf, FloatKind.format, Ieee.double])
theorem P_toflt {t t' : TypeId} {x : Operand} {k : IntKind} {u : TypeDesc} {p : Int} {r : Nat} (hx : ev F x = .int k p) (ht : P.underlying t = some u) (ht' : P.underlying t' = some (.float .f64)) (hr : FloatKind.f64.nearest p = r) : Pu P F (.convert t t' x) ty (.float .f64 r) :=
  fun dst pos after w => (by subst hr; simp [execOp, hx, convert, run_underlying ht, run_underlying ht', Conv.intToFloat])
theorem P_fltflt {t t' : TypeId} {x : Operand} {u : TypeDesc} {p : Nat} (hx : ev F x = .float .f64 p) (ht : P.underlying t = some u) (ht' : P.underlying t' = some (.float .f64)) : Pu P F (.convert t t' x) ty (.float .f64 p) :=
  fun dst pos after w => (by simp [execOp, hx, convert, run_underlying ht, run_underlying ht', Conv.floatToFloat])
end more
end Sx
end Go.Proofs.Ytoljcnlmockpcaa
