/- Our calculus of walks: floats, arrays, drawn regions with a tail that is not forced. Over any program. -/
import Derived.Laws.FloatArith
import Derived.Test.YtifkedhbelflkaaDoorOqSxC
import Derived.Laws.Externs
import Derived.Lib.Bytealg
import Derived.Laws.IdiomStrings
import Derived.Lib.Builder
namespace Go.Proofs.YtifkedhbelflkaaDoor
namespace Fl
open Go Ieee

/-- The rung of a word, its sign, its key in the order. -/
def rung (b : Nat) : Nat := b % 9223372036854775808
def sgn (b : Nat) : Bool := b / 9223372036854775808 % 2 == 1
def sk (b : Nat) : Int := if sgn b then -(rung b : Int) else (rung b : Int)
def isNaN (b : Nat) : Bool := decide (9218868437227405312 < rung b)
/-- What a rung stands for, in units of the least place. -/
def mg (r : Nat) : Nat := if r < 4503599627370496 then r else (4503599627370496 + r % 4503599627370496) * 2 ^ (r / 4503599627370496 - 1)
theorem mg_zero : mg 0 = 0 := rfl
theorem mg_lt {a b : Nat} (h : a < b) : mg a < mg b := by
  unfold mg
  by_cases hb : b < 4503599627370496
  · rw [if_pos (by omega), if_pos hb]; exact h
  · rw [if_neg hb]
    have hp : ∀ n : Nat, 0 < 2 ^ n := fun n => Nat.pos_of_ne_zero (by simp)
    by_cases ha : a < 4503599627370496
    · rw [if_pos ha]
      have := hp (b / 4503599627370496 - 1)
      have h2 : (4503599627370496 + b % 4503599627370496) * 1 ≤ (4503599627370496 + b % 4503599627370496) * 2 ^ (b / 4503599627370496 - 1) := Nat.mul_le_mul_left _ this
      omega
    · rw [if_neg ha]
      have hab : a / 4503599627370496 ≤ b / 4503599627370496 := Nat.div_le_div_right (by omega)
      by_cases he : a / 4503599627370496 = b / 4503599627370496
      · rw [he]
        exact Nat.mul_lt_mul_of_pos_right (by omega) (hp _)
      · have h1 : (4503599627370496 + a % 4503599627370496) * 2 ^ (a / 4503599627370496 - 1) < (2 * 4503599627370496) * 2 ^ (a / 4503599627370496 - 1) := Nat.mul_lt_mul_of_pos_right (by omega) (hp _)
        have h2 : (2 * 4503599627370496) * 2 ^ (a / 4503599627370496 - 1) = 4503599627370496 * 2 ^ (a / 4503599627370496) := by
          obtain ⟨e, h⟩ : ∃ e, a / 4503599627370496 = e + 1 := ⟨a / 4503599627370496 - 1, by omega⟩
          rw [h, Nat.add_sub_cancel, Nat.pow_succ]
          omega
        have h3 : 2 ^ (a / 4503599627370496) ≤ 2 ^ (b / 4503599627370496 - 1) := Nat.pow_le_pow_right (by omega) (by omega)
        have h4 : 4503599627370496 * 2 ^ (a / 4503599627370496) ≤ (4503599627370496 + b % 4503599627370496) * 2 ^ (b / 4503599627370496 - 1) := Nat.mul_le_mul (by omega) h3
        omega
theorem mg_le {a b : Nat} (h : a ≤ b) : mg a ≤ mg b := by
  rcases Nat.lt_or_ge a b with h' | h'
  · exact Nat.le_of_lt (mg_lt h')
  · rw [show a = b by omega]; exact Nat.le_refl _

/-- A finite word's datum. -/
theorem read_fin (b : Nat) (h : rung b < 9218868437227405312) : ∃ (m : Nat) (e : Nat), double.read b = .number (sgn b) m (-1074 + e) ∧ m * 2 ^ e = mg (rung b) := by
  have hs : double.signWeight = 9223372036854775808 := by kernel_rfl
  have hb : double.binade = 4503599627370496 := by kernel_rfl
  have hi : double.infRung = 9218868437227405312 := by kernel_rfl
  have hl : double.leastPlace = -1074 := by kernel_rfl
  unfold Format.read
  simp only [hs, hb, hi, hl]
  show ∃ m e, (if rung b < 4503599627370496 then Datum.number (sgn b) (rung b) (-1074) else if rung b < 9218868437227405312 then Datum.number (sgn b) (4503599627370496 + rung b % 4503599627370496) (-1074 + ((rung b / 4503599627370496 - 1 : Nat) : Int)) else _) = _ ∧ _
  by_cases h1 : rung b < 4503599627370496
  · rw [if_pos h1]
    exact ⟨rung b, 0, rfl, by unfold mg; rw [if_pos h1]; simp⟩
  · rw [if_neg h1, if_pos h]
    exact ⟨_, rung b / 4503599627370496 - 1, rfl, by unfold mg; rw [if_neg h1]⟩
theorem read_inf (b : Nat) (h : rung b = 9218868437227405312) : double.read b = .infinity (sgn b) := by
  have hs : double.signWeight = 9223372036854775808 := by kernel_rfl
  have hb : double.binade = 4503599627370496 := by kernel_rfl
  have hi : double.infRung = 9218868437227405312 := by kernel_rfl
  unfold Format.read
  simp only [hs, hb, hi]
  show (if rung b < 4503599627370496 then _ else if rung b < 9218868437227405312 then _ else if rung b = 9218868437227405312 then Datum.infinity (sgn b) else _) = _
  rw [if_neg (by omega), if_neg (by omega), if_pos h]
theorem read_nan (b : Nat) (h : 9218868437227405312 < rung b) : double.read b = .nan (sgn b) (rung b - 9218868437227405312) := by
  have hs : double.signWeight = 9223372036854775808 := by kernel_rfl
  have hb : double.binade = 4503599627370496 := by kernel_rfl
  have hi : double.infRung = 9218868437227405312 := by kernel_rfl
  unfold Format.read
  simp only [hs, hb, hi]
  show (if rung b < 4503599627370496 then _ else if rung b < 9218868437227405312 then _ else if rung b = 9218868437227405312 then _ else Datum.nan (sgn b) (rung b - 9218868437227405312)) = _
  rw [if_neg (by omega), if_neg (by omega), if_neg (by omega)]

theorem cmp_lt {a b : Int} (h : a < b) : compare a b = .lt := by
  show compareOfLessAndEq a b = .lt
  unfold compareOfLessAndEq
  rw [if_pos h]
theorem cmp_eq {a b : Int} (h : a = b) : compare a b = .eq := by
  show compareOfLessAndEq a b = .eq
  unfold compareOfLessAndEq
  rw [if_neg (by omega), if_pos h]
theorem cmp_gt {a b : Int} (h : b < a) : compare a b = .gt := by
  show compareOfLessAndEq a b = .gt
  unfold compareOfLessAndEq
  rw [if_neg (by omega), if_neg (by omega)]
/-- Two pairs in the same relation are told alike. -/
theorem cmp_of {a b c d : Int} (h1 : a < b ↔ c < d) (h2 : b < a ↔ d < c) : compare a b = compare c d := by
  rcases Int.lt_trichotomy a b with h | h | h
  · rw [cmp_lt h, cmp_lt (h1.1 h)]
  · rw [cmp_eq h, cmp_eq (by omega)]
  · rw [cmp_gt h, cmp_gt (h2.1 h)]
/-- A word's number, in units of the least place. -/
def skm (b : Nat) : Int := if sgn b then -(mg (rung b) : Int) else (mg (rung b) : Int)
theorem skm_sk (x y : Nat) : compare (skm x) (skm y) = compare (sk x) (sk y) := by
  have z0 := mg_zero
  have h1 : ∀ {a b : Nat}, mg a < mg b ↔ a < b := fun {a b} => ⟨fun h => Nat.lt_of_not_le fun g => Nat.lt_irrefl _ (Nat.lt_of_lt_of_le h (mg_le g)), mg_lt⟩
  have hp : ∀ a : Nat, 0 < mg a ↔ 0 < a := fun a => by have := h1 (a := 0) (b := a); rwa [z0] at this
  have a1 := h1 (a := rung x) (b := rung y)
  have a2 := h1 (a := rung y) (b := rung x)
  have p1 := hp (rung x)
  have p2 := hp (rung y)
  unfold skm sk
  refine cmp_of ?_ ?_ <;> cases sgn x <;> cases sgn y <;> simp only [if_true, Bool.false_eq_true, if_false] <;> omega
theorem signed_eq (s : Bool) (m k : Nat) : signed s m k = if s then -((m * 2 ^ k : Nat) : Int) else ((m * 2 ^ k : Nat) : Int) := by
  unfold signed
  rw [Nat.shiftLeft_eq]
theorem fin_order (s t : Bool) (m1 m2 e1 e2 : Nat) : (Datum.number s m1 (-1074 + e1)).order (Datum.number t m2 (-1074 + e2)) = some (compare (if s then -((m1 * 2 ^ e1 : Nat) : Int) else ((m1 * 2 ^ e1 : Nat) : Int)) (if t then -((m2 * 2 ^ e2 : Nat) : Int) else ((m2 * 2 ^ e2 : Nat) : Int))) := by
  simp only [Datum.order, signed_eq]
  congr 1
  have k1 : ((-1074 + (e1 : Int)) - min (-1074 + (e1 : Int)) (-1074 + (e2 : Int))).toNat = e1 - min e1 e2 := by omega
  have k2 : ((-1074 + (e2 : Int)) - min (-1074 + (e1 : Int)) (-1074 + (e2 : Int))).toNat = e2 - min e1 e2 := by omega
  rw [k1, k2]
  have q1 : m1 * 2 ^ e1 = (m1 * 2 ^ (e1 - min e1 e2)) * 2 ^ (min e1 e2) := by
    rw [Nat.mul_assoc, ← Nat.pow_add, show e1 - min e1 e2 + min e1 e2 = e1 by omega]
  have q2 : m2 * 2 ^ e2 = (m2 * 2 ^ (e2 - min e1 e2)) * 2 ^ (min e1 e2) := by
    rw [Nat.mul_assoc, ← Nat.pow_add, show e2 - min e1 e2 + min e1 e2 = e2 by omega]
  rw [q1, q2]
  generalize m1 * 2 ^ (e1 - min e1 e2) = a
  generalize m2 * 2 ^ (e2 - min e1 e2) = b
  have hp : 0 < 2 ^ (min e1 e2) := Nat.pos_of_ne_zero (by simp)
  generalize 2 ^ (min e1 e2) = p at hp
  have r1 : a * p < b * p ↔ a < b := Nat.mul_lt_mul_right hp
  have r2 : b * p < a * p ↔ b < a := Nat.mul_lt_mul_right hp
  have z1 : 0 < a * p ↔ 0 < a := by have := Nat.mul_lt_mul_right (b := 0) (c := a) hp; rwa [Nat.zero_mul] at this
  have z2 : 0 < b * p ↔ 0 < b := by have := Nat.mul_lt_mul_right (b := 0) (c := b) hp; rwa [Nat.zero_mul] at this
  generalize a * p = a' at *
  generalize b * p = b' at *
  refine cmp_of ?_ ?_ <;> cases s <;> cases t <;> simp only [if_true, Bool.false_eq_true, if_false] <;> omega
/-- THE ORDER OF FLOATS is that of their signed rungs. -/
theorem order_eq (x y : Nat) (hx : isNaN x = false) (hy : isNaN y = false) : double.order x y = some (compare (sk x) (sk y)) := by
  have hx' : rung x ≤ 9218868437227405312 := by have := of_decide_eq_false hx; omega
  have hy' : rung y ≤ 9218868437227405312 := by have := of_decide_eq_false hy; omega
  rw [← skm_sk]
  unfold Format.order
  rcases Nat.lt_or_ge (rung x) 9218868437227405312 with fx | fx <;> rcases Nat.lt_or_ge (rung y) 9218868437227405312 with fy | fy
  · obtain ⟨m1, e1, h1, g1⟩ := read_fin x fx
    obtain ⟨m2, e2, h2, g2⟩ := read_fin y fy
    rw [h1, h2, fin_order, g1, g2]
    rfl
  · obtain ⟨m1, e1, h1, g1⟩ := read_fin x fx
    rw [h1, read_inf y (by omega)]
    have := mg_lt (show rung x < rung y by omega)
    simp only [Datum.order]
    unfold skm
    congr 1
    cases hs : sgn x <;> cases ht : sgn y <;> simp only [if_true, Bool.false_eq_true, if_false] <;> first | exact (cmp_lt (by omega)).symm | exact (cmp_gt (by omega)).symm
  · obtain ⟨m2, e2, h2, g2⟩ := read_fin y fy
    rw [h2, read_inf x (by omega)]
    have := mg_lt (show rung y < rung x by omega)
    simp only [Datum.order]
    unfold skm
    congr 1
    cases hs : sgn x <;> cases ht : sgn y <;> simp only [if_true, Bool.false_eq_true, if_false] <;> first | exact (cmp_lt (by omega)).symm | exact (cmp_gt (by omega)).symm
  · rw [read_inf x (by omega), read_inf y (by omega)]
    have e : rung x = rung y := by omega
    have hp : 0 < mg (rung y) := by have := mg_lt (show 0 < rung y by omega); rwa [mg_zero] at this
    simp only [Datum.order]
    unfold skm
    rw [e]
    congr 1
    cases hs : sgn x <;> cases ht : sgn y <;> simp only [if_true, Bool.false_eq_true, if_false] <;> first | (rw [cmp_eq rfl]; rfl) | (rw [cmp_lt (by omega)]; rfl) | (rw [cmp_gt (by omega)]; rfl)
theorem order_nan (x y : Nat) (h : isNaN x = true ∨ isNaN y = true) : double.order x y = none := by
  unfold Format.order
  rcases h with h | h
  · rw [read_nan x (of_decide_eq_true h)]; rfl
  · rw [read_nan y (of_decide_eq_true h)]
    cases double.read x <;> rfl
end Fl
namespace Sx
open Go Go.RowKit

section floats
variable {P : Program} {rd : Option Nat} {n : Nat} {ops : Array Oper} {Q : Post} {rest : List Oper} {F : Fr} {ds : List Deferred} {w : World} {ty : TypeId} {pos : String} {after : Array Edge}

/-- A call that the model answers itself, without a look at the world. -/
theorem P_ext {f : Operand} {as : List Operand} {g : Nat} {ts : Array TypeId} {fn : Func} {e : Array Value → Sem Value} {v : Value} (he : Extern.find fn = some e) (hf : ev F f = .func (.func g) #[] #[]) (hfn : P.funcs[g]? = some fn) (hname : (fn.name == "runtime.NumGoroutine") = false) (hb : fn.body.isNone = true) (hn : Extern.findNext fn = none)
    (hv : ∀ w, (e (evs F as).toArray).run P w = .ok v w) : Pu P F (.call { callee := .value f, args := as.toArray, argTypes := ts }) ty v := fun dst pos after w => by
  have e2 := map_evs (F := F) as
  have hr : (callFunc g (evs F as).toArray).run P w = .ok (.value v) w := by rw [run_callFunc_extern hfn hname hb hn he, hv w]; rfl
  simp only [execOp, resolve, hf, Deferred.ofValue, invoke, Sem.run_bind, Sem.run_pure, Result.andThen, e2]
  simpa using hr
/-- math.Float64bits, math.Float64frombits. -/
theorem P_bits {f x : Operand} {g : Nat} {ts : Array TypeId} {fn : Func} {p : Nat} (hx : ev F x = .float .f64 p) (hf : ev F f = .func (.func g) #[] #[]) (hfn : P.funcs[g]? = some fn) (hb : fn.body.isNone = true) (he : Extern.find fn = some Extern.MathFloatBits.float64bits) (hname : (fn.name == "runtime.NumGoroutine") = false) (hn : Extern.findNext fn = none) : Pu P F (.call { callee := .value f, args := #[x], argTypes := ts }) ty (.int .u64 p) :=
  P_ext (as := [x]) he hf hfn hname hb hn (fun w => by show (Extern.MathFloatBits.float64bits #[ev F x]).run P w = _; rw [hx]; rfl)
theorem P_frombits {f x : Operand} {g : Nat} {ts : Array TypeId} {fn : Func} {p : Int} (hx : ev F x = .int .u64 p) (hf : ev F f = .func (.func g) #[] #[]) (hfn : P.funcs[g]? = some fn) (hb : fn.body.isNone = true) (he : Extern.find fn = some Extern.MathFloatBits.float64frombits) (hname : (fn.name == "runtime.NumGoroutine") = false) (hn : Extern.findNext fn = none) : Pu P F (.call { callee := .value f, args := #[x], argTypes := ts }) ty (.float .f64 p.toNat) :=
  P_ext (as := [x]) he hf hfn hname hb hn (fun w => by show (Extern.MathFloatBits.float64frombits #[ev F x]).run P w = _; rw [hx]; rfl)
theorem guard_flt {op : BinOp} {t : TypeId} {x y : Operand} {k k' : FloatKind} {p q : Nat} : (eqGuard op t x y (.float k p) (.float k' q)).run P w = .ok () w := by
  cases op <;> simp [eqGuard, Sem.run_pure]
/-- What a comparison of float64s tells. -/
def fcmp : BinOp → Option Ordering → Bool
  | .eql, c => c == some .eq
  | .neq, c => c != some .eq
  | .lss, c => c == some .lt
  | .leq, c => c == some .lt || c == some .eq
  | .gtr, c => c == some .gt
  | .geq, c => c == some .gt || c == some .eq
  | _, _ => false
theorem P_fcmp {t t' : TypeId} {x y : Operand} {op : BinOp} {p q : Nat} {c : Option Ordering} {r : Bool} (hx : ev F x = .float .f64 p) (hy : ev F y = .float .f64 q) (ho : isCmp op = true) (hc : Ieee.double.order p q = c) (hr : fcmp op c = r) : Pu P F (.binOp op t x y t') ty (.bool r) :=
  fun _ _ _ w => bin_run hx hy guard_flt (by
    subst hr; subst hc
    cases op <;> first | (simp [isCmp] at ho; done) | (simp [binOp, Op.floatCmp, fcmp, FloatKind.format]; done) | (simp [binOp, Op.floatCmp, fcmp, FloatKind.format, Op.equal, Op.floatEq]))
end floats
end Sx
namespace Sx
open Go Go.RowKit

theorem Below.after {w A w' : World} (h : Below w.heap.size w A) (hb : Below A.heap.size A w') : Below w.heap.size w w' := h.trans (hb.mono h.size)
/-- The order of two strings, by their bytes. -/
def cmpS (p q : ByteArray) : Int := Lib.compareBytes p.data.toList q.data.toList
theorem less_iff : ∀ a b : List UInt8, Op.bytesLess a b = decide (Lib.compareBytes a b < 0)
  | [], [] => rfl
  | [], _ :: _ => rfl
  | _ :: _, [] => rfl
  | a :: as, b :: bs => by
    have ih := less_iff as bs
    unfold Op.bytesLess Lib.compareBytes
    by_cases h : a < b
    · simp [h]
    · by_cases h2 : b < a
      · have hne : ¬ a = b := fun e => by subst e; exact UInt8.lt_irrefl a h2
        simp [h, h2, hne]
      · have he : a = b := UInt8.le_antisymm (UInt8.not_lt.1 h2) (UInt8.not_lt.1 h)
        subst he
        simp [h, ih]
theorem cmpB_eq : ∀ a b : List UInt8, Lib.compareBytes a b = 0 ↔ a = b
  | [], [] => by simp [Lib.compareBytes]
  | [], _ :: _ => by simp [Lib.compareBytes]
  | _ :: _, [] => by simp [Lib.compareBytes]
  | a :: as, b :: bs => by
    have ih := cmpB_eq as bs
    unfold Lib.compareBytes
    by_cases h : a < b
    · have hne : ¬ a = b := fun e => by subst e; exact UInt8.lt_irrefl a h
      simp [h, hne]
    · by_cases h2 : b < a
      · have hne : ¬ a = b := fun e => by subst e; exact UInt8.lt_irrefl a h2
        simp [h, h2, hne]
      · have he : a = b := UInt8.le_antisymm (UInt8.not_lt.1 h2) (UInt8.not_lt.1 h)
        subst he
        simp [h, ih]
theorem eqS_iff (p q : ByteArray) : (p.toList == q.toList) = decide (cmpS p q = 0) := by
  rw [Go.ByteArray.toList_eq, Go.ByteArray.toList_eq]
  unfold cmpS
  by_cases h : p.data.toList = q.data.toList
  · rw [h]
    simp [(cmpB_eq q.data.toList q.data.toList).2 rfl]
  · have h2 : ¬ Lib.compareBytes p.data.toList q.data.toList = 0 := fun e => h ((cmpB_eq _ _).1 e)
    rw [beq_eq_false_iff_ne.2 h, decide_eq_false h2]
def scmp : BinOp → Int → Bool
  | .lss, c => decide (c < 0)
  | .leq, c => decide (c < 0) || decide (c = 0)
  | .gtr, c => !(decide (c < 0) || decide (c = 0))
  | .geq, c => !decide (c < 0)
  | _, _ => false
def isOrd : BinOp → Bool
  | .lss | .leq | .gtr | .geq => true
  | _ => false
section more
variable {P : Program} {rd : Option Nat} {n : Nat} {ops : Array Oper} {Q : Post} {rest : List Oper} {F : Fr} {ds : List Deferred} {w : World} {ty : TypeId} {pos : String} {after : Array Edge}
theorem P_scmp {t t' : TypeId} {x y : Operand} {op : BinOp} {p q : ByteArray} {c : Int} {r : Bool} (hx : ev F x = .string p) (hy : ev F y = .string q) (ho : isOrd op = true) (hc : cmpS p q = c) (hr : scmp op c = r) : Pu P F (.binOp op t x y t') ty (.bool r) :=
  have e1 : Op.bytesLess p.toList q.toList = decide (cmpS p q < 0) := by
    rw [Go.ByteArray.toList_eq, Go.ByteArray.toList_eq, less_iff]; rfl
  fun _ _ _ w => bin_run hx hy guard_str (by
    subst hr; subst hc
    cases op <;> first | (simp [isOrd] at ho; done) | (simp only [binOp, Op.stringOp, e1, eqS_iff, scmp]; rfl))
end more
end Sx
namespace Sx
open Go Go.RowKit
section arr
variable {P : Program} {rd : Option Nat} {n : Nat} {ops : Array Oper} {Q : Post} {rest : List Oper} {F : Fr} {ds : List Deferred} {w : World} {ty : TypeId} {pos : String} {after : Array Edge}
/-! ### Pointers -/
end arr
end Sx
namespace Sx
open Go Go.RowKit
section q
variable {P : Program} {n : Nat} {ops : Array Oper} {C : World → Prop} {K : Fr → Prop} {rest : List Oper} {F : Fr} {ds : List Deferred} {ty : TypeId} {pos : String} {after : Array Edge}
theorem Qst_loadA {d b off sz : Nat} {x : Operand} {t e : TypeId} {u : TypeDesc} {i : TypeInfo} {l cs : List Value} (hx : ev F x = .pointer (some ⟨b, off, none⟩)) (ht : P.underlying t = some u) (hu : u.isRow = true) (hi : P.info? t = some i) (hs : i.size = sz) (hb : ∀ w, C w → Blk w b l e) (hv : TakeR l off sz cs) (hd : Nat.blt d n = true)
    (h : Qst P n ops C K rest (upd F d (.agg cs.toArray)) ds) : Qst P n ops C K (⟨some d, .load t x, ty, pos, after, none⟩ :: rest) F ds :=
  Qst_value rfl (fun w hw => by
    have hg := hv.get
    have := run_loadAt_mid (P := P) w b off t cs u (fun j v hj => ((hb w hw).cell (off + j)).trans (hg.2 j v hj)) ht hu (by rw [hi]; simp [hs, hg.1])
    simp [execOp, hx, this]) hd h
end q
end Sx
namespace Sx
open Go Go.RowKit

section act
variable {P : Program} {r : Nat} {ops : Array Oper} {md : Region.Mode} {S : World → Prop} {Q : Exit → Act → World → Prop}
abbrev En : Fence := E none
theorem En_fn (f : Nat) : En.fn f := E_fn none f

def YieldsS (P : Program) (ops : Array Oper) (S : World → Prop) (o : Oper) (v : Value) (a : Act) : Prop :=
  (Region.wanted o (yielded ops a.tmps) = true ∧ ∀ w, S w → (execOp a.eval o).run P w = .ok (.value v) w) ∨ (Region.wanted o (yielded ops a.tmps) = false ∧ v = undef)

theorem YieldsS.op {i : Nat} {o : Oper} {v : Value} {a : Act} (hi : ops[i]? = some o) (hy : YieldsS P ops S o v a) {K : Act → World → Prop} {w : World} (hS : S w) (h : K (a.put o.dst v) w) : wpOpIn En r P ops Q i K a w := by
  unfold wpOpIn
  simp only [hi]
  rcases hy with ⟨hw, hv⟩ | ⟨hw, rfl⟩
  · simp only [hw, if_true, Oper.wpIn, E_round, Oper.semAt_none, hv w hS, Oper.uponIn]; exact ⟨fun f _ => En_fn f, h⟩
  · simp only [hw, Bool.false_eq_true, if_false]; exact ⟨fun f _ => En_fn f, h⟩
theorem YieldsS.same {o : Oper} {v : Value} {a a' : Act} (hy : YieldsS P ops S o v a) (he : execOp a'.eval o = execOp a.eval o)
    (hw : Region.wanted o (yielded ops a'.tmps) = Region.wanted o (yielded ops a.tmps)) : YieldsS P ops S o v a' := by
  unfold YieldsS at *
  rw [he, hw]
  exact hy

theorem opIn_putS {j : Nat} {oi oj : Oper} {v : Value} (hj : ops[j]? = some oj) (hap : oi.apart ops oj = true)
    (hsi : ∀ cs b, oi.op ≠ .select cs b) (hsj : ∀ cs b, oj.op ≠ .select cs b)
    (hQ : ∀ c a w, ¬ Q (.panic c) a w) {K : Act → World → Prop} {a : Act} {w : World}
    (hy : YieldsS P ops S oi v a) (h : wpOpIn En r P ops Q j K (a.put oi.dst v) w) :
    wpOpIn En r P ops Q j (fun a' w' => YieldsS P ops S oi v a' ∧ K (a'.put oi.dst v) w') a w := by
  obtain ⟨h1, h2, h3⟩ := Oper.apart_spec hap
  have keep : ∀ (a : Act), YieldsS P ops S oi v a → ∀ u, YieldsS P ops S oi v (a.put oj.dst u) := fun a hy u =>
    hy.same (execOp_put oi hsi a oj.dst u h3) (wanted_put oi a oj.dst u h3)
  have keepD : ∀ d, YieldsS P ops S oi v { a with defers := d :: a.defers } := fun d => hy.same rfl rfl
  unfold wpOpIn at *
  simp only [hj] at *
  rw [wanted_put oj a oi.dst v h1, about_put oj w a oi.dst v h1] at h
  split
  · rename_i hw
    simp only [hw, if_true] at h
    unfold Oper.wpIn at *
    rw [about_put oj w a oi.dst v h1] at h
    refine ⟨h.1, ?_⟩
    have h := h.2
    rw [E_round, Oper.semAt_none, execOp_put oj hsj a oi.dst v h1] at h
    rw [E_round, Oper.semAt_none]
    generalize (execOp a.eval oj).run P w = z at *
    cases z with
    | ok x w' =>
      cases x <;> simp only [Oper.uponIn] at h ⊢
      case value u => exact ⟨keep a hy u, by rw [← Act.put_comm a v u h2]; exact h⟩
      case skip => exact ⟨keep a hy _, by rw [← Act.put_comm a v undef h2]; exact h⟩
      case defer d =>
        refine ⟨keep _ (keepD d) _, ?_⟩
        rw [← Act.put_comm _ v undef h2, ← Act.put_defers]
        exact h
      case enter f args =>
        refine ⟨h.1, CallsIn.mono h.2 fun e w'' he => ?_⟩
        cases e with
        | returned u => exact ⟨keep a hy u, by rw [← Act.put_comm a v u h2]; exact he⟩
        | panicked c => exact absurd he (hQ _ _ _)
        | outgrown => exact he
      case row row args => exact ⟨h.1, RowsIn.mono h.2 fun u w'' he => ⟨keep a hy u, by rw [← Act.put_comm a v u h2]; exact he⟩⟩
      case round l f tmps assign body =>
        refine ⟨h.1, RoundIn.mono h.2 fun e w'' he => ?_⟩
        cases e with
        | returned u => exact ⟨keep a hy u, by rw [← Act.put_comm a v u h2]; exact he⟩
        | panicked c => exact absurd he (hQ _ _ _)
        | outgrown => exact he
    | halt x w' =>
      cases x <;> simp only [Oper.uponIn] at h ⊢
      case panic u => exact absurd h (hQ _ _ _)
  · rename_i hw
    simp only [hw] at h
    exact ⟨h.1, keep a hy _, by rw [← Act.put_comm a v undef h2]; exact h.2⟩

/-! ### The head, with any tail behind it -/
variable {C : World → Prop} {m s : Nat}
def nth : List Oper → Nat → List Oper
  | [], _ => []
  | o :: _, 0 => [o]
  | _ :: l, i + 1 => nth l i
theorem nth_eq : ∀ (l : List Oper) (i : Nat), nth l i = (l[i]?).toList
  | [], _ => by simp [nth]
  | o :: _, 0 => by simp [nth]
  | _ :: l, i + 1 => by simp [nth, nth_eq l i]
end act

section fr
variable {P : Program} {n : Nat} {C S : World → Prop} {F : Fr} {ds : List Deferred} {w : World}
/-- The operations of these numbers are listed. -/
def lst (n : Nat) (L : List Nat) : Array Bool := L.foldr (fun i x => x.setIfInBounds i true) (Array.replicate n false)
def rnQ (Q : Post) (R : Fr → List Deferred → World → Prop) : Post
  | .normal, F, ds, w => R F ds w
  | e, F, ds, w => Q e F ds w
theorem rnQ_n {Q : Post} {R : Fr → List Deferred → World → Prop} (h : R F ds w) : rnQ Q R .normal F ds w := h
theorem run_value {s : Sem Value} {x : Next} {w' : World} (h : (do pure (.value (← s)) : Sem Next).run P w = .ok x w') : ∃ u, x = .value u := by
  rw [Sem.run_bind] at h
  cases hs : s.run P w with
  | ok v w2 => rw [hs] at h; cases h; exact ⟨_, rfl⟩
  | halt v w2 => rw [hs] at h; cases h
theorem wpIn_post {F : Fence} {r : Nat} {o : Oper} {a : Act} {w : World} {K K' : Act → World → Prop} {Q Q' : Exit → Act → World → Prop} (hK : ∀ a w, K a w → K' a w) (hQ : ∀ e, e ≠ .normal → ∀ a w, Q e a w → Q' e a w)
    (hh : o.wpIn F r P a w K Q) : o.wpIn F r P a w K' Q' := by
  unfold Oper.wpIn at *
  refine ⟨hh.1, ?_⟩
  have hh := hh.2
  have hl : LetsOut Q → LetsOut Q' := fun ⟨a, w, h⟩ => ⟨a, w, hQ _ (by simp) _ _ h⟩
  generalize (o.semAt F.round a.eval).run P w = z at *
  cases z with
  | ok x w' =>
    cases x <;> simp only [Oper.uponIn] at hh ⊢ <;>
      first
        | exact hK _ _ hh
        | exact ⟨hh.1, CallsIn.mono hh.2 (fun e w'' he => by cases e <;> first | exact hK _ _ he | exact hQ _ (by simp) _ _ he | exact hl he)⟩
        | exact ⟨hh.1, RowsIn.mono hh.2 (fun _ _ he => hK _ _ he)⟩
        | exact ⟨hh.1, RoundIn.mono hh.2 (fun e w'' he => by cases e <;> first | exact hK _ _ he | exact hQ _ (by simp) _ _ he | exact hl he)⟩
  | halt x w' => cases x <;> simp only [Oper.uponIn] at hh ⊢ <;> first | exact hQ _ (by simp) _ _ hh | exact hh

theorem nth_some {l : List Oper} {i : Nat} {o : Oper} (h : l.toArray[i]? = some o) : nth l i = [o] := by
  have : l[i]? = some o := by simpa using h
  rw [nth_eq, this, Option.toList_some]
theorem op_of_lst {l : List Oper} {Q : Post} {R : Fr → List Deferred → World → Prop} {i r : Nat} {o : Oper} {K : Act → World → Prop} {a : Act} (ho : l.toArray[i]? = some o) (hK : ∀ a w, lift n (rnQ Q R) .normal a w → K a w)
    (h : Lst P none n l.toArray (rnQ Q R) (nth l i) F ds w) (hf : Fits n F ds a) : wpOpIn En r P l.toArray (lift n Q) i K a w := by
  rw [nth_some ho] at h
  have h2 := h r a hf
  have post : ∀ e, e ≠ .normal → ∀ a w, lift n (rnQ Q R) e a w → lift n Q e a w := by
    rintro e he a w ⟨G, ds', hG, h⟩
    refine ⟨G, ds', hG, ?_⟩
    cases e <;> first | exact absurd rfl he | exact h
  unfold wpOpIn
  simp only [ho]
  unfold wpListIn at h2
  split
  · rename_i hw
    rw [if_pos hw] at h2
    exact wpIn_post hK post h2
  · rename_i hw
    rw [if_neg hw] at h2
    exact ⟨h2.1, hK _ _ h2.2⟩

theorem seqQ_p {rd : Option Nat} {y : Code} {Q : Post} (h : ∀ c F ds w, ¬ Q (.panic c) F ds w) : ∀ c F ds w, ¬ seqQ P rd n y Q (.panic c) F ds w := h
theorem blkQ_p {id : Nat} {Q : Post} (h : ∀ c F ds w, ¬ Q (.panic c) F ds w) : ∀ c F ds w, ¬ blkQ id Q (.panic c) F ds w := h
theorem retQ_p {rs : List ResultVar} {R : Value → World → Prop} : ∀ c F ds w, ¬ retQ P rs R (.panic c) F ds w := fun _ _ _ _ h => h
end fr
end Sx
end Go.Proofs.YtifkedhbelflkaaDoor
