/- Our calculus of walks: floats, arrays, drawn regions with a tail that is not forced. Over any program. -/
import Derived.Laws.FloatArith
import Derived.Test.YtfocnbmihcnaoaaGreatDoorSxC
import Derived.Laws.Externs
import Derived.Lib.Bytealg
import Derived.Laws.IdiomStrings
import Derived.Lib.Builder
namespace Go.Proofs.YtfocnbmihcnaoaaGreatDoor
namespace Fl
open Go Ieee

/-- The rung of a word, its sign, its key in the order. -/
def rung (b : Nat) : Nat := b % 9223372036854775808
def sgn (b : Nat) : Bool := b / 9223372036854775808 % 2 == 1
def sk (b : Nat) : Int := if sgn b then -(rung b : Int) else (rung b : Int)
def isNaN (b : Nat) : Bool := decide (9218868437227405312 < rung b)
/-- What a rung stands for, in units of the least place. -/
def mg (r : Nat) : Nat := if r < 4503599627370496 then r else (4503599627370496 + r % 4503599627370496) * 2 ^ (r / 4503599627370496 - 1)
theorem mg_zero : mg 0 = 0 := rfl
theorem mg_lt {a b : Nat} (h : a < b) : mg a < mg b := by
  unfold mg
  by_cases hb : b < 4503599627370496
  · rw [if_pos (by omega), if_pos hb]; exact h
  · rw [if_neg hb]
    have hp : ∀ n : Nat, 0 < 2 ^ n := fun n => Nat.pos_of_ne_zero (by simp)
    by_cases ha : a < 4503599627370496
    · rw [if_pos ha]
      have := hp (b / 4503599627370496 - 1)
      have h2 : (4503599627370496 + b % 4503599627370496) * 1 ≤ (4503599627370496 + b % 4503599627370496) * 2 ^ (b / 4503599627370496 - 1) := Nat.mul_le_mul_left _ this
      omega
    · rw [if_neg ha]
      have hab : a / 4503599627370496 ≤ b / 4503599627370496 := Nat.div_le_div_right (by omega)
      by_cases he : a / 4503599627370496 = b / 4503599627370496
      · rw [he]
        exact Nat.mul_lt_mul_of_pos_right (by omega) (hp _)
      · have h1 : (4503599627370496 + a % 4503599627370496) * 2 ^ (a / 4503599627370496 - 1) < (2 * 4503599627370496) * 2 ^ (a / 4503599627370496 - 1) := Nat.mul_lt_mul_of_pos_right (by omega) (hp _)
        have h2 : (2 * 4503599627370496) * 2 ^ (a / 4503599627370496 - 1) = 4503599627370496 * 2 ^ (a / 4503599627370496) := by
          obtain ⟨e, h⟩ : ∃ e, a / 4503599627370496 = e + 1 := ⟨a / 4503599627370496 - 1, by omega⟩
          rw [h, Nat.add_sub_cancel, Nat.pow_succ]
          omega
        have h3 : 2 ^ (a / 4503599627370496) ≤ 2 ^ (b / 4503599627370496 - 1) := Nat.pow_le_pow_right (by omega) (by omega)
        have h4 : 4503599627370496 * 2 ^ (a / 4503599627370496) ≤ (4503599627370496 + b % 4503599627370496) * 2 ^ (b / 4503599627370496 - 1) := Nat.mul_le_mul (by omega) h3
        omega
theorem mg_le {a b : Nat} (h : a ≤ b) : mg a ≤ mg b := by
  rcases Nat.lt_or_ge a b with h' | h'
  · exact Nat.le_of_lt (mg_lt h')
  · rw [show a = b by omega]; exact Nat.le_refl _

/-- A finite word's datum. -/
theorem read_fin (b : Nat) (h : rung b < 9218868437227405312) : ∃ (m : Nat) (e : Nat), double.read b = .number (sgn b) m (-1074 + e) ∧ m * 2 ^ e = mg (rung b) := by
  have hs : double.signWeight = 9223372036854775808 := by kernel_rfl
  have hb : double.binade = 4503599627370496 := by kernel_rfl
  have hi : double.infRung = 9218868437227405312 := by kernel_rfl
  have hl : double.leastPlace = -1074 := by kernel_rfl
  unfold Format.read
  simp only [hs, hb, hi, hl]
  show ∃ m e, (if rung b < 4503599627370496 then Datum.number (sgn b) (rung b) (-1074) else if rung b < 9218868437227405312 then Datum.number (sgn b) (4503599627370496 + rung b % 4503599627370496) (-1074 + ((rung b / 4503599627370496 - 1 : Nat) : Int)) else _) = _ ∧ _
  by_cases h1 : rung b < 4503599627370496
  · rw [if_pos h1]
    exact ⟨rung b, 0, rfl, by unfold mg; rw [if_pos h1]; simp⟩
  · rw [if_neg h1, if_pos h]
    exact ⟨_, rung b / 4503599627370496 - 1, rfl, by unfold mg; rw [if_neg h1]⟩
theorem read_inf (b : Nat) (h : rung b = 9218868437227405312) : double.read b = .infinity (sgn b) := by
  have hs : double.signWeight = 9223372036854775808 := by kernel_rfl
  have hb : double.binade = 4503599627370496 := by kernel_rfl
  have hi : double.infRung = 9218868437227405312 := by kernel_rfl
  unfold Format.read
  simp only [hs, hb, hi]
  show (if rung b < 4503599627370496 then _ else if rung b < 9218868437227405312 then _ else if rung b = 9218868437227405312 then Datum.infinity (sgn b) else _) = _
  rw [if_neg (by omega), if_neg (by omega), if_pos h]
theorem read_nan (b : Nat) (h : 9218868437227405312 < rung b) : double.read b = .nan (sgn b) (rung b - 9218868437227405312) := by
  have hs : double.signWeight = 9223372036854775808 := by kernel_rfl
  have hb : double.binade = 4503599627370496 := by kernel_rfl
  have hi : double.infRung = 9218868437227405312 := by kernel_rfl
  unfold Format.read
  simp only [hs, hb, hi]
  show (if rung b < 4503599627370496 then _ else if rung b < 9218868437227405312 then _ else if rung b = 9218868437227405312 then _ else Datum.nan (sgn b) (rung b - 9218868437227405312)) = _
  rw [if_neg (by omega), if_neg (by omega), if_neg (by omega)]

theorem cmp_lt {a b : Int} (h : a < b) : compare a b = .lt := by
  show compareOfLessAndEq a b = .lt
  unfold compareOfLessAndEq
  rw [if_pos h]
theorem cmp_eq {a b : Int} (h : a = b) : compare a b = .eq := by
  show compareOfLessAndEq a b = .eq
  unfold compareOfLessAndEq
  rw [if_neg (by omega), if_pos h]
theorem cmp_gt {a b : Int} (h : b < a) : compare a b = .gt := by
  show compareOfLessAndEq a b = .gt
  unfold compareOfLessAndEq
  rw [if_neg (by omega), if_neg (by omega)]
/-- Two pairs in the same relation are told alike. -/
theorem cmp_of {a b c d : Int} (h1 : a < b ↔ c < d) (h2 : b < a ↔ d < c) : compare a b = compare c d := by
  rcases Int.lt_trichotomy a b with h | h | h
  · rw [cmp_lt h, cmp_lt (h1.1 h)]
  · rw [cmp_eq h, cmp_eq (by omega)]
  · rw [cmp_gt h, cmp_gt (h2.1 h)]
/-- A word's number, in units of the least place. -/
def skm (b : Nat) : Int := if sgn b then -(mg (rung b) : Int) else (mg (rung b) : Int)
theorem skm_sk (x y : Nat) : compare (skm x) (skm y) = compare (sk x) (sk y) := by
  have z0 := mg_zero
  have h1 : ∀ {a b : Nat}, mg a < mg b ↔ a < b := fun {a b} => ⟨fun h => Nat.lt_of_not_le fun g => Nat.lt_irrefl _ (Nat.lt_of_lt_of_le h (mg_le g)), mg_lt⟩
  have hp : ∀ a : Nat, 0 < mg a ↔ 0 < a := fun a => by have := h1 (a := 0) (b := a); rwa [z0] at this
  have a1 := h1 (a := rung x) (b := rung y)
  have a2 := h1 (a := rung y) (b := rung x)
  have p1 := hp (rung x)
  have p2 := hp (rung y)
  unfold skm sk
  refine cmp_of ?_ ?_ <;> cases sgn x <;> cases sgn y <;> simp only [if_true, Bool.false_eq_true, if_false] <;> omega
theorem signed_eq (s : Bool) (m k : Nat) : signed s m k = if s then -((m * 2 ^ k : Nat) : Int) else ((m * 2 ^ k : Nat) : Int) := by
  unfold signed
  rw [Nat.shiftLeft_eq]
theorem fin_order (s t : Bool) (m1 m2 e1 e2 : Nat) : (Datum.number s m1 (-1074 + e1)).order (Datum.number t m2 (-1074 + e2)) = some (compare (if s then -((m1 * 2 ^ e1 : Nat) : Int) else ((m1 * 2 ^ e1 : Nat) : Int)) (if t then -((m2 * 2 ^ e2 : Nat) : Int) else ((m2 * 2 ^ e2 : Nat) : Int))) := by
  simp only [Datum.order, signed_eq]
  congr 1
  have k1 : ((-1074 + (e1 : Int)) - min (-1074 + (e1 : Int)) (-1074 + (e2 : Int))).toNat = e1 - min e1 e2 := by omega
  have k2 : ((-1074 + (e2 : Int)) - min (-1074 + (e1 : Int)) (-1074 + (e2 : Int))).toNat = e2 - min e1 e2 := by omega
  rw [k1, k2]
  have q1 : m1 * 2 ^ e1 = (m1 * 2 ^ (e1 - min e1 e2)) * 2 ^ (min e1 e2) := by
    rw [Nat.mul_assoc, ← Nat.pow_add, show e1 - min e1 e2 + min e1 e2 = e1 by omega]
  have q2 : m2 * 2 ^ e2 = (m2 * 2 ^ (e2 - min e1 e2)) * 2 ^ (min e1 e2) := by
    rw [Nat.mul_assoc, ← Nat.pow_add, show e2 - min e1 e2 + min e1 e2 = e2 by omega]
  rw [q1, q2]
  generalize m1 * 2 ^ (e1 - min e1 e2) = a
  generalize m2 * 2 ^ (e2 - min e1 e2) = b
  have hp : 0 < 2 ^ (min e1 e2) := Nat.pos_of_ne_zero (by simp)
  generalize 2 ^ (min e1 e2) = p at hp
  have r1 : a * p < b * p ↔ a < b := Nat.mul_lt_mul_right hp
  have r2 : b * p < a * p ↔ b < a := Nat.mul_lt_mul_right hp
  have z1 : 0 < a * p ↔ 0 < a := by have := Nat.mul_lt_mul_right (b := 0) (c := a) hp; rwa [Nat.zero_mul] at this
  have z2 : 0 < b * p ↔ 0 < b := by have := Nat.mul_lt_mul_right (b := 0) (c := b) hp; rwa [Nat.zero_mul] at this
  generalize a * p = a' at *
  generalize b * p = b' at *
  refine cmp_of ?_ ?_ <;> cases s <;> cases t <;> simp only [if_true, Bool.false_eq_true, if_false] <;> omega
/-- THE ORDER OF FLOATS is that of their signed rungs. -/
theorem order_eq (x y : Nat) (hx : isNaN x = false) (hy : isNaN y = false) : double.order x y = some (compare (sk x) (sk y)) := by
  have hx' : rung x ≤ 9218868437227405312 := by have := of_decide_eq_false hx; omega
  have hy' : rung y ≤ 9218868437227405312 := by have := of_decide_eq_false hy; omega
  rw [← skm_sk]
  unfold Format.order
  rcases Nat.lt_or_ge (rung x) 9218868437227405312 with fx | fx <;> rcases Nat.lt_or_ge (rung y) 9218868437227405312 with fy | fy
  · obtain ⟨m1, e1, h1, g1⟩ := read_fin x fx
    obtain ⟨m2, e2, h2, g2⟩ := read_fin y fy
    rw [h1, h2, fin_order, g1, g2]
    rfl
  · obtain ⟨m1, e1, h1, g1⟩ := read_fin x fx
    rw [h1, read_inf y (by omega)]
    have := mg_lt (show rung x < rung y by omega)
    simp only [Datum.order]
    unfold skm
    congr 1
    cases hs : sgn x <;> cases ht : sgn y <;> simp only [if_true, Bool.false_eq_true, if_false] <;> first | exact (cmp_lt (by omega)).symm | exact (cmp_gt (by omega)).symm
  · obtain ⟨m2, e2, h2, g2⟩ := read_fin y fy
    rw [h2, read_inf x (by omega)]
    have := mg_lt (show rung y < rung x by omega)
    simp only [Datum.order]
    unfold skm
    congr 1
    cases hs : sgn x <;> cases ht : sgn y <;> simp only [if_true, Bool.false_eq_true, if_false] <;> first | exact (cmp_lt (by omega)).symm | exact (cmp_gt (by omega)).symm
  · rw [read_inf x (by omega), read_inf y (by omega)]
    have e : rung x = rung y := by omega
    have hp : 0 < mg (rung y) := by have := mg_lt (show 0 < rung y by omega); rwa [mg_zero] at this
    simp only [Datum.order]
    unfold skm
    rw [e]
    congr 1
    cases hs : sgn x <;> cases ht : sgn y <;> simp only [if_true, Bool.false_eq_true, if_false] <;> first | (rw [cmp_eq rfl]; rfl) | (rw [cmp_lt (by omega)]; rfl) | (rw [cmp_gt (by omega)]; rfl)
theorem order_nan (x y : Nat) (h : isNaN x = true ∨ isNaN y = true) : double.order x y = none := by
  unfold Format.order
  rcases h with h | h
  · rw [read_nan x (of_decide_eq_true h)]; rfl
  · rw [read_nan y (of_decide_eq_true h)]
    cases double.read x <;> rfl
/-- A sum doesn't ask which comes first. -/
theorem sum_comm (a b : Datum) : a.sum b = b.sum a := by
  cases a <;> cases b <;> try rfl
  · rename_i s m i t n j
    simp only [Datum.sum]
    rw [Int.min_comm i j, Int.add_comm, Bool.and_comm]
  · rename_i s t
    simp only [Datum.sum]
    by_cases h : s = t
    · subst h; rfl
    · rw [if_neg h, if_neg (fun e => h e.symm)]
theorem add_comm (x y : Nat) : double.add x y = double.add y x := by
  unfold Format.add
  rw [sum_comm]
end Fl
namespace Sx
open Go Go.RowKit

section floats
variable {P : Program} {rd : Option Nat} {n : Nat} {ops : Array Oper} {Q : Post} {rest : List Oper} {F : Fr} {ds : List Deferred} {w : World} {ty : TypeId} {pos : String} {after : Array Edge}

/-- A call that the model answers itself, without a look at the world. -/
theorem P_ext {f : Operand} {as : List Operand} {g : Nat} {ts : Array TypeId} {fn : Func} {e : Array Value → Sem Value} {v : Value} (he : Extern.find fn = some e) (hf : ev F f = .func (.func g) #[] #[]) (hfn : P.funcs[g]? = some fn) (hname : (fn.name == "runtime.NumGoroutine") = false) (hb : fn.body.isNone = true) (hn : Extern.findNext fn = none)
    (hv : ∀ w, (e (evs F as).toArray).run P w = .ok v w) : Pu P F (.call { callee := .value f, args := as.toArray, argTypes := ts }) ty v := fun dst pos after w => by
  have e2 := map_evs (F := F) as
  have hr : (callFunc g (evs F as).toArray).run P w = .ok (.value v) w := by rw [run_callFunc_extern hfn hname hb hn he, hv w]; rfl
  simp only [execOp, resolve, hf, Deferred.ofValue, invoke, Sem.run_bind, Sem.run_pure, Result.andThen, e2]
  simpa using hr
/-- math.Float64bits, math.Float64frombits. -/
theorem P_bits {f x : Operand} {g : Nat} {ts : Array TypeId} {fn : Func} {p : Nat} (hx : ev F x = .float .f64 p) (hf : ev F f = .func (.func g) #[] #[]) (hfn : P.funcs[g]? = some fn) (hb : fn.body.isNone = true) (he : Extern.find fn = some Extern.MathFloatBits.float64bits) (hname : (fn.name == "runtime.NumGoroutine") = false) (hn : Extern.findNext fn = none) : Pu P F (.call { callee := .value f, args := #[x], argTypes := ts }) ty (.int .u64 p) :=
  P_ext (as := [x]) he hf hfn hname hb hn (fun w => by show (Extern.MathFloatBits.float64bits #[ev F x]).run P w = _; rw [hx]; rfl)
theorem P_frombits {f x : Operand} {g : Nat} {ts : Array TypeId} {fn : Func} {p : Int} (hx : ev F x = .int .u64 p) (hf : ev F f = .func (.func g) #[] #[]) (hfn : P.funcs[g]? = some fn) (hb : fn.body.isNone = true) (he : Extern.find fn = some Extern.MathFloatBits.float64frombits) (hname : (fn.name == "runtime.NumGoroutine") = false) (hn : Extern.findNext fn = none) : Pu P F (.call { callee := .value f, args := #[x], argTypes := ts }) ty (.float .f64 p.toNat) :=
  P_ext (as := [x]) he hf hfn hname hb hn (fun w => by show (Extern.MathFloatBits.float64frombits #[ev F x]).run P w = _; rw [hx]; rfl)
theorem guard_flt {op : BinOp} {t : TypeId} {x y : Operand} {k k' : FloatKind} {p q : Nat} : (eqGuard op t x y (.float k p) (.float k' q)).run P w = .ok () w := by
  cases op <;> simp [eqGuard, Sem.run_pure]
/-- What a comparison of float64s tells. -/
def fcmp : BinOp → Option Ordering → Bool
  | .eql, c => c == some .eq
  | .neq, c => c != some .eq
  | .lss, c => c == some .lt
  | .leq, c => c == some .lt || c == some .eq
  | .gtr, c => c == some .gt
  | .geq, c => c == some .gt || c == some .eq
  | _, _ => false
theorem P_fcmp {t t' : TypeId} {x y : Operand} {op : BinOp} {p q : Nat} {c : Option Ordering} {r : Bool} (hx : ev F x = .float .f64 p) (hy : ev F y = .float .f64 q) (ho : isCmp op = true) (hc : Ieee.double.order p q = c) (hr : fcmp op c = r) : Pu P F (.binOp op t x y t') ty (.bool r) :=
  fun _ _ _ w => bin_run hx hy guard_flt (by
    subst hr; subst hc
    cases op <;> first | (simp [isCmp] at ho; done) | (simp [binOp, Op.floatCmp, fcmp, FloatKind.format]; done) | (simp [binOp, Op.floatCmp, fcmp, FloatKind.format, Op.equal, Op.floatEq]))
/-- A sum that is a number or an infinity. -/
theorem P_fadd {t t' : TypeId} {x y : Operand} {p q r : Nat} (hx : ev F x = .float .f64 p) (hy : ev F y = .float .f64 q) (hr : Ieee.double.add p q = some r) : Pu P F (.binOp .add t x y t') ty (.float .f64 r) :=
  fun _ _ _ w => bin_run hx hy guard_flt (run_float_arith w .add t .f64 p q r hr)
/-- A sum that is none: any NaN. -/
theorem Lst_fadd_nan {d : Nat} {t t' : TypeId} {x y : Operand} {p q : Nat} (hx : ev F x = .float .f64 p) (hy : ev F y = .float .f64 q) (hr : Ieee.double.add p q = none) (hd : Nat.blt d n = true)
    (h : ∀ r, Fl.isNaN r = true → r < 18446744073709551616 → Lst P rd n ops Q rest (upd F d (.float .f64 r)) ds w.drew) : Lst P rd n ops Q (⟨some d, .binOp .add t x y t', ty, pos, after, none⟩ :: rest) F ds w := by
  have hq : (Question.nanBits .f64 p q).forced = false := rfl
  refine Lst_value (v := .float .f64 ((Question.nanBits .f64 p q).cut (w.tape w.drawn (Question.nanBits .f64 p q)))) (w' := w.drew) rfl ?_ hd (h _ ?_ ?_)
  · have hr' : FloatKind.f64.format.add p q = none := hr
    have hb : (binOp .add t (.float .f64 p) (.float .f64 q)).run P w = .ok (.float .f64 ((Question.nanBits .f64 p q).cut (w.tape w.drawn (Question.nanBits .f64 p q)))) w.drew := by
      show (Op.floatArith .add .f64 p q).run P w = _
      unfold Op.floatArith
      simp only [hr']
      rfl
    simp only [execOp, hx, hy, Sem.run_bind, guard_flt, Result.andThen, hb]
    rfl
  · generalize w.tape w.drawn (Question.nanBits .f64 p q) = c
    simp only [Question.cut, Fl.isNaN, Fl.rung]
    refine decide_eq_true ?_
    have h2 : c / 2 % (2 ^ 52 - 1) < 2 ^ 52 - 1 := Nat.mod_lt _ (by omega)
    generalize c / 2 % (2 ^ 52 - 1) = e at h2 ⊢
    rcases Nat.mod_two_eq_zero_or_one c with h | h <;> rw [h] <;> omega
  · generalize w.tape w.drawn (Question.nanBits .f64 p q) = c
    simp only [Question.cut]
    have h2 : c / 2 % (2 ^ 52 - 1) < 2 ^ 52 - 1 := Nat.mod_lt _ (by omega)
    generalize c / 2 % (2 ^ 52 - 1) = e at h2 ⊢
    omega
end floats
end Sx
namespace Sx
open Go Go.RowKit

theorem Below.after {w A w' : World} (h : Below w.heap.size w A) (hb : Below A.heap.size A w') : Below w.heap.size w w' := h.trans (hb.mono h.size)
/-- The order of two strings, by their bytes. -/
def cmpS (p q : ByteArray) : Int := Lib.compareBytes p.data.toList q.data.toList
theorem less_iff : ∀ a b : List UInt8, Op.bytesLess a b = decide (Lib.compareBytes a b < 0)
  | [], [] => rfl
  | [], _ :: _ => rfl
  | _ :: _, [] => rfl
  | a :: as, b :: bs => by
    have ih := less_iff as bs
    unfold Op.bytesLess Lib.compareBytes
    by_cases h : a < b
    · simp [h]
    · by_cases h2 : b < a
      · have hne : ¬ a = b := fun e => by subst e; exact UInt8.lt_irrefl a h2
        simp [h, h2, hne]
      · have he : a = b := UInt8.le_antisymm (UInt8.not_lt.1 h2) (UInt8.not_lt.1 h)
        subst he
        simp [h, ih]
theorem cmpB_eq : ∀ a b : List UInt8, Lib.compareBytes a b = 0 ↔ a = b
  | [], [] => by simp [Lib.compareBytes]
  | [], _ :: _ => by simp [Lib.compareBytes]
  | _ :: _, [] => by simp [Lib.compareBytes]
  | a :: as, b :: bs => by
    have ih := cmpB_eq as bs
    unfold Lib.compareBytes
    by_cases h : a < b
    · have hne : ¬ a = b := fun e => by subst e; exact UInt8.lt_irrefl a h
      simp [h, hne]
    · by_cases h2 : b < a
      · have hne : ¬ a = b := fun e => by subst e; exact UInt8.lt_irrefl a h2
        simp [h, h2, hne]
      · have he : a = b := UInt8.le_antisymm (UInt8.not_lt.1 h2) (UInt8.not_lt.1 h)
        subst he
        simp [h, ih]
theorem eqS_iff (p q : ByteArray) : (p.toList == q.toList) = decide (cmpS p q = 0) := by
  rw [Go.ByteArray.toList_eq, Go.ByteArray.toList_eq]
  unfold cmpS
  by_cases h : p.data.toList = q.data.toList
  · rw [h]
    simp [(cmpB_eq q.data.toList q.data.toList).2 rfl]
  · have h2 : ¬ Lib.compareBytes p.data.toList q.data.toList = 0 := fun e => h ((cmpB_eq _ _).1 e)
    rw [beq_eq_false_iff_ne.2 h, decide_eq_false h2]
def scmp : BinOp → Int → Bool
  | .lss, c => decide (c < 0)
  | .leq, c => decide (c < 0) || decide (c = 0)
  | .gtr, c => !(decide (c < 0) || decide (c = 0))
  | .geq, c => !decide (c < 0)
  | _, _ => false
def isOrd : BinOp → Bool
  | .lss | .leq | .gtr | .geq => true
  | _ => false
section more
variable {P : Program} {rd : Option Nat} {n : Nat} {ops : Array Oper} {Q : Post} {rest : List Oper} {F : Fr} {ds : List Deferred} {w : World} {ty : TypeId} {pos : String} {after : Array Edge}
theorem P_scmp {t t' : TypeId} {x y : Operand} {op : BinOp} {p q : ByteArray} {c : Int} {r : Bool} (hx : ev F x = .string p) (hy : ev F y = .string q) (ho : isOrd op = true) (hc : cmpS p q = c) (hr : scmp op c = r) : Pu P F (.binOp op t x y t') ty (.bool r) :=
  have e1 : Op.bytesLess p.toList q.toList = decide (cmpS p q < 0) := by
    rw [Go.ByteArray.toList_eq, Go.ByteArray.toList_eq, less_iff]; rfl
  fun _ _ _ w => bin_run hx hy guard_str (by
    subst hr; subst hc
    cases op <;> first | (simp [isOrd] at ho; done) | (simp only [binOp, Op.stringOp, e1, eqS_iff, scmp]; rfl))
/-- A float's other sign. -/
def negf (p : Nat) : Nat := p ^^^ 9223372036854775808
theorem P_fneg {t : TypeId} {x : Operand} {p r : Nat} (hx : ev F x = .float .f64 p) (hr : negf p = r) : Pu P F (.unOp .neg t x) ty (.float .f64 r) :=
  fun dst pos after w => (by subst hr; simp [execOp, hx, Op.unary, Op.negFloat, negf, FloatKind.format, Ieee.double])
theorem P_toflt {t t' : TypeId} {x : Operand} {k : IntKind} {u : TypeDesc} {p : Int} {r : Nat} (hx : ev F x = .int k p) (ht : P.underlying t = some u) (ht' : P.underlying t' = some (.float .f64)) (hr : FloatKind.f64.nearest p = r) : Pu P F (.convert t t' x) ty (.float .f64 r) :=
  fun dst pos after w => (by subst hr; simp [execOp, hx, convert, run_underlying ht, run_underlying ht', Conv.intToFloat])
theorem P_fltflt {t t' : TypeId} {x : Operand} {u : TypeDesc} {p : Nat} (hx : ev F x = .float .f64 p) (ht : P.underlying t = some u) (ht' : P.underlying t' = some (.float .f64)) : Pu P F (.convert t t' x) ty (.float .f64 p) :=
  fun dst pos after w => (by simp [execOp, hx, convert, run_underlying ht, run_underlying ht', Conv.floatToFloat])
end more
end Sx
namespace Sx
open Go Go.RowKit
section arr
variable {P : Program} {rd : Option Nat} {n : Nat} {ops : Array Oper} {Q : Post} {rest : List Oper} {F : Fr} {ds : List Deferred} {w : World} {ty : TypeId} {pos : String} {after : Array Edge}
/-- The address of an element of an array. -/
theorem P_aidx {t e b off len r : Nat} {x ix : Operand} {k : IntKind} {q : Int} {i : TypeInfo} (hx : ev F x = .pointer (some ⟨b, off, none⟩)) (hq : ev F ix = .int k q) (ht : P.underlying t = some (.array len e)) (hi : P.info? e = some i) (hs : i.size = 1) (h0 : 0 ≤ q) (h1 : q < len) (hr : off + q.toNat = r) :
    Pu P F (.indexAddr t x ix) ty (.pointer (some ⟨b, r, none⟩)) := fun dst pos after w => by
  have hsz : (sizeOf e).run P w = .ok 1 w := by simp [sizeOf, typeInfo, hi, hs]
  subst hr
  simp [execOp, hx, hq, Instr.indexAt, Instr.sureAddr, asIntOf, run_underlying ht, h0, h1, hsz, add_none]
/-- a[lo:] of an array. -/
theorem P_aslice_lo {t e b len : Nat} {x lo : Operand} {k : IntKind} {m : Int} {i : TypeInfo} (hx : ev F x = .pointer (some ⟨b, 0, none⟩)) (hlo : ev F lo = .int k m) (ht : P.underlying t = some (.array len e)) (hi : P.info? e = some i) (hs : i.size = 1) (h0 : 0 ≤ m) (h1 : m < len) :
    Pu P F (.slice t x (some lo) none none) ty (.slice (some ⟨b, m.toNat, none⟩) (len - m.toNat) (len - m.toNat)) := fun dst pos after w => by
  have hsz : (sizeOf e).run P w = .ok 1 w := by simp [sizeOf, typeInfo, hi, hs]
  simp [execOp, hx, hlo, Instr.sliceAt, Instr.sureAddr, Instr.sliceBounds, Instr.sliceBound, asIntOf, run_underlying ht, h0, show m ≤ len by omega, hsz, add_none, show ¬ len = m.toNat by omega]
/-- A store into a row's cell. -/
theorem Lst_storeN {x y : Operand} {t e : TypeId} {i : TypeInfo} {b off : Nat} {l : List Value} {v : Value} (hx : ev F x = .pointer (some ⟨b, off, none⟩)) (hy : Fc (ev F y) v) (hi : P.info? t = some i) (hs : i.size = 1) (h1 : v.cells = #[v]) (ho : v.oneCell' = true) (hb : Blk w b l e) (hl : off < l.length)
    (h : Lst P rd n ops Q rest F ds (w.putObj b (.cells (l.set off v).toArray e))) : Lst P rd n ops Q (⟨none, .store t x y, ty, pos, after, none⟩ :: rest) F ds w :=
  Lst_unit rfl (by
    have hold : l[off]? = some (l[off]) := List.getElem?_eq_getElem hl
    have hc := (hb.cell off).trans hold
    have hf := hb.frozen off
    have hst : (store ⟨b, off, none⟩ v).run P w = .ok () (w.setCell ⟨b, off, none⟩ v) := by
      unfold store
      cases v <;> first | (simp [Value.oneCell'] at ho; done) | simp [Sem.run, hc, hf]
    rw [← hb.set]
    have ha : (⟨b, off, none⟩ : Addr).add 0 = ⟨b, off, none⟩ := rfl
    simp [execOp, hx, hy.eq, Instr.storeAt, Instr.sureAddr, storeVar, sizeOf, typeInfo, hi, hs, h1, storeCells, ha, hst]) rfl h
/-- string(bytes). -/
theorem Lst_bytes {d t t' e b off c len : Nat} {x : Operand} {l : List UInt8} (hx : ev F x = .slice (some ⟨b, off, none⟩) len c) (hlen : l.length = len) (ht : P.underlying t = some (.slice e)) (he : P.underlying e = some (.int .u8)) (ht' : P.underlying t' = some .string)
    (hc : ∀ j (hj : j < l.length), w.cell? ⟨b, off + j, none⟩ = some (.int .u8 (l[j].toNat : Int))) (hd : Nat.blt d n = true)
    (h : Lst P rd n ops Q rest (upd F d (.string ⟨l.toArray⟩)) ds w) : Lst P rd n ops Q (⟨some d, .convert t t' x, ty, pos, after, none⟩ :: rest) F ds w :=
  Lst_value rfl (by
    subst hlen
    have := run_convert_bytes_back (P := P) w t t' e ⟨b, off, none⟩ c l ht he ht' (fun j hj => by rw [add_none]; exact hc j hj)
    simp [execOp, hx, this]) hd h
/-! ### Pointers -/
theorem guard_ptr {op : BinOp} {t : TypeId} {x y : Operand} {p q : Option Addr} : (eqGuard op t x y (.pointer p) (.pointer q)).run P w = .ok () w := by
  cases op <;> simp [eqGuard, Sem.run_pure]
theorem run_ptr_nil {t te : TypeId} (p : Option Addr) (w : World) (ht : P.underlying t = some (.pointer te)) : (Op.equal t (.pointer p) (.pointer none)).run P w = .ok p.isNone w := by
  have h : ∀ d : Nat, (Op.equalIn (d + 1) t (.pointer p) (.pointer none)).run P w = .ok p.isNone w := fun d => by
    cases p <;> simp [Op.equalIn, run_underlying ht]
  simp [Op.equal, Op.maxDepth, h 9999]
theorem P_ptr_nil {t t' te : TypeId} {x y : Operand} {p : Option Addr} {r : Bool} (hx : ev F x = .pointer p) (hy : ev F y = .pointer none) (ht : P.underlying t = some (.pointer te)) (hr : p.isNone = r) : Pu P F (.binOp .eql t x y t') ty (.bool r) :=
  fun _ _ _ w => bin_run hx hy guard_ptr (by
    subst hr
    have := run_ptr_nil p w ht
    simp only [binOp, Sem.run_bind, this]
    rfl)
theorem P_ptr_nonnil {t t' te : TypeId} {x y : Operand} {p : Option Addr} {r : Bool} (hx : ev F x = .pointer p) (hy : ev F y = .pointer none) (ht : P.underlying t = some (.pointer te)) (hr : (!p.isNone) = r) : Pu P F (.binOp .neq t x y t') ty (.bool r) :=
  fun _ _ _ w => bin_run hx hy guard_ptr (by
    subst hr
    have := run_ptr_nil p w ht
    simp only [binOp, Sem.run_bind, this]
    rfl)
theorem P_ptr_same {t t' te : TypeId} {x y : Operand} {a : Addr} {j : TypeInfo} (hx : ev F x = .pointer (some a)) (hy : ev F y = .pointer (some a)) (ht : P.underlying t = some (.pointer te)) (hj : P.info? te = some j) : Pu P F (.binOp .neq t x y t') ty (.bool false) :=
  fun _ _ _ w => bin_run hx hy guard_ptr (Lib.run_neq_ptr_same w a ht hj)
theorem Blk.shape {b : Nat} {l : List Value} {e : TypeId} (h : Blk w b l e) : w.shape? b = some (e, l.length) := by
  unfold Blk at h
  simp [World.shape?, h]
theorem Lst_tounsafe {d t t' te b off : Nat} {x : Operand} {e : TypeId} {l : List Value} {j : TypeInfo} (hx : ev F x = .pointer (some ⟨b, off, none⟩)) (ht : P.underlying t = some (.pointer te)) (ht' : P.underlying t' = some .unsafePointer) (hj : P.info? te = some j) (hj0 : (j.size == 0) = false) (hb : Blk w b l e) (hoff : off < l.length) (hd : Nat.blt d n = true)
    (h : Lst P rd n ops Q rest (upd F d (.pointer (some ⟨b, off, none⟩))) ds w) : Lst P rd n ops Q (⟨some d, .convert t t' x, ty, pos, after, none⟩ :: rest) F ds w :=
  Lst_value rfl (by
    have := Lib.run_to_unsafe (P := P) (w := w) ⟨b, off, none⟩ ht ht' hj (by simpa using hj0) hb.shape hoff
    simp [execOp, hx, this]) hd h
theorem Lst_fromunsafe {d t t' te b off : Nat} {x : Operand} {e : TypeId} {l : List Value} {j : TypeInfo} (hx : ev F x = .pointer (some ⟨b, off, none⟩)) (ht : P.underlying t = some .unsafePointer) (ht' : P.underlying t' = some (.pointer te)) (hj : P.info? te = some j) (hb : Blk w b l e) (hl : liesAt P P.depth e (l.length / P.cellsOf e) off te 1 = true) (hd : Nat.blt d n = true)
    (h : Lst P rd n ops Q rest (upd F d (.pointer (some ⟨b, off, none⟩))) ds w) : Lst P rd n ops Q (⟨some d, .convert t t' x, ty, pos, after, none⟩ :: rest) F ds w :=
  Lst_value rfl (by
    have := Lib.run_from_unsafe (P := P) (w := w) ⟨b, off, none⟩ ht ht' hj hb.shape hl
    simp [execOp, hx, this]) hd h
theorem P_noescape {f x : Operand} {g : Nat} {ts : Array TypeId} {fn : Func} {a : Value} (hx : ev F x = a) (hf : ev F f = .func (.func g) #[] #[]) (hfn : P.funcs[g]? = some fn) (hb : fn.body.isNone = true) (he : Extern.find fn = some Extern.AbiNoEscape.same) (hname : (fn.name == "runtime.NumGoroutine") = false) (hn : Extern.findNext fn = none) : Pu P F (.call { callee := .value f, args := #[x], argTypes := ts }) ty a :=
  P_ext (as := [x]) he hf hfn hname hb hn (fun w => by show (Extern.AbiNoEscape.same #[ev F x]).run P w = _; rw [hx]; rfl)
end arr
end Sx
namespace Sx
open Go Go.RowKit
section q
variable {P : Program} {n : Nat} {ops : Array Oper} {C : World → Prop} {K : Fr → Prop} {rest : List Oper} {F : Fr} {ds : List Deferred} {ty : TypeId} {pos : String} {after : Array Edge}
theorem Qst_loadA {d b off sz : Nat} {x : Operand} {t e : TypeId} {u : TypeDesc} {i : TypeInfo} {l cs : List Value} (hx : ev F x = .pointer (some ⟨b, off, none⟩)) (ht : P.underlying t = some u) (hu : u.isRow = true) (hi : P.info? t = some i) (hs : i.size = sz) (hb : ∀ w, C w → Blk w b l e) (hv : TakeR l off sz cs) (hd : Nat.blt d n = true)
    (h : Qst P n ops C K rest (upd F d (.agg cs.toArray)) ds) : Qst P n ops C K (⟨some d, .load t x, ty, pos, after, none⟩ :: rest) F ds :=
  Qst_value rfl (fun w hw => by
    have hg := hv.get
    have := run_loadAt_mid (P := P) w b off t cs u (fun j v hj => ((hb w hw).cell (off + j)).trans (hg.2 j v hj)) ht hu (by rw [hi]; simp [hs, hg.1])
    simp [execOp, hx, this]) hd h
end q
end Sx
namespace Sx
open Go Go.RowKit

section act
variable {P : Program} {r : Nat} {ops : Array Oper} {md : Region.Mode} {S : World → Prop} {Q : Exit → Act → World → Prop}
abbrev En : Fence := E none
theorem En_fn (f : Nat) : En.fn f := E_fn none f

def YieldsS (P : Program) (ops : Array Oper) (S : World → Prop) (o : Oper) (v : Value) (a : Act) : Prop :=
  (Region.wanted o (yielded ops a.tmps) = true ∧ ∀ w, S w → (execOp a.eval o).run P w = .ok (.value v) w) ∨ (Region.wanted o (yielded ops a.tmps) = false ∧ v = undef)

theorem YieldsS.op {i : Nat} {o : Oper} {v : Value} {a : Act} (hi : ops[i]? = some o) (hy : YieldsS P ops S o v a) {K : Act → World → Prop} {w : World} (hS : S w) (h : K (a.put o.dst v) w) : wpOpIn En r P ops Q i K a w := by
  unfold wpOpIn
  simp only [hi]
  rcases hy with ⟨hw, hv⟩ | ⟨hw, rfl⟩
  · simp only [hw, if_true, Oper.wpIn, E_round, Oper.semAt_none, hv w hS, Oper.uponIn]; exact ⟨fun f _ => En_fn f, h⟩
  · simp only [hw, Bool.false_eq_true, if_false]; exact ⟨fun f _ => En_fn f, h⟩
theorem YieldsS.same {o : Oper} {v : Value} {a a' : Act} (hy : YieldsS P ops S o v a) (he : execOp a'.eval o = execOp a.eval o)
    (hw : Region.wanted o (yielded ops a'.tmps) = Region.wanted o (yielded ops a.tmps)) : YieldsS P ops S o v a' := by
  unfold YieldsS at *
  rw [he, hw]
  exact hy

theorem opIn_putS {j : Nat} {oi oj : Oper} {v : Value} (hj : ops[j]? = some oj) (hap : oi.apart ops oj = true)
    (hsi : ∀ cs b, oi.op ≠ .select cs b) (hsj : ∀ cs b, oj.op ≠ .select cs b)
    (hQ : ∀ c a w, ¬ Q (.panic c) a w) {K : Act → World → Prop} {a : Act} {w : World}
    (hy : YieldsS P ops S oi v a) (h : wpOpIn En r P ops Q j K (a.put oi.dst v) w) :
    wpOpIn En r P ops Q j (fun a' w' => YieldsS P ops S oi v a' ∧ K (a'.put oi.dst v) w') a w := by
  obtain ⟨h1, h2, h3⟩ := Oper.apart_spec hap
  have keep : ∀ (a : Act), YieldsS P ops S oi v a → ∀ u, YieldsS P ops S oi v (a.put oj.dst u) := fun a hy u =>
    hy.same (execOp_put oi hsi a oj.dst u h3) (wanted_put oi a oj.dst u h3)
  have keepD : ∀ d, YieldsS P ops S oi v { a with defers := d :: a.defers } := fun d => hy.same rfl rfl
  unfold wpOpIn at *
  simp only [hj] at *
  rw [wanted_put oj a oi.dst v h1, about_put oj w a oi.dst v h1] at h
  split
  · rename_i hw
    simp only [hw, if_true] at h
    unfold Oper.wpIn at *
    rw [about_put oj w a oi.dst v h1] at h
    refine ⟨h.1, ?_⟩
    have h := h.2
    rw [E_round, Oper.semAt_none, execOp_put oj hsj a oi.dst v h1] at h
    rw [E_round, Oper.semAt_none]
    generalize (execOp a.eval oj).run P w = z at *
    cases z with
    | ok x w' =>
      cases x <;> simp only [Oper.uponIn] at h ⊢
      case value u => exact ⟨keep a hy u, by rw [← Act.put_comm a v u h2]; exact h⟩
      case skip => exact ⟨keep a hy _, by rw [← Act.put_comm a v undef h2]; exact h⟩
      case defer d =>
        refine ⟨keep _ (keepD d) _, ?_⟩
        rw [← Act.put_comm _ v undef h2, ← Act.put_defers]
        exact h
      case enter f args =>
        refine ⟨h.1, CallsIn.mono h.2 fun e w'' he => ?_⟩
        cases e with
        | returned u => exact ⟨keep a hy u, by rw [← Act.put_comm a v u h2]; exact he⟩
        | panicked c => exact absurd he (hQ _ _ _)
        | outgrown => exact he
      case row row args => exact ⟨h.1, RowsIn.mono h.2 fun u w'' he => ⟨keep a hy u, by rw [← Act.put_comm a v u h2]; exact he⟩⟩
      case round l f tmps assign body =>
        refine ⟨h.1, RoundIn.mono h.2 fun e w'' he => ?_⟩
        cases e with
        | returned u => exact ⟨keep a hy u, by rw [← Act.put_comm a v u h2]; exact he⟩
        | panicked c => exact absurd he (hQ _ _ _)
        | outgrown => exact he
    | halt x w' =>
      cases x <;> simp only [Oper.uponIn] at h ⊢
      case panic u => exact absurd h (hQ _ _ _)
  · rename_i hw
    simp only [hw] at h
    exact ⟨h.1, keep a hy _, by rw [← Act.put_comm a v undef h2]; exact h.2⟩

/-- One operation after the other, S behind each, then any order. -/
def FJ (r : Nat) (P : Program) (md : Region.Mode) (ops : Array Oper) (Q : Exit → Act → World → Prop) (S : World → Prop) (g : Nat) : List Nat → Array Bool → Act → World → Prop
  | [], x, a, w => wpAnyIn En r P md ops Q g x a w
  | j :: J, x, a, w => wpOpIn En r P ops Q j (fun a' w' => S w' ∧ FJ r P md ops Q S g J (x.setIfInBounds j true) a' w') a w
/-- With number i listed nothing but J's operations can come up, one by one; the last of them waits for i. -/
def forcedB (md : Region.Mode) (ops : Array Oper) (i : Nat) : List Nat → Array Bool → Bool
  | [], _ => false
  | j :: J, x => decide (Region.ready md ops (x.setIfInBounds i true) = [j]) && decide (j ≠ i) && (match J with | [] => Region.waitsFor md ops j i | _ :: _ => forcedB md ops i J (x.setIfInBounds j true))

theorem anyIn_of_FJ {i g : Nat} : ∀ (J : List Nat) (x : Array Bool) (a : Act) (w : World), forcedB md ops i J x = true → FJ r P md ops Q S g J (x.setIfInBounds i true) a w → wpAnyIn En r P md ops Q (J.length + g) (x.setIfInBounds i true) a w := by
  intro J
  induction J with
  | nil => intro x a w hB _; simp [forcedB] at hB
  | cons j J ih =>
    intro x a w hB h
    simp only [forcedB, Bool.and_eq_true, decide_eq_true_eq] at hB
    obtain ⟨⟨hr, hji⟩, hJ⟩ := hB
    rw [show (j :: J).length + g = J.length + g + 1 by simp only [List.length_cons]; omega]
    refine ⟨fun e => (by rw [hr] at e; cases e), fun k hk => ?_⟩
    obtain rfl : k = j := by rw [hr] at hk; simpa using hk
    refine wpOpIn_mono (fun a' w' h' => ?_) h
    have h2 := h'.2
    rw [Array.setIfInBounds_comm _ _ (Ne.symm hji)] at h2 ⊢
    cases J with
    | nil => simpa [FJ] using h2
    | cons j2 J => exact ih _ a' w' hJ h2

theorem take_any {i g : Nat} {oi : Oper} {v : Value} (hi : ops[i]? = some oi) (hsel : ∀ (j : Nat) (o : Oper) cs b, ops[j]? = some o → o.op ≠ .select cs b) (hQ : ∀ c a w, ¬ Q (.panic c) a w) :
    ∀ (J : List Nat) (x : Array Bool) (a : Act) (w : World), forcedB md ops i J x = true →
      (∀ j oj, ops[j]? = some oj → j ≠ i → x.getD j true = false → (∀ e ∈ oj.after, Region.binds md e = true → e.on ≠ i) → oi.apart ops oj = true) →
      i ∈ Region.ready md ops x → YieldsS P ops S oi v a → S w →
      FJ r P md ops Q S g J (x.setIfInBounds i true) (a.put oi.dst v) w → wpAnyIn En r P md ops Q (J.length + g + 1) x a w := by
  intro J
  induction J with
  | nil => intro x a w hB; simp [forcedB] at hB
  | cons j J ih =>
    intro x a w hB hfree hri hy hS H
    refine ⟨fun e => (by rw [e] at hri; cases hri), fun k hk => ?_⟩
    by_cases hki : k = i
    · subst hki; exact hy.op hi hS (anyIn_of_FJ _ _ _ _ hB H)
    · simp only [forcedB, Bool.and_eq_true, decide_eq_true_eq] at hB
      obtain ⟨⟨hr, hji⟩, hJ⟩ := hB
      obtain rfl : k = j := by have := ready_mono hk hki; rw [hr] at this; simpa using this
      obtain ⟨hjun, oj, hoj, hall⟩ := mem_ready.1 hk
      have hnot : ∀ e ∈ oj.after, Region.binds md e = true → e.on ≠ i := fun e he hb heq => by
        have h1 := hall e he hb
        have h0 := (mem_ready.1 hri).1
        rw [heq] at h1
        rw [getD_both h0] at h1
        cases h1
      have h2 := opIn_putS hoj (hfree k oj hoj hki hjun hnot) (fun cs b => hsel i oi cs b hi) (fun cs b => hsel k oj cs b hoj) hQ hy H
      cases J with
      | nil =>
        obtain ⟨o2, ho2, e, he, hb, hon⟩ := Region.waitsFor_spec hJ
        have : o2 = oj := Option.some.inj (ho2.symm.trans hoj)
        subst this
        exact absurd hon (hnot e he hb)
      | cons j2 J =>
        have hfree' : ∀ q oq, ops[q]? = some oq → q ≠ i → (x.setIfInBounds k true).getD q true = false →
            (∀ e ∈ oq.after, Region.binds md e = true → e.on ≠ i) → oi.apart ops oq = true := fun q oq hq hqi hun hno => by
          refine hfree q oq hq hqi ?_ hno
          by_cases hjq : k = q
          · subst hjq; exact hjun
          · rw [getD_set_ne true hjq] at hun; exact hun
        rw [show (k :: j2 :: J).length + g = (j2 :: J).length + g + 1 by simp only [List.length_cons]; omega]
        refine wpOpIn_mono (fun a' w' h3 => ih (x.setIfInBounds k true) a' w' hJ hfree' (ready_mono hri (Ne.symm hki)) h3.1 h3.2.1 ?_) h2
        rw [Array.setIfInBounds_comm _ _ hki]
        exact h3.2.2

/-! ### The head, with any tail behind it -/
def headB (md : Region.Mode) (ops : Array Oper) (X : Array Bool → Bool) : Nat → Nat → Array Bool → Bool
  | 0, _, x => X x
  | f + 1, k, x => (Region.ready md ops x).contains k && Region.free md ops x k && headB md ops X f (k + 1) (x.setIfInBounds k true)
/-- Number s waits for all before it, and all behind it wait for it. -/
def sinkP (md : Region.Mode) (ops : Array Oper) (m s : Nat) : Bool :=
  Region.sinkB md ops s && ((List.range ops.size).all fun t => decide (t ≤ s) || (List.range t).any fun j => decide (s ≤ j) && Region.waitsFor md ops t j) && (decide (s = m) || decide (s + 1 = m))

theorem sink_up {s : Nat} {x : Array Bool} (hs : Region.sinkB md ops s = true) (hcl : ∀ j oj, ops[j]? = some oj → x.getD j false = true → ∀ e ∈ oj.after, Region.binds md e = true → x.getD e.on false = true) :
    ∀ (d i : Nat), s - i = d → i ≤ s → x.getD i false = false → x.getD s false = false := by
  intro d
  induction d using Nat.strongRecOn with
  | _ d ih =>
    intro i hd hi hun
    by_cases his : i = s
    · subst his; exact hun
    · have h1 := List.all_eq_true.1 hs i (List.mem_range.2 (by omega))
      obtain ⟨j, hj, hj2⟩ := List.any_eq_true.1 h1
      simp only [Bool.and_eq_true, decide_eq_true_eq] at hj2
      obtain ⟨oj, hoj, e, he, hb, hon⟩ := Region.waitsFor_spec hj2.2
      have hjle : j ≤ s := by have := List.mem_range.1 hj; omega
      cases hl : x.getD j false with
      | true =>
        have h2 := hcl j oj hoj hl e he hb
        rw [hon, hun] at h2
        cases h2
      | false => exact ih (s - j) (by omega) j rfl hjle hl
theorem tail_up {s : Nat} {x : Array Bool} (hc : ((List.range ops.size).all fun t => decide (t ≤ s) || (List.range t).any fun j => decide (s ≤ j) && Region.waitsFor md ops t j) = true)
    (hcl : ∀ j oj, ops[j]? = some oj → x.getD j false = true → ∀ e ∈ oj.after, Region.binds md e = true → x.getD e.on false = true) (hun : x.getD s false = false) :
    ∀ (d t : Nat), t - s = d → s ≤ t → t < ops.size → x.getD t false = false := by
  intro d
  induction d using Nat.strongRecOn with
  | _ d ih =>
    intro t hd ht hlt
    by_cases hts : t = s
    · subst hts; exact hun
    · have h1 := List.all_eq_true.1 hc t (List.mem_range.2 hlt)
      simp only [Bool.or_eq_true, decide_eq_true_eq] at h1
      rcases h1 with h1 | h1
      · omega
      · obtain ⟨j, hj, hj2⟩ := List.any_eq_true.1 h1
        simp only [Bool.and_eq_true, decide_eq_true_eq] at hj2
        obtain ⟨ot, hot, e, he, hb, hon⟩ := Region.waitsFor_spec hj2.2
        have hjt := List.mem_range.1 hj
        cases hl : x.getD t false with
        | false => rfl
        | true =>
          have h2 := hcl t ot hot hl e he hb
          rw [hon, ih (j - s) (by omega) j rfl hj2.1 (by omega)] at h2
          cases h2
theorem waitsP {m s : Nat} {x : Array Bool} (hs : sinkP md ops m s = true) (inv : HeadInv md ops m x) (i : Nat) (hi : i < m) (hun : x.getD i true = false) : ∀ t, m ≤ t → t ∉ Region.ready md ops x := by
  intro t ht hr
  simp only [sinkP, Bool.and_eq_true, Bool.or_eq_true, decide_eq_true_eq] at hs
  obtain ⟨⟨hs, hc⟩, hsm⟩ := hs
  have hss : x.getD s false = false := sink_up hs inv.closed _ i rfl (by omega) (getD_both hun)
  obtain ⟨_, ot, hot, hall⟩ := mem_ready.1 hr
  have hlt : t < ops.size := (Array.getElem?_eq_some_iff.1 hot).1
  by_cases hts : t = s
  · subst hts
    have h1 := List.all_eq_true.1 hs i (List.mem_range.2 (by omega))
    obtain ⟨j, hj, hj2⟩ := List.any_eq_true.1 h1
    simp only [Bool.and_eq_true, decide_eq_true_eq] at hj2
    have aux : ∀ (d i : Nat), t - i = d → i < t → x.getD i false = false → False := by
      intro d
      induction d using Nat.strongRecOn with
      | _ d ih =>
        intro i hd hi hun
        have h1 := List.all_eq_true.1 hs i (List.mem_range.2 hi)
        obtain ⟨j, hj, hj2⟩ := List.any_eq_true.1 h1
        simp only [Bool.and_eq_true, decide_eq_true_eq] at hj2
        obtain ⟨oj, hoj, e, he, hb, hon⟩ := Region.waitsFor_spec hj2.2
        have hjle : j ≤ t := by have := List.mem_range.1 hj; omega
        by_cases hjt : j = t
        · subst hjt
          have : oj = ot := Option.some.inj (hoj.symm.trans hot)
          subst this
          have h2 := hall e he hb
          rw [hon, hun] at h2
          cases h2
        · cases hl : x.getD j false with
          | true =>
            have h2 := inv.closed j oj hoj hl e he hb
            rw [hon, hun] at h2
            cases h2
          | false => exact ih (t - j) (by omega) j rfl (by omega) hl
    exact aux _ i rfl (by omega) (getD_both hun)
  · have h1 := List.all_eq_true.1 hc t (List.mem_range.2 hlt)
    simp only [Bool.or_eq_true, decide_eq_true_eq] at h1
    rcases h1 with h1 | h1
    · omega
    · obtain ⟨j, hj, hj2⟩ := List.any_eq_true.1 h1
      simp only [Bool.and_eq_true, decide_eq_true_eq] at hj2
      obtain ⟨o', ho', e, he, hb, hon⟩ := Region.waitsFor_spec hj2.2
      have : o' = ot := Option.some.inj (ho'.symm.trans hot)
      subst this
      have h2 := hall e he hb
      have hjt := List.mem_range.1 hj
      rw [hon, tail_up hc inv.closed hss _ j rfl hj2.1 (by omega)] at h2
      cases h2

variable {C : World → Prop} {m s : Nat}
theorem heads_takeP {i : Nat} {o : Oper} {v : Value} {X : Array Bool → Act → Prop} (ho : ops[i]? = some o) (hsel : ∀ (j : Nat) (o : Oper) cs b, ops[j]? = some o → o.op ≠ .select cs b)
    (hs : sinkP md ops m s = true) (him : i < m) (hE : ∀ l a, X l a → ∀ j ∈ Region.ready md ops l, m ≤ j) (f : Nat) :
    ∀ (l : Array Bool) (a : Act), HeadInv md ops m l → i ∈ Region.ready md ops l → YieldsIn P ops C o v a →
      (∀ k ok, ops[k]? = some ok → k ≠ i → l.getD k true = false → (∀ e ∈ ok.after, Region.binds md e = true → e.on ≠ i) → o.apart ops ok = true) →
      Heads P md ops C m X f (l.setIfInBounds i true) (a.put o.dst v) → Heads P md ops C m X (f + 1) l a := by
  induction f with
  | zero =>
    intro l a inv hi hy _ h
    refine ⟨fun e => (by rw [e] at hi; cases hi), fun j hj => ?_⟩
    have hjm : j < m := Nat.lt_of_not_le fun hle => waitsP hs inv i him (mem_ready.1 hi).1 j hle hj
    by_cases e : j = i
    · subst e; exact ⟨hjm, hy.qOp ho h⟩
    · exact absurd (hE _ _ h j (ready_mono hj e)) (by omega)
  | succ f ih =>
    intro l a inv hi hy hap h
    refine ⟨fun e => (by rw [e] at hi; cases hi), fun j hj => ?_⟩
    have hjm : j < m := Nat.lt_of_not_le fun hle => waitsP hs inv i him (mem_ready.1 hi).1 j hle hj
    by_cases e : j = i
    · subst e; exact ⟨hjm, hy.qOp ho h⟩
    · refine ⟨hjm, ?_⟩
      obtain ⟨hju, oj, hoj, hall⟩ := mem_ready.1 hj
      have hni : ∀ e ∈ oj.after, Region.binds md e = true → e.on ≠ i := by
        intro x hx hb hxi
        have := hall x hx hb
        rw [hxi, getD_both (mem_ready.1 hi).1] at this
        cases this
      have hq := qOp_put hoj (hap j oj hoj e hju hni) (fun cs b => hsel i o cs b ho) (fun cs b => hsel j oj cs b hoj) hy (h.2 j (ready_mono hj e)).2
      refine qOp_mono (fun a' ha' => ?_) hq
      refine ih (l.setIfInBounds j true) a' (inv.set hj hjm) (ready_mono hi (Ne.symm e)) ha'.1 ?_ ?_
      · intro k ok hk hki hu hno
        refine hap k ok hk hki ?_ hno
        by_cases hjk : j = k
        · subst hjk; exact hju
        · rwa [getD_set_ne true hjk] at hu
      · rw [Array.setIfInBounds_comm _ _ e]
        exact ha'.2

theorem heads_lexP {T : Array Bool → Bool} {K : Act → Prop} (hsel : Region.noSelect ops = true) (hs : sinkP md ops m s = true) (hT : ∀ x, T x = true → ∀ j ∈ Region.ready md ops x, m ≤ j) :
    ∀ (l : List Oper) (k : Nat) (x : Array Bool) (a : Act), (∀ j, j < l.length → l[j]? = ops[k + j]?) → k + l.length = m → HeadInv md ops m x →
    headB md ops T l.length k x = true → wpQuiet P ops C K l a → Heads P md ops C m (fun y b => T y = true ∧ K b) l.length x a := by
  intro l
  induction l with
  | nil =>
    intro k x a _ hk _ hB h
    exact ⟨by simpa [headB] using hB, h⟩
  | cons o l ih =>
    intro k x a hl hk inv hB h
    have ho : ops[k]? = some o := by have := hl 0 (by simp); simpa using this.symm
    simp only [List.length_cons] at hk
    simp only [List.length_cons, headB, Bool.and_eq_true] at hB
    have hr : k ∈ Region.ready md ops x := by simpa using hB.1.1
    have hq : qOp P ops C k (wpQuiet P ops C K l) a := by
      unfold qOp
      rw [ho]
      exact h
    obtain ⟨v, hy, hK⟩ := yieldsIn_of_qOp ho hq
    refine heads_takeP ho (Region.noSelect_spec hsel) hs (by omega) (fun y b hb => hT y hb.1) l.length x a inv hr hy (Region.free_spec ho hB.1.2) ?_
    refine ih (k + 1) _ _ (fun j hj => ?_) (by omega) (inv.set hr (by omega)) hB.2 hK
    have := hl (j + 1) (by simp; omega)
    rw [Nat.add_assoc, Nat.add_comm 1 j]
    simpa using this

def nth : List Oper → Nat → List Oper
  | [], _ => []
  | o :: _, 0 => [o]
  | _ :: l, i + 1 => nth l i
theorem nth_eq : ∀ (l : List Oper) (i : Nat), nth l i = (l[i]?).toList
  | [], _ => by simp [nth]
  | o :: _, 0 => by simp [nth]
  | _ :: l, i + 1 => by simp [nth, nth_eq l i]
end act

section fr
variable {P : Program} {n : Nat} {C S : World → Prop} {F : Fr} {ds : List Deferred} {w : World}
/-- No call: these are pure, or halt. -/
def calm : Op → Bool
  | .move _ | .load _ _ | .binOp _ _ _ _ _ | .unOp _ _ _ | .convert _ _ _ | .fieldAddr _ _ _ | .field _ _ _ | .indexAddr _ _ _ | .index _ _ _ | .extract _ _ | .slice _ _ _ _ _ => true
  | _ => false
/-- The operations of these numbers are listed. -/
def lst (n : Nat) (L : List Nat) : Array Bool := L.foldr (fun i x => x.setIfInBounds i true) (Array.replicate n false)
/-- The region's rest: L is listed, g operations are left. -/
def Rn (P : Program) (n : Nat) (l : List Oper) (Q : Post) (g : Nat) (L : List Nat) (F : Fr) (ds : List Deferred) (w : World) : Prop :=
  ∀ r a, Fits n F ds a → wpAnyIn En r P .any l.toArray (lift n Q) g (lst l.length L) a w
def rnQ (Q : Post) (R : Fr → List Deferred → World → Prop) : Post
  | .normal, F, ds, w => R F ds w
  | e, F, ds, w => Q e F ds w
theorem rnQ_n {Q : Post} {R : Fr → List Deferred → World → Prop} (h : R F ds w) : rnQ Q R .normal F ds w := h
/-- Behind a free operation that was taken first: J's operations, one by one, S behind each. -/
def Tk (P : Program) (n : Nat) (l : List Oper) (S : World → Prop) (Q : Post) (R : Fr → List Deferred → World → Prop) : List Nat → Fr → List Deferred → World → Prop
  | [], F, ds, w => R F ds w
  | j :: J, F, ds, w => Lst P none n l.toArray (rnQ Q (fun G ds' w' => S w' ∧ Tk P n l S Q R J G ds' w')) (nth l j) F ds w
theorem Tk_s {l : List Oper} {Q : Post} {R : Fr → List Deferred → World → Prop} {j : Nat} {J : List Nat} (h : Lst P none n l.toArray (rnQ Q (fun G ds' w' => S w' ∧ Tk P n l S Q R J G ds' w')) (nth l j) F ds w) : Tk P n l S Q R (j :: J) F ds w := h
theorem Tk_n {l : List Oper} {Q : Post} {R : Fr → List Deferred → World → Prop} (h : R F ds w) : Tk P n l S Q R [] F ds w := h
theorem rnQ_k {l : List Oper} {Q : Post} {R : Fr → List Deferred → World → Prop} {J : List Nat} (hS : S w) (h : Tk P n l S Q R J F ds w) : rnQ Q (fun G ds' w' => S w' ∧ Tk P n l S Q R J G ds' w') .normal F ds w := ⟨hS, h⟩

theorem run_value {s : Sem Value} {x : Next} {w' : World} (h : (do pure (.value (← s)) : Sem Next).run P w = .ok x w') : ∃ u, x = .value u := by
  rw [Sem.run_bind] at h
  cases hs : s.run P w with
  | ok v w2 => rw [hs] at h; cases h; exact ⟨_, rfl⟩
  | halt v w2 => rw [hs] at h; cases h
theorem calm_value {o : Oper} {a : Act} {v : Value} (hc : calm o.op = true) (h : o.quietAt P a C w v) : (execOp a.eval o).run P w = .ok (.value v) w := by
  unfold Oper.quietAt at h
  have key : ∀ x w', (execOp a.eval o).run P w = .ok x w' → ∃ u, x = .value u := by
    intro x w' hx
    unfold execOp at hx
    split at hx <;> simp only [*, calm, Bool.false_eq_true] at hc
    all_goals first
      | exact run_value hx
      | (simp only [Sem.run_pure] at hx; cases hx; exact ⟨_, rfl⟩)
  cases hz : (execOp a.eval o).run P w with
  | halt x w' => rw [hz] at h; exact h.elim
  | ok x w' =>
    obtain ⟨u, rfl⟩ := key x w' hz
    rw [hz] at h
    simp only [Oper.quietUpon] at h
    rw [h.1, h.2]

theorem wpIn_post {F : Fence} {r : Nat} {o : Oper} {a : Act} {w : World} {K K' : Act → World → Prop} {Q Q' : Exit → Act → World → Prop} (hK : ∀ a w, K a w → K' a w) (hQ : ∀ e, e ≠ .normal → ∀ a w, Q e a w → Q' e a w)
    (hh : o.wpIn F r P a w K Q) : o.wpIn F r P a w K' Q' := by
  unfold Oper.wpIn at *
  refine ⟨hh.1, ?_⟩
  have hh := hh.2
  have hl : LetsOut Q → LetsOut Q' := fun ⟨a, w, h⟩ => ⟨a, w, hQ _ (by simp) _ _ h⟩
  generalize (o.semAt F.round a.eval).run P w = z at *
  cases z with
  | ok x w' =>
    cases x <;> simp only [Oper.uponIn] at hh ⊢ <;>
      first
        | exact hK _ _ hh
        | exact ⟨hh.1, CallsIn.mono hh.2 (fun e w'' he => by cases e <;> first | exact hK _ _ he | exact hQ _ (by simp) _ _ he | exact hl he)⟩
        | exact ⟨hh.1, RowsIn.mono hh.2 (fun _ _ he => hK _ _ he)⟩
        | exact ⟨hh.1, RoundIn.mono hh.2 (fun e w'' he => by cases e <;> first | exact hK _ _ he | exact hQ _ (by simp) _ _ he | exact hl he)⟩
  | halt x w' => cases x <;> simp only [Oper.uponIn] at hh ⊢ <;> first | exact hQ _ (by simp) _ _ hh | exact hh

theorem nth_some {l : List Oper} {i : Nat} {o : Oper} (h : l.toArray[i]? = some o) : nth l i = [o] := by
  have : l[i]? = some o := by simpa using h
  rw [nth_eq, this, Option.toList_some]
theorem op_of_lst {l : List Oper} {Q : Post} {R : Fr → List Deferred → World → Prop} {i r : Nat} {o : Oper} {K : Act → World → Prop} {a : Act} (ho : l.toArray[i]? = some o) (hK : ∀ a w, lift n (rnQ Q R) .normal a w → K a w)
    (h : Lst P none n l.toArray (rnQ Q R) (nth l i) F ds w) (hf : Fits n F ds a) : wpOpIn En r P l.toArray (lift n Q) i K a w := by
  rw [nth_some ho] at h
  have h2 := h r a hf
  have post : ∀ e, e ≠ .normal → ∀ a w, lift n (rnQ Q R) e a w → lift n Q e a w := by
    rintro e he a w ⟨G, ds', hG, h⟩
    refine ⟨G, ds', hG, ?_⟩
    cases e <;> first | exact absurd rfl he | exact h
  unfold wpOpIn
  simp only [ho]
  unfold wpListIn at h2
  split
  · rename_i hw
    rw [if_pos hw] at h2
    exact wpIn_post hK post h2
  · rename_i hw
    rw [if_neg hw] at h2
    exact ⟨h2.1, hK _ _ h2.2⟩

/-- The only operation that can come up. -/
theorem R_force {l : List Oper} {Q : Post} {g : Nat} {L : List Nat} (i : Nat) (hB : decide (Region.ready .any l.toArray (lst l.length L) = [i]) = true) (h : Lst P none n l.toArray (rnQ Q (Rn P n l Q g (i :: L))) (nth l i) F ds w) : Rn P n l Q (g + 1) L F ds w := fun r a hf => by
  have hr : Region.ready .any l.toArray (lst l.length L) = [i] := by simpa using hB
  refine ⟨fun e => (by rw [hr] at e; cases e), fun j hj => ?_⟩
  obtain rfl : j = i := by rw [hr] at hj; simpa using hj
  obtain ⟨_, o, ho, _⟩ := mem_ready.1 hj
  refine op_of_lst ho ?_ h hf
  rintro a w ⟨G, ds', hG, hR⟩
  exact hR r a hG

/-- A free operation, taken first; then those that are forced until one waits for it. -/
theorem R_take {l : List Oper} {Q : Post} {g : Nat} {L : List Nat} (i : Nat) (J : List Nat) (S : World → Prop) (hB : (Region.noSelect l.toArray && (Region.ready .any l.toArray (lst l.length L)).contains i && Region.free .any l.toArray (lst l.length L) i && forcedB .any l.toArray i J (lst l.length L) && (nth l i).all (fun o => calm o.op)) = true)
    (hQ : ∀ c F ds w, ¬ Q (.panic c) F ds w) (hS : S w) (h : Qst P n l.toArray S (fun G => Tk P n l S Q (Rn P n l Q g (J.reverse ++ i :: L)) J G ds w) (nth l i) F ds) : Rn P n l Q (J.length + g + 1) L F ds w := fun r a hf => by
  have hQ' : ∀ c a w, ¬ lift n Q (.panic c) a w := fun c a w ⟨F, ds, _, h⟩ => hQ c F ds w h
  simp only [Bool.and_eq_true] at hB
  obtain ⟨⟨⟨⟨hsel, hr⟩, hfree⟩, hforced⟩, hc⟩ := hB
  have hr : i ∈ Region.ready .any l.toArray (lst l.length L) := by simpa using hr
  obtain ⟨_, o, ho, _⟩ := mem_ready.1 hr
  rw [nth_some ho] at hc h
  simp only [List.all_cons, List.all_nil, Bool.and_true] at hc
  have h := h a hf
  have : ∃ v, YieldsS P l.toArray S o v a ∧ ∃ G, Fits n G ds (a.put o.dst v) ∧ Tk P n l S Q (Rn P n l Q g (J.reverse ++ i :: L)) J G ds w := by
    unfold wpQuiet at h
    by_cases hw : Region.wanted o (yielded l.toArray a.tmps) = true
    · rw [if_pos hw] at h
      obtain ⟨v, h1, G, hG, h2⟩ := h
      exact ⟨v, .inl ⟨hw, fun w' hw' => calm_value hc (h1 w' hw')⟩, G, hG, h2⟩
    · rw [if_neg hw] at h
      obtain ⟨G, hG, h2⟩ := h
      exact ⟨undef, .inr ⟨by simpa using hw, rfl⟩, G, hG, h2⟩
  obtain ⟨v, hy, G, hG, hT⟩ := this
  refine take_any ho (Region.noSelect_spec hsel) hQ' J _ a w hforced (Region.free_spec ho hfree) hr hy hS ?_
  have key : ∀ (J : List Nat) (L' : List Nat) (x : Array Bool), (∀ q ∈ J, ∃ o, l.toArray[q]? = some o) → ∀ (G : Fr) (ds : List Deferred) (a : Act) (w : World), Fits n G ds a → Tk P n l S Q (Rn P n l Q g (J.reverse ++ L')) J G ds w → x = lst l.length L' → FJ r P .any l.toArray (lift n Q) S g J x a w := by
    intro J
    induction J with
    | nil => rintro L' x _ G ds a w hG hT rfl; exact hT r a hG
    | cons j J ih =>
      rintro L' x hJ G ds a w hG hT rfl
      obtain ⟨oj, hoj⟩ := hJ j (by simp)
      refine op_of_lst hoj ?_ hT hG
      rintro a w ⟨G', ds', hG', hS', hT'⟩
      refine ⟨hS', ih (j :: L') _ (fun q hq => hJ q (by simp [hq])) G' ds' a w hG' ?_ rfl⟩
      simpa using hT'
  refine key J (i :: L) _ ?_ G ds _ w hG hT rfl
  have aux : ∀ (J : List Nat) (x : Array Bool), forcedB .any l.toArray i J x = true → ∀ q ∈ J, ∃ o, l.toArray[q]? = some o := by
    intro J
    induction J with
    | nil => intro x _ q hq; cases hq
    | cons j J ih =>
      intro x hB q hq
      simp only [forcedB, Bool.and_eq_true, decide_eq_true_eq] at hB
      rcases List.mem_cons.1 hq with rfl | hq
      · have : q ∈ Region.ready .any l.toArray (x.setIfInBounds i true) := by rw [hB.1.1]; simp
        obtain ⟨_, o, ho, _⟩ := mem_ready.1 this
        exact ⟨o, ho⟩
      · cases J with
        | nil => cases hq
        | cons j2 J => exact ih _ hB.2 q hq
  exact aux J _ hforced

/-- From number k on all are quiet, to the end. -/
theorem R_quiet {l : List Oper} {Q : Post} {g : Nat} {L : List Nat} (k : Nat) (C : World → Prop) (hB : (Region.noSelect l.toArray && headB .any l.toArray (fun x => (Region.ready .any l.toArray x).isEmpty) (l.length - k) k (lst l.length L) && decide (g = l.length - k)) = true) (hC : C w)
    (h : Qst P n l.toArray C (fun G => ∀ w', C w' → Q .normal G ds w') (l.drop k) F ds) : Rn P n l Q g L F ds w := fun r a hf => by
  simp only [Bool.and_eq_true, decide_eq_true_eq] at hB
  obtain ⟨⟨hsel, hB⟩, rfl⟩ := hB
  have h := h a hf
  have key : ∀ (q : List Oper) (k : Nat) (x : Array Bool) (a : Act), (∀ j, q[j]? = l.toArray[k + j]?) → headB .any l.toArray (fun x => (Region.ready .any l.toArray x).isEmpty) q.length k x = true →
      wpQuiet P l.toArray C (fun a' => ∃ G, Fits n G ds a' ∧ ∀ w', C w' → Q .normal G ds w') q a → wpAnyQ P .any l.toArray C (fun a' => ∀ w', C w' → lift n Q .normal a' w') q.length x a := by
    intro q
    induction q with
    | nil => rintro k x a _ hB ⟨G, hG, h⟩; exact ⟨by simpa [headB] using hB, fun w' hw' => ⟨G, ds, hG, h w' hw'⟩⟩
    | cons o q ih =>
      intro k x a hq hB h
      have ho : l.toArray[k]? = some o := by simpa using (hq 0).symm
      simp only [List.length_cons, headB, Bool.and_eq_true] at hB
      have hr : k ∈ Region.ready .any l.toArray x := by simpa using hB.1.1
      have hq' : qOp P l.toArray C k (wpQuiet P l.toArray C (fun a' => ∃ G, Fits n G ds a' ∧ ∀ w', C w' → Q .normal G ds w') q) a := by
        unfold qOp
        rw [ho]
        exact h
      obtain ⟨v, hy, hK⟩ := yieldsIn_of_qOp ho hq'
      refine wpAnyQ_first ho (Region.noSelect_spec hsel) q.length x a (Region.free_spec ho hB.1.2) hr hy ?_
      refine ih (k + 1) _ _ (fun j => ?_) hB.2 hK
      have := hq (j + 1)
      rw [Nat.add_assoc, Nat.add_comm 1 j]
      simpa using this
  have hd : (l.drop k).length = l.length - k := by simp
  have := anyIn_of_quiet (rd := none) (r := r) (Q := lift n Q) (X := fun a' => ∀ w', C w' → lift n Q .normal a' w') (fun a w hw h => h w hw) _ _ _ w hC (key (l.drop k) k _ a (fun j => by simp [List.getElem?_drop]) (by rw [hd]; exact hB) h)
  rwa [hd] at this

def beginB (ops : Array Oper) (m s : Nat) : Bool :=
  Region.noSelect ops && decide (m < ops.size) && sinkP .any ops m s &&
    headB .any ops (fun x => (Region.ready .any ops x).all (fun j => decide (m ≤ j)) && decide (x = lst ops.size (List.range m).reverse)) m 0 (Array.replicate ops.size false)

/-- A drawn region: a head of m operations, quiet in a class of worlds (number s is its last one, or the one behind it), then the rest. -/
theorem W_drawP {id : Nat} {l : List Oper} {Q : Post} (m s : Nat) (C : World → Prop) (hm : P.follows .mixedOrders = true) (hB : beginB l.toArray m s = true) (hC : C w.drew)
    (h : Qst P n l.toArray C (fun G => ∀ w', C w' → Rn P n l Q (l.length - m) (List.range m).reverse G ds w') (l.take m) F ds) : W P none n (.region id l.toArray true) Q F ds w := fun r a hf => by
  simp only [beginB, Bool.and_eq_true, decide_eq_true_eq] at hB
  obtain ⟨⟨⟨hsel, hlt⟩, hs⟩, hlex⟩ := hB
  have hlen : (l.take m).length = m := by simp at hlt ⊢; omega
  have inv : HeadInv .any l.toArray m (Array.replicate l.toArray.size false) :=
    ⟨by simp, (fun j oj _ hl => by rw [getD_replicate_false] at hl; cases hl), fun t _ ht => getD_in (by simpa using ht) (getD_replicate_false _ _)⟩
  have H := heads_lexP (md := .any) (T := fun x => (Region.ready .any l.toArray x).all (fun j => decide (m ≤ j)) && decide (x = lst l.toArray.size (List.range m).reverse)) hsel hs
    (fun x hx j hj => by simp only [Bool.and_eq_true, List.all_eq_true, decide_eq_true_eq] at hx; exact hx.1 j hj)
    (l.take m) 0 _ a (fun j hj => by rw [hlen] at hj; simp [hj]) (by simpa using hlen) inv (by rw [hlen]; exact hlex) (h a hf)
  refine wpIn_region_any hm ?_
  have := heads_any (rd := none) (r := r) (Q := lift n Q) (g := l.length - m) (fun y b w' hw' hb => by
    obtain ⟨hT, G, hG, hK⟩ := hb
    simp only [Bool.and_eq_true, decide_eq_true_eq] at hT
    rw [hT.2]
    exact hK w' hw' r b hG) _ _ _ _ hC H
  have e : m + (l.length - m) = l.toArray.size := by simp at hlt ⊢; omega
  rw [hlen, e] at this
  exact this
theorem seqQ_p {rd : Option Nat} {y : Code} {Q : Post} (h : ∀ c F ds w, ¬ Q (.panic c) F ds w) : ∀ c F ds w, ¬ seqQ P rd n y Q (.panic c) F ds w := h
theorem blkQ_p {id : Nat} {Q : Post} (h : ∀ c F ds w, ¬ Q (.panic c) F ds w) : ∀ c F ds w, ¬ blkQ id Q (.panic c) F ds w := h
theorem retQ_p {rs : List ResultVar} {R : Value → World → Prop} : ∀ c F ds w, ¬ retQ P rs R (.panic c) F ds w := fun _ _ _ _ h => h
end fr
end Sx
end Go.Proofs.YtfocnbmihcnaoaaGreatDoor
