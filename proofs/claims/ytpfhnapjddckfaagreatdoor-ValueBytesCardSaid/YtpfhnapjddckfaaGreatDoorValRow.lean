/- How a row opens and shuts an argument that is a value. -/
import Derived.Test.YtpfhnapjddckfaaGreatDoorTabs
import Derived.Lib.SmallJoins
import Derived.Laws.Cover2
import Derived.ChangeSame
namespace Go.Proofs.YtpfhnapjddckfaaGreatDoor
set_option maxRecDepth 100000
namespace Val
open Go Go.RowKit Go.ChangeShapes Go.WideShapes Go.Joins
section
variable {H : Type} {enc : TypeId × Value → H} {w : World} {base : Nat} {spare : Nat → Bool} {held : Bool}
/-- What a row says of a value. -/
def Vl.d (x : Vl) : DataW H := .agg [.lit (.int .i64 x.k), .lit (.int .i64 x.n), .lit (.float .f64 x.f), .lit (.string x.s.data.toList)]
structure Vl.Wf (x : Vl) : Prop where
  k : (Lit.int .i64 x.k).wf = true
  n : (Lit.int .i64 x.n).wf = true
  f : (Lit.float .f64 x.f).wf = true
  s : x.s.size ≤ maxLen
theorem Vl.Wf.bounds {x : Vl} (h : x.Wf) : (-9223372036854775808 ≤ x.k ∧ x.k < 9223372036854775808) ∧ (-9223372036854775808 ≤ x.n ∧ x.n < 9223372036854775808) ∧ x.f < 18446744073709551616 := by
  have h1 := h.k
  have h2 := h.n
  have h3 := h.f
  simp only [Lit.wf, decide_eq_true_eq, IntKind.min, IntKind.max, IntKind.signed, IntKind.bits] at h1 h2 h3
  simp at h1 h2 h3
  omega
theorem float_trod {t : TypeId} {fuel : Nat} {v : Value} {y : DataW H × List MemPlace} (ht : Tryz.prog.underlying t = some (.float .f64)) (h : DataW.trod enc Tryz.prog w base spare held fuel t [v] = some y) : ∃ b, v = .float .f64 b ∧ y = (.lit (.float .f64 b), []) ∧ (Lit.float .f64 b).wf = true := by
  cases fuel with
  | zero => simp [DataW.trod] at h
  | succ n =>
    unfold DataW.trod at h
    simp only [ht] at h
    cases v <;> simp at h
    rename_i k b
    cases k <;> simp at h
    obtain ⟨hw, rfl⟩ := h
    exact ⟨b, rfl, rfl, hw⟩
theorem open_val {r : Reach} {b0 : Nat} {v : Value} {d : DataW H} {p : List MemPlace} (hv : Value.okWide Tryz.prog w r b0 24 v) (h : DataW.Trod enc Tryz.prog w base spare held 24 v d p) :
    ∃ x : Vl, v = x.v ∧ d = x.d ∧ p = [] ∧ x.Wf := by
  obtain ⟨v0, v1, v2, v3, y0, y1, y2, y3, n, rfl, rfl, rfl, h0, h1, h2, h3⟩ := open_agg4 (P := Tryz.prog) (t := 24) Tryz.underlying24 (by kernel_rfl) (by kernel_rfl) hv h
  obtain ⟨a, e0, rfl, w0⟩ := DataW.trod_int (P := Tryz.prog) (k := .i64) Tryz.underlying3 h0
  obtain ⟨b, e1, rfl, w1⟩ := DataW.trod_int (P := Tryz.prog) (k := .i64) Tryz.underlying2 h1
  obtain ⟨f, rfl, rfl, w2⟩ := float_trod Tryz.underlying22 h2
  obtain ⟨s, e3, rfl, w3⟩ := DataW.trod_string (P := Tryz.prog) Tryz.underlying9 h3
  obtain rfl := (List.cons.inj e0).1
  obtain rfl := (List.cons.inj e1).1
  obtain rfl := (List.cons.inj e3).1
  exact ⟨⟨a, b, f, s⟩, rfl, rfl, rfl, ⟨w0, w1, w2, w3⟩⟩
theorem shut_val {x : Vl} (h : x.Wf) : DataW.Trod enc Tryz.prog w base spare held 24 x.v x.d [] := by
  refine ⟨2, ?_⟩
  have h0 : DataW.trod enc Tryz.prog w base spare held 1 3 [.int .i64 x.k] = some (.lit (.int .i64 x.k), []) := trod_int_mk 0 (by kernel_rfl) h.k
  have h1 : DataW.trod enc Tryz.prog w base spare held 1 2 [.int .i64 x.n] = some (.lit (.int .i64 x.n), []) := trod_int_mk 0 (by kernel_rfl) h.n
  have hf := h.f
  have hs := h.s
  have h2 : DataW.trod enc Tryz.prog w base spare held 1 22 [.float .f64 x.f] = some (.lit (.float .f64 x.f), []) := by
    have ht : Tryz.prog.underlying 22 = some (.float .f64) := by kernel_rfl
    simp [DataW.trod, ht, hf]
  have h3 : DataW.trod enc Tryz.prog w base spare held 1 9 [.string x.s] = some (.lit (.string x.s.data.toList), []) := by
    have ht : Tryz.prog.underlying 9 = some .string := by kernel_rfl
    simp [DataW.trod, ht, hs]
  have q0 : Tryz.prog.cellsOf 3 = 1 := by kernel_rfl
  have q1 : Tryz.prog.cellsOf 2 = 1 := by kernel_rfl
  have q2 : Tryz.prog.cellsOf 22 = 1 := by kernel_rfl
  have q3 : Tryz.prog.cellsOf 9 = 1 := by kernel_rfl
  have := trod_struct_mk (P := Tryz.prog) (enc := enc) (w := w) (base := base) (spare := spare) (held := held) (n := 1) (t := 24) (cs := [.int .i64 x.k, .int .i64 x.n, .float .f64 x.f, .string x.s]) (xs := [(.lit (.int .i64 x.k), []), (.lit (.int .i64 x.n), []), (.lit (.float .f64 x.f), []), (.lit (.string x.s.data.toList), [])]) Tryz.underlying24 (by kernel_rfl) (by
    simp [h0, h1, h2, h3, q0, q1, q2, q3])
  simpa [Vl.d, Vl.v, Value.cells] using this
end
end Val
end Go.Proofs.YtpfhnapjddckfaaGreatDoor
