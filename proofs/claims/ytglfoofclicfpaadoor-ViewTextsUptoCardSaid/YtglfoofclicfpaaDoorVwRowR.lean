/- How a row opens an argument that is a list of runs: by its bulk. -/
import Derived.Test.YtglfoofclicfpaaDoorRows
import Derived.Test.YtglfoofclicfpaaDoorVwL
import Derived.ProofKit
import Derived.OpenShut
import Derived.Carry
import Derived.SizedLaws
import Derived.Deep.Slices
namespace Go.Proofs.YtglfoofclicfpaaDoor
set_option maxRecDepth 100000
namespace Vw
open Go Go.RowKit Go.ChangeShapes Go.WideShapes Sx Val Mk
section
variable {H : Type} {enc : TypeId × Value → H} {w : World}
instance : Inhabited Vl := ⟨⟨0, 0, 0, ⟨#[]⟩⟩⟩
theorem cell_lt2 {b o : Nat} {v : Value} (h : w.cell? ⟨b, o, none⟩ = some v) : b < w.heap.size := by
  unfold World.cell? at h
  cases hb : w.heap[b]? with
  | none => simp [hb] at h
  | some o => exact (Array.getElem?_eq_some_iff.1 hb).1
theorem one_le (d : DataW H) : 1 ≤ Rows.uptoBulk d := by
  cases d with
  | lit l => cases l <;> simp [Rows.uptoBulk]
  | nil => simp [Rows.uptoBulk]
  | ptr d => simp [Rows.uptoBulk]
  | slice elems spare => simp [Rows.uptoBulk]
  | agg parts => simp [Rows.uptoBulk]
  | iface t d => simp [Rows.uptoBulk]
  | map entries => simp [Rows.uptoBulk]
  | held h => simp [Rows.uptoBulk]
theorem part_le {d : DataW H} {l : List (DataW H)} (h : d ∈ l) : Rows.uptoBulk d ≤ Rows.uptoBulkAll l := by
  induction l with
  | nil => cases h
  | cons x r ih =>
    simp only [Rows.uptoBulkAll]
    cases List.mem_cons.1 h with
    | inl e => subst e; omega
    | inr e => have := ih e; omega
theorem length_le (l : List (DataW H)) : l.length ≤ Rows.uptoBulkAll l := by
  induction l with
  | nil => simp [Rows.uptoBulkAll]
  | cons x r ih => have := one_le x; simp only [Rows.uptoBulkAll, List.length_cons]; omega
theorem cell_of {b o n : Nat} {cs : List Value} (h : w.cells? 0 ⟨b, o, none⟩ n = some cs) {i : Nat} (hi : i < n) : w.cell? ⟨b, o + i, none⟩ = cs[i]? := by
  obtain ⟨_, _, hcell⟩ := World.cells?_some h
  have := hcell i hi
  rw [add_none] at this
  exact this
theorem weights_all {P : Program} {e : TypeId} {d : DataW H} : ∀ {ds : List (DataW H)}, d ∈ ds → ∀ n ∈ d.weights P e, n ∈ DataW.weightsAll P e ds
  | x :: ds, h, n, hn => by
    simp only [DataW.weightsAll, List.mem_append]
    rcases List.mem_cons.1 h with rfl | h
    · exact .inl hn
    · exact .inr (weights_all h n hn)
theorem wf_i64' {z : Int} (h : (Lit.int .i64 z).wf = true) : -9223372036854775808 ≤ z ∧ z < 9223372036854775808 := by
  simp only [Lit.wf, IntKind.min, IntKind.max, IntKind.signed, IntKind.bits] at h
  simp at h
  omega
theorem len4 {α : Type} : ∀ {l : List α}, l.length = 4 → ∃ a b c d, l = [a, b, c, d]
  | [a, b, c, d], _ => ⟨a, b, c, d, rfl⟩
theorem open_float {n : Nat} {x : DataW H × List MemPlace} {t : TypeId} {v : Value} (ht : Tryd.prog.underlying t = some (.float .f64)) (h : DataW.trod enc Tryd.prog w 0 (fun _ => true) true n t [v] = some x) : ∃ b, v = .float .f64 b ∧ b < 18446744073709551616 := by
  cases n with
  | zero => simp [DataW.trod] at h
  | succ n =>
    unfold DataW.trod at h
    simp only [ht] at h
    cases v <;> simp at h
    rename_i k b
    cases k <;> simp at h
    obtain ⟨hw, _⟩ := h
    refine ⟨b, rfl, ?_⟩
    simp only [Lit.wf, decide_eq_true_eq] at hw
    simp at hw
    omega
theorem open_value {n : Nat} {cs : List Value} {x : DataW H × List MemPlace} (h : DataW.trod enc Tryd.prog w 0 (fun _ => true) true n 35 cs = some x) (hz : ∀ k ∈ x.1.weights Tryd.prog 35, k ≤ reachBytes) : ∃ v : Vl, cs = vcs v ∧ v.Fit := by
  obtain ⟨xs, n', rfl, rfl, hcl, hxl, hf⟩ := DataW.trod_struct Tryd.underlying35 h
  have e4 : Tryd.prog.cellsOf 35 = 4 := by kernel_rfl
  have e0 : Tryd.prog.cellsOf 3 = 1 := by kernel_rfl
  have e1 : Tryd.prog.cellsOf 2 = 1 := by kernel_rfl
  have e2 : Tryd.prog.cellsOf 33 = 1 := by kernel_rfl
  have e3 : Tryd.prog.cellsOf 9 = 1 := by kernel_rfl
  rw [e4] at hcl
  obtain ⟨c0, c1, c2, c3, rfl⟩ := len4 hcl
  obtain ⟨x0, x1, x2, x3, rfl⟩ := len4 hxl
  have f0 : DataW.trod enc Tryd.prog w 0 (fun _ => true) true n' 3 (([c0, c1, c2, c3].drop 0).take (Tryd.prog.cellsOf 3)) = some x0 := hf 0 _ rfl
  have f1 : DataW.trod enc Tryd.prog w 0 (fun _ => true) true n' 2 (([c0, c1, c2, c3].drop 1).take (Tryd.prog.cellsOf 2)) = some x1 := hf 1 _ rfl
  have f2 : DataW.trod enc Tryd.prog w 0 (fun _ => true) true n' 33 (([c0, c1, c2, c3].drop 2).take (Tryd.prog.cellsOf 33)) = some x2 := hf 2 _ rfl
  have f3 : DataW.trod enc Tryd.prog w 0 (fun _ => true) true n' 9 (([c0, c1, c2, c3].drop 3).take (Tryd.prog.cellsOf 9)) = some x3 := hf 3 _ rfl
  rw [e0] at f0
  rw [e1] at f1
  rw [e2] at f2
  rw [e3] at f3
  obtain ⟨m0, g0, _, w0⟩ := DataW.trod_int Tryd.underlying3 f0
  obtain ⟨m1, g1, _, w1⟩ := DataW.trod_int Tryd.underlying2 f1
  have f2 : DataW.trod enc Tryd.prog w 0 (fun _ => true) true n' 33 [c2] = some x2 := f2
  obtain ⟨b2, g2, w2⟩ := open_float Tryd.underlying33 f2
  obtain ⟨s3, g3, r3, _⟩ := DataW.trod_string Tryd.underlying9 f3
  have e0' : c0 = .int .i64 m0 := (List.cons.inj g0).1
  have e1' : c1 = .int .i64 m1 := (List.cons.inj g1).1
  have e3' : c3 = .string s3 := (List.cons.inj g3).1
  have w0 := wf_i64' w0
  have w1 := wf_i64' w1
  have hs : s3.data.toList.length ≤ reachBytes := by
    refine hz _ ?_
    have hk : s3.data.toList.length ∈ x3.1.weights Tryd.prog 9 := by
      rw [r3, DataW.weights]
      exact List.mem_singleton.2 rfl
    have := DataW.weights_mem_each (P := Tryd.prog) (ts := [3, 2, 33, 9]) (ds := [x0.1, x1.1, x2.1, x3.1]) (j := 3) rfl rfl _ hk
    simp only [DataW.weights, Tryd.underlying35]
    exact this
  have hr := reachBytes_lt
  have hss : s3.data.toList.length = s3.size := rfl
  refine ⟨⟨m0, m1, b2, s3⟩, by rw [e0', e1', g2, e3']; rfl, ⟨w0.1, w0.2, w1.1, w1.2, w2, ?_⟩⟩
  dsimp only
  omega
theorem len4b {α : Type} : ∀ {l : List α}, l.length = 4 → ∃ a0 a1 a2 a3, l = [a0, a1, a2, a3]
  | [a0, a1, a2, a3], _ => ⟨a0, a1, a2, a3, rfl⟩
theorem len2b {α : Type} : ∀ {l : List α}, l.length = 2 → ∃ a0 a1, l = [a0, a1]
  | [a0, a1], _ => ⟨a0, a1, rfl⟩
theorem len5b {α : Type} : ∀ {l : List α}, l.length = 5 → ∃ a0 a1 a2 a3 a4, l = [a0, a1, a2, a3, a4]
  | [a0, a1, a2, a3, a4], _ => ⟨a0, a1, a2, a3, a4, rfl⟩
theorem len7b {α : Type} : ∀ {l : List α}, l.length = 7 → ∃ a0 a1 a2 a3 a4 a5 a6, l = [a0, a1, a2, a3, a4, a5, a6]
  | [a0, a1, a2, a3, a4, a5, a6], _ => ⟨a0, a1, a2, a3, a4, a5, a6, rfl⟩
/-- A slice of structs: where they are, and what is read at each. -/
theorem open_row {t e sz n : Nat} {v : Value} {x : DataW H × List MemPlace} (ht : Tryd.prog.underlying t = some (.slice e)) (hsz : Tryd.prog.cellsOf e = sz) (h1 : 1 ≤ sz) (h : DataW.trod enc Tryd.prog w 0 (fun _ => true) true n t [v] = some x)
    (hz : ∀ k ∈ x.1.weights Tryd.prog t, k ≤ reachBytes) :
    ∃ (a : Option Addr) (len cap : Nat), v = .slice a len cap ∧ len ≤ cap ∧ len ≤ Rows.uptoBulk x.1 ∧ (len = 0 → v = .slice none 0 0 ∨ ∃ a', v = .slice (some a') 0 cap) ∧
      (0 < len → ∃ b off m, a = some ⟨b, off, none⟩ ∧ ∀ i, i < len → ∃ cs' d, w.cells? 0 ⟨b, off + i * sz, none⟩ sz = some cs' ∧ DataW.trod enc Tryd.prog w 0 (fun _ => true) true m e cs' = some d ∧ Rows.uptoBulk d.1 < Rows.uptoBulk x.1 ∧ ∀ k ∈ d.1.weights Tryd.prog e, k ≤ reachBytes) := by
  rcases Go.Deep.open_slice ht h with ⟨hcs, _⟩ | ⟨a, len, cap, m, n', D, Pl, hcs, _, hl, hlc, hmm, hx, hel⟩
  · have hcs : v = .slice none 0 0 := (List.cons.inj hcs).1
    exact ⟨none, 0, 0, hcs, Nat.le_refl _, Nat.zero_le _, fun _ => .inl hcs, fun h => absurd h (Nat.lt_irrefl _)⟩
  · have hcs : v = .slice (some a) len cap := (List.cons.inj hcs).1
    simp only [if_true] at hmm
    have hx1 : x.1 = .slice ((List.range len).map D) ((List.range (m - len)).map fun j => D (len + j)) := by rw [hx]
    have hb : ∀ i, i < len → Rows.uptoBulk (D i) < Rows.uptoBulk x.1 := fun i hi => by
      rw [hx1]
      simp only [Rows.uptoBulk]
      have := part_le (List.mem_map.2 ⟨i, List.mem_range.2 hi, rfl⟩ : D i ∈ (List.range len).map D)
      omega
    have hln : len ≤ Rows.uptoBulk x.1 := by
      rw [hx1]
      simp only [Rows.uptoBulk]
      have := length_le ((List.range len).map D)
      rw [List.length_map, List.length_range] at this
      omega
    refine ⟨some a, len, cap, hcs, hl, hln, fun h0 => .inr ⟨a, by rw [hcs, h0]⟩, fun h0 => ?_⟩
    rw [hsz] at hel
    obtain ⟨cs0, hc0, _⟩ := hel 0 (by omega)
    obtain ⟨_, _, hcell⟩ := World.cells?_some hc0
    obtain ⟨b, off, sp⟩ := a
    have hsp : sp = none := by
      have hl0 : 0 < cs0.length := by
        obtain ⟨_, hl, _⟩ := World.cells?_some hc0
        omega
      have h2 := hcell 0 (by omega)
      have h3 : cs0[0]? = some cs0[0] := List.getElem?_eq_getElem hl0
      rw [h3] at h2
      have := World.cell?_spot h2
      simpa [Addr.add] using this
    subst hsp
    refine ⟨b, off, n', rfl, fun i hi => ?_⟩
    obtain ⟨cs', hc1, hc2⟩ := hel i (by omega)
    rw [add_none] at hc1
    refine ⟨cs', _, hc1, hc2, hb i hi, fun k hk => hz k ?_⟩
    rw [hx1]
    simp only [DataW.weights, ht, List.mem_cons, List.mem_append]
    exact .inr (.inl (weights_all (List.mem_map.2 ⟨i, List.mem_range.2 hi, rfl⟩) k hk))
theorem bulk_str {t : TypeId} {n : Nat} {s : ByteArray} {x : DataW H × List MemPlace} (ht : Tryd.prog.underlying t = some .string) (h : DataW.trod enc Tryd.prog w 0 (fun _ => true) true n t [.string s] = some x) : s.size ≤ Rows.uptoBulk x.1 := by
  obtain ⟨s', g, r, _⟩ := DataW.trod_string ht h
  have e : s = s' := by
    have := (List.cons.inj g).1
    injection this
  subst e
  rw [r]
  simp only [Rows.uptoBulk]
  have : s.data.toList.length = s.size := rfl
  omega
theorem open_valueB {n : Nat} {cs : List Value} {x : DataW H × List MemPlace} (h : DataW.trod enc Tryd.prog w 0 (fun _ => true) true n 35 cs = some x) (hz : ∀ k ∈ x.1.weights Tryd.prog 35, k ≤ reachBytes) : ∃ v : Vl, cs = vcs v ∧ v.Fit ∧ v.s.size ≤ Rows.uptoBulk x.1 := by
  obtain ⟨v, hv, hf0⟩ := open_value h hz
  obtain ⟨xs, n', rfl, rfl, hcl, hxl, hf⟩ := DataW.trod_struct Tryd.underlying35 h
  have eS : Tryd.prog.cellsOf 35 = 4 := by kernel_rfl
  rw [eS] at hcl
  obtain ⟨c0, c1, c2, c3, rfl⟩ := len4b hcl
  obtain ⟨x0, x1, x2, x3, rfl⟩ := len4b hxl
  have f0 : DataW.trod enc Tryd.prog w 0 (fun _ => true) true n' 3 (([c0, c1, c2, c3].drop 0).take (Tryd.prog.cellsOf 3)) = some x0 := hf 0 _ rfl
  rw [show Tryd.prog.cellsOf 3 = 1 by kernel_rfl] at f0
  have f0 : DataW.trod enc Tryd.prog w 0 (fun _ => true) true n' 3 [c0] = some x0 := f0
  have f1 : DataW.trod enc Tryd.prog w 0 (fun _ => true) true n' 2 (([c0, c1, c2, c3].drop 1).take (Tryd.prog.cellsOf 2)) = some x1 := hf 1 _ rfl
  rw [show Tryd.prog.cellsOf 2 = 1 by kernel_rfl] at f1
  have f1 : DataW.trod enc Tryd.prog w 0 (fun _ => true) true n' 2 [c1] = some x1 := f1
  have f2 : DataW.trod enc Tryd.prog w 0 (fun _ => true) true n' 33 (([c0, c1, c2, c3].drop 2).take (Tryd.prog.cellsOf 33)) = some x2 := hf 2 _ rfl
  rw [show Tryd.prog.cellsOf 33 = 1 by kernel_rfl] at f2
  have f2 : DataW.trod enc Tryd.prog w 0 (fun _ => true) true n' 33 [c2] = some x2 := f2
  have f3 : DataW.trod enc Tryd.prog w 0 (fun _ => true) true n' 9 (([c0, c1, c2, c3].drop 3).take (Tryd.prog.cellsOf 9)) = some x3 := hf 3 _ rfl
  rw [show Tryd.prog.cellsOf 9 = 1 by kernel_rfl] at f3
  have f3 : DataW.trod enc Tryd.prog w 0 (fun _ => true) true n' 9 [c3] = some x3 := f3
  have hw : ∀ (j : Nat) (t : TypeId) (d : DataW H), [3, 2, 33, 9][j]? = some t → [x0.1, x1.1, x2.1, x3.1][j]? = some d → ∀ k ∈ d.weights Tryd.prog t, k ≤ reachBytes := by
    intro j t d ht hd k hk
    refine hz k ?_
    have := DataW.weights_mem_each ht hd k hk
    simp only [DataW.weights, Tryd.underlying35]
    exact this
  have hbk : ∀ d ∈ ([x0.1, x1.1, x2.1, x3.1] : List (DataW H)), Rows.uptoBulk d ≤ Rows.uptoBulk (DataW.agg [x0.1, x1.1, x2.1, x3.1]) := fun d hd => Nat.le_trans (part_le hd) (by simp only [Rows.uptoBulk]; omega)
  clear hf
  have e3 : c3 = .string v.s := by
    unfold vcs at hv
    exact (List.cons.inj (List.cons.inj (List.cons.inj (List.cons.inj hv).2).2).2).1
  rw [e3] at f3
  refine ⟨v, hv, hf0, Nat.le_trans (bulk_str Tryd.underlying9 f3) (hbk x3.1 (by simp))⟩
theorem open_markB {b o n : Nat} {cs : List Value} {x : DataW H × List MemPlace} (hc : w.cells? 0 ⟨b, o, none⟩ 5 = some cs) (h : DataW.trod enc Tryd.prog w 0 (fun _ => true) true n 37 cs = some x) (hz : ∀ k ∈ x.1.weights Tryd.prog 37, k ≤ reachBytes) :
    ∃ q : Mk, (q.1.size ≤ Rows.uptoBulk x.1 ∧ q.2.Fit ∧ q.2.s.size ≤ Rows.uptoBulk x.1) ∧ b < w.heap.size ∧ ∀ j u, (mcs q)[j]? = some u → w.cell? ⟨b, o + j, none⟩ = some u := by
  have hcell := fun i (hi : i < 5) => cell_of hc hi
  obtain ⟨xs, n', rfl, rfl, hcl, hxl, hf⟩ := DataW.trod_struct Tryd.underlying37 h
  have eS : Tryd.prog.cellsOf 37 = 5 := by kernel_rfl
  rw [eS] at hcl
  obtain ⟨c0, c1, c2, c3, c4, rfl⟩ := len5b hcl
  obtain ⟨x0, x1, rfl⟩ := len2b hxl
  have f0 : DataW.trod enc Tryd.prog w 0 (fun _ => true) true n' 9 (([c0, c1, c2, c3, c4].drop 0).take (Tryd.prog.cellsOf 9)) = some x0 := hf 0 _ rfl
  rw [show Tryd.prog.cellsOf 9 = 1 by kernel_rfl] at f0
  have f0 : DataW.trod enc Tryd.prog w 0 (fun _ => true) true n' 9 [c0] = some x0 := f0
  have f1 : DataW.trod enc Tryd.prog w 0 (fun _ => true) true n' 35 (([c0, c1, c2, c3, c4].drop 1).take (Tryd.prog.cellsOf 35)) = some x1 := hf 1 _ rfl
  rw [show Tryd.prog.cellsOf 35 = 4 by kernel_rfl] at f1
  have f1 : DataW.trod enc Tryd.prog w 0 (fun _ => true) true n' 35 [c1, c2, c3, c4] = some x1 := f1
  have hw : ∀ (j : Nat) (t : TypeId) (d : DataW H), [9, 35][j]? = some t → [x0.1, x1.1][j]? = some d → ∀ k ∈ d.weights Tryd.prog t, k ≤ reachBytes := by
    intro j t d ht hd k hk
    refine hz k ?_
    have := DataW.weights_mem_each ht hd k hk
    simp only [DataW.weights, Tryd.underlying37]
    exact this
  have hbk : ∀ d ∈ ([x0.1, x1.1] : List (DataW H)), Rows.uptoBulk d ≤ Rows.uptoBulk (DataW.agg [x0.1, x1.1]) := fun d hd => Nat.le_trans (part_le hd) (by simp only [Rows.uptoBulk]; omega)
  clear hf
  obtain ⟨s, g0, _, _⟩ := DataW.trod_string Tryd.underlying9 f0
  have e0 : c0 = .string s := (List.cons.inj g0).1
  subst e0
  obtain ⟨v, g1, hv, hvs⟩ := open_valueB f1 (hw 1 _ _ rfl rfl)
  have hk : ([.string s, c1, c2, c3, c4] : List Value) = mcs (s, v) := by
    rw [show ([.string s, c1, c2, c3, c4] : List Value) = [.string s] ++ [c1, c2, c3, c4] from rfl, show [c1, c2, c3, c4] = vcs v from g1]
    rfl
  refine ⟨(s, v), ⟨Nat.le_trans (bulk_str Tryd.underlying9 f0) (hbk x0.1 (by simp)), hv, Nat.le_trans hvs (hbk x1.1 (by simp))⟩, cell_lt2 (hcell 0 (by decide)), fun j u hu => ?_⟩
  have hj : j < 5 := (List.getElem?_eq_some_iff.1 hu).1
  rw [hcell j hj, hk, hu]
theorem open_marksB {n : Nat} {v : Value} {x : DataW H × List MemPlace} (h : DataW.trod enc Tryd.prog w 0 (fun _ => true) true n 38 [v] = some x) (hz : ∀ k ∈ x.1.weights Tryd.prog 38, k ≤ reachBytes) :
    ∃ ms : List Mk, MkO w.heap.size w v ms ∧ ms.length ≤ Rows.uptoBulk x.1 ∧ ∀ q ∈ ms, q.1.size ≤ Rows.uptoBulk x.1 ∧ q.2.Fit ∧ q.2.s.size ≤ Rows.uptoBulk x.1 := by
  obtain ⟨a, len, cap, rfl, hlc, hln, h0, h1⟩ := open_row Tryd.underlying38 (show Tryd.prog.cellsOf 37 = 5 by kernel_rfl) (by decide) h hz
  rcases Nat.eq_zero_or_pos len with rfl | hp
  · refine ⟨[], .inl ⟨rfl, ?_⟩, Nat.zero_le _, fun q hq => absurd hq List.not_mem_nil⟩
    rcases h0 rfl with h | ⟨a', h⟩
    · exact .inl h
    · exact .inr ⟨a', cap, h⟩
  · obtain ⟨b, off, m, rfl, hel⟩ := h1 hp
    have hS : ∀ i, i < len → ∃ q : Mk, (q.1.size ≤ Rows.uptoBulk x.1 ∧ q.2.Fit ∧ q.2.s.size ≤ Rows.uptoBulk x.1) ∧ b < w.heap.size ∧ ∀ j u, (mcs q)[j]? = some u → w.cell? ⟨b, off + i * 5 + j, none⟩ = some u := fun i hi => by
      obtain ⟨cs', d, hc, ht, hlt, hwz⟩ := hel i hi
      obtain ⟨q, ⟨q1, q2, q3⟩, hq2⟩ := open_markB hc ht hwz
      exact ⟨q, ⟨by omega, q2, by omega⟩, hq2⟩
    obtain ⟨f, hf⟩ := Go.Deep.choose_lt hS
    have hlen : ((List.range len).map f).length = len := by rw [List.length_map, List.length_range]
    refine ⟨(List.range len).map f, .inr ⟨fun e => ?_, ⟨b, off, cap, .inl (by rw [List.length_map, hlen]), fun i hi => ?_⟩, b, off, cap, by rw [hlen], (hf 0 hp).2.1, .inl (hf 0 hp).2.1⟩, by rw [hlen]; exact hln, fun q hq => ?_⟩
    · rw [e] at hlen
      exact absurd hlen (by rw [List.length_nil]; omega)
    · rw [List.length_map, hlen] at hi
      obtain ⟨_, h3, h4⟩ := hf i hi
      refine ⟨h3, fun j u hu => ?_⟩
      have e : ((List.range len).map f).map mcs = (List.range len).map fun i => mcs (f i) := List.map_map
      rw [List.getElem_of_eq e, List.getElem_map, List.getElem_range] at hu
      exact h4 j u hu
    · obtain ⟨i, hi, rfl⟩ := List.mem_map.1 hq
      exact (hf i (List.mem_range.1 hi)).1
theorem open_runB {b o n : Nat} {cs : List Value} {x : DataW H × List MemPlace} (hc : w.cells? 0 ⟨b, o, none⟩ 7 = some cs) (h : DataW.trod enc Tryd.prog w 0 (fun _ => true) true n 40 cs = some x) (hz : ∀ k ∈ x.1.weights Tryd.prog 40, k ≤ reachBytes) (hb : Rows.uptoBulk x.1 ≤ 2000000) :
    ∃ p : Rv, (Raw p.1 ∧ MkO w.heap.size w p.2 p.1.ms) ∧ b < w.heap.size ∧ ∀ j u, (pcs p)[j]? = some u → w.cell? ⟨b, o + j, none⟩ = some u := by
  have hcell := fun i (hi : i < 7) => cell_of hc hi
  obtain ⟨xs, n', rfl, rfl, hcl, hxl, hf⟩ := DataW.trod_struct Tryd.underlying40 h
  have eS : Tryd.prog.cellsOf 40 = 7 := by kernel_rfl
  rw [eS] at hcl
  obtain ⟨c0, c1, c2, c3, c4, c5, c6, rfl⟩ := len7b hcl
  obtain ⟨x0, x1, x2, x3, rfl⟩ := len4b hxl
  have f0 : DataW.trod enc Tryd.prog w 0 (fun _ => true) true n' 9 (([c0, c1, c2, c3, c4, c5, c6].drop 0).take (Tryd.prog.cellsOf 9)) = some x0 := hf 0 _ rfl
  rw [show Tryd.prog.cellsOf 9 = 1 by kernel_rfl] at f0
  have f0 : DataW.trod enc Tryd.prog w 0 (fun _ => true) true n' 9 [c0] = some x0 := f0
  have f1 : DataW.trod enc Tryd.prog w 0 (fun _ => true) true n' 4 (([c0, c1, c2, c3, c4, c5, c6].drop 1).take (Tryd.prog.cellsOf 4)) = some x1 := hf 1 _ rfl
  rw [show Tryd.prog.cellsOf 4 = 1 by kernel_rfl] at f1
  have f1 : DataW.trod enc Tryd.prog w 0 (fun _ => true) true n' 4 [c1] = some x1 := f1
  have f2 : DataW.trod enc Tryd.prog w 0 (fun _ => true) true n' 35 (([c0, c1, c2, c3, c4, c5, c6].drop 2).take (Tryd.prog.cellsOf 35)) = some x2 := hf 2 _ rfl
  rw [show Tryd.prog.cellsOf 35 = 4 by kernel_rfl] at f2
  have f2 : DataW.trod enc Tryd.prog w 0 (fun _ => true) true n' 35 [c2, c3, c4, c5] = some x2 := f2
  have f3 : DataW.trod enc Tryd.prog w 0 (fun _ => true) true n' 38 (([c0, c1, c2, c3, c4, c5, c6].drop 6).take (Tryd.prog.cellsOf 38)) = some x3 := hf 3 _ rfl
  rw [show Tryd.prog.cellsOf 38 = 1 by kernel_rfl] at f3
  have f3 : DataW.trod enc Tryd.prog w 0 (fun _ => true) true n' 38 [c6] = some x3 := f3
  have hw : ∀ (j : Nat) (t : TypeId) (d : DataW H), [9, 4, 35, 38][j]? = some t → [x0.1, x1.1, x2.1, x3.1][j]? = some d → ∀ k ∈ d.weights Tryd.prog t, k ≤ reachBytes := by
    intro j t d ht hd k hk
    refine hz k ?_
    have := DataW.weights_mem_each ht hd k hk
    simp only [DataW.weights, Tryd.underlying40]
    exact this
  have hbk : ∀ d ∈ ([x0.1, x1.1, x2.1, x3.1] : List (DataW H)), Rows.uptoBulk d ≤ Rows.uptoBulk (DataW.agg [x0.1, x1.1, x2.1, x3.1]) := fun d hd => Nat.le_trans (part_le hd) (by simp only [Rows.uptoBulk]; omega)
  clear hf
  obtain ⟨s, g0, _, _⟩ := DataW.trod_string Tryd.underlying9 f0
  have e0 : c0 = .string s := (List.cons.inj g0).1
  subst e0
  obtain ⟨e, g1, _⟩ := DataW.trod_bool Tryd.underlying4 f1
  have e1 : c1 = .bool e := (List.cons.inj g1).1
  subst e1
  obtain ⟨v, g2, hv, hvs⟩ := open_valueB f2 (hw 2 _ _ rfl rfl)
  obtain ⟨ms, hm, hml, hms⟩ := open_marksB f3 (hw 3 _ _ rfl rfl)
  have b0 := Nat.le_trans (bulk_str Tryd.underlying9 f0) (hbk x0.1 (by simp))
  have b2 := hbk x2.1 (by simp)
  have b3 := hbk x3.1 (by simp)
  have hb : Rows.uptoBulk (DataW.agg [x0.1, x1.1, x2.1, x3.1]) ≤ 2000000 := hb
  have hk : ([.string s, .bool e, c2, c3, c4, c5, c6] : List Value) = pcs (⟨s, e, v, ms⟩, c6) := by
    rw [show ([.string s, .bool e, c2, c3, c4, c5, c6] : List Value) = [.string s, .bool e] ++ [c2, c3, c4, c5] ++ [c6] from rfl, show [c2, c3, c4, c5] = vcs v from g2]
    rfl
  refine ⟨(⟨s, e, v, ms⟩, c6), ⟨⟨by dsimp only; omega, hv, by dsimp only; omega, by dsimp only; omega, fun q hq => ?_⟩, hm⟩, cell_lt2 (hcell 0 (by decide)), fun j u hu => ?_⟩
  · obtain ⟨q1, q2, q3⟩ := hms q hq
    exact ⟨by omega, q2, by omega⟩
  · have hj : j < 7 := (List.getElem?_eq_some_iff.1 hu).1
    rw [hcell j hj, hk, hu]
instance : Inhabited Rn := ⟨⟨⟨#[]⟩, false, zeroV, []⟩⟩
theorem open_runs {v : Value} {d : DataW H} {ps : List MemPlace} {b0 : Nat} (hval : Value.okWide Tryd.prog w .any b0 22 v) (hd : DataW.Trod enc Tryd.prog w 0 (fun _ => true) true 22 v d ps) (hz : ∀ k ∈ d.weights Tryd.prog 22, k ≤ reachBytes) (hb : Rows.uptoBulk d ≤ 2000000) :
    ∃ (P : List Rv) (a : Option Addr) (c : Nat), v = .slice a P.length c ∧ RunS w.heap.size w (.slice a P.length c) P ∧ P.length ≤ 2000000 ∧ (∀ p ∈ P, Raw p.1) := by
  obtain ⟨a0, len0, cap0, rfl⟩ := okWide_slice Tryd.underlying22 hval
  obtain ⟨fuel, hf⟩ := hd
  have hf : DataW.trod enc Tryd.prog w 0 (fun _ => true) true fuel 22 [.slice a0 len0 cap0] = some (d, ps) := hf
  obtain ⟨a, len, cap, e, hlc, hln, h0, h1⟩ := open_row Tryd.underlying22 (show Tryd.prog.cellsOf 40 = 7 by kernel_rfl) (by decide) hf hz
  cases e
  dsimp only at hln
  rcases Nat.eq_zero_or_pos len0 with rfl | hp
  · refine ⟨[], a0, cap0, rfl, ⟨?_, fun q hq => absurd hq List.not_mem_nil⟩, Nat.zero_le _, fun q hq => absurd hq List.not_mem_nil⟩
    rcases h0 rfl with h | ⟨a', h⟩
    · cases h
      exact SRows.nil _ _
    · cases h
      have hspot : a'.spot = none := by
        simp only [Value.okWide, Tryd.underlying22, Cell.okWide, Cell.ok] at hval
        exact hval.2.2.2.1
      obtain ⟨b, off, sp⟩ := a'
      dsimp only at hspot
      subst hspot
      exact ⟨b, off, cap0, .inl rfl, fun i hi => absurd hi (Nat.not_lt_zero _)⟩
  · obtain ⟨b, off, m, rfl, hel⟩ := h1 hp
    have hS : ∀ i, i < len0 → ∃ p : Rv, (Raw p.1 ∧ MkO w.heap.size w p.2 p.1.ms) ∧ b < w.heap.size ∧ ∀ j u, (pcs p)[j]? = some u → w.cell? ⟨b, off + i * 7 + j, none⟩ = some u := fun i hi => by
      obtain ⟨cs', x, hc, ht, hlt, hwz⟩ := hel i hi
      exact open_runB hc ht hwz (by dsimp only at hlt; omega)
    obtain ⟨f, hf⟩ := Go.Deep.choose_lt hS
    have hlen : ((List.range len0).map f).length = len0 := by rw [List.length_map, List.length_range]
    refine ⟨(List.range len0).map f, some ⟨b, off, none⟩, cap0, by rw [hlen], ⟨⟨b, off, cap0, .inl (by rw [hlen, List.length_map, hlen]), fun i hi => ?_⟩, fun q hq => ?_⟩, by rw [hlen]; omega, fun q hq => ?_⟩
    · rw [List.length_map, hlen] at hi
      obtain ⟨_, h3, h4⟩ := hf i hi
      refine ⟨h3, fun j u hu => ?_⟩
      have e : ((List.range len0).map f).map pcs = (List.range len0).map fun i => pcs (f i) := List.map_map
      rw [List.getElem_of_eq e, List.getElem_map, List.getElem_range] at hu
      exact h4 j u hu
    · obtain ⟨i, hi, rfl⟩ := List.mem_map.1 hq
      exact (hf i (List.mem_range.1 hi)).1.2
    · obtain ⟨i, hi, rfl⟩ := List.mem_map.1 hq
      exact (hf i (List.mem_range.1 hi)).1.1
end
end Vw
end Go.Proofs.YtglfoofclicfpaaDoor
