/- How a row opens an argument that is a script of steps. -/
import Derived.Test.YtmammcgdjjldbaaSqPlays
import Derived.ProofKit
import Derived.OpenShut
import Derived.Carry
import Derived.SizedLaws
import Derived.Deep.Slices
namespace Go.Proofs.Ytmammcgdjjldbaa
set_option maxRecDepth 100000
namespace Sq
open Go Go.RowKit Go.ChangeShapes Go.WideShapes Sx
section
variable {H : Type} {enc : TypeId × Value → H}
theorem wf_u64' {z : Int} (h : (Lit.int .u64 z).wf = true) : 0 ≤ z ∧ z < 18446744073709551616 := by
  simp only [Lit.wf, IntKind.min, IntKind.max, IntKind.signed, IntKind.bits] at h
  simp at h
  omega
theorem wf_i64' {z : Int} (h : (Lit.int .i64 z).wf = true) : -9223372036854775808 ≤ z ∧ z < 9223372036854775808 := by
  simp only [Lit.wf, IntKind.min, IntKind.max, IntKind.signed, IntKind.bits] at h
  simp at h
  omega
theorem two' {α : Type} : ∀ {l : List α}, l.length = 2 → ∃ a b, l = [a, b]
  | [a, b], _ => ⟨a, b, rfl⟩
theorem three' {α : Type} : ∀ {l : List α}, l.length = 3 → ∃ a b c, l = [a, b, c]
  | [a, b, c], _ => ⟨a, b, c, rfl⟩
theorem six' {α : Type} : ∀ {l : List α}, l.length = 6 → ∃ a b c d e f, l = [a, b, c, d, e, f]
  | [a, b, c, d, e, f], _ => ⟨a, b, c, d, e, f, rfl⟩
theorem eight' {α : Type} : ∀ {l : List α}, l.length = 8 → ∃ a b c d e f g h, l = [a, b, c, d, e, f, g, h]
  | [a, b, c, d, e, f, g, h], _ => ⟨a, b, c, d, e, f, g, h, rfl⟩
theorem open_id {w : World} {n : Nat} {cs : List Value} {x : DataW H × List MemPlace} (h : DataW.trod enc Try.prog w 0 (fun _ => true) true n 32 cs = some x) : ∃ k : Id, cs = idcs k := by
  obtain ⟨xs, n', rfl, rfl, hcl, hxl, hf⟩ := DataW.trod_struct Try.underlying32 h
  have e2 : Try.prog.cellsOf 32 = 2 := by kernel_rfl
  have e1 : Try.prog.cellsOf 30 = 1 := by kernel_rfl
  rw [e2] at hcl
  obtain ⟨c0, c1, rfl⟩ := two' hcl
  obtain ⟨x0, x1, rfl⟩ := two' hxl
  have f0 : DataW.trod enc Try.prog w 0 (fun _ => true) true n' 30 (([c0, c1].drop 0).take (Try.prog.cellsOf 30)) = some x0 := hf 0 _ rfl
  have f1 : DataW.trod enc Try.prog w 0 (fun _ => true) true n' 30 (([c0, c1].drop 1).take (Try.prog.cellsOf 30)) = some x1 := hf 1 _ rfl
  rw [e1] at f0 f1
  obtain ⟨m0, g0, _, w0⟩ := DataW.trod_int Try.underlying30 f0
  obtain ⟨m1, g1, _, w1⟩ := DataW.trod_int Try.underlying30 f1
  have e0' : c0 = .int .u64 m0 := (List.cons.inj g0).1
  have e1' : c1 = .int .u64 m1 := (List.cons.inj g1).1
  have w0 := wf_u64' w0
  have w1 := wf_u64' w1
  refine ⟨(m0.toNat, m1.toNat), ?_⟩
  unfold idcs
  dsimp only
  rw [Int.toNat_of_nonneg w0.1, Int.toNat_of_nonneg w1.1, e0', e1']
theorem open_unit {w : World} {n : Nat} {cs : List Value} {x : DataW H × List MemPlace} (h : DataW.trod enc Try.prog w 0 (fun _ => true) true n 34 cs = some x) : ∃ u : Un, cs = ucs u := by
  obtain ⟨xs, n', rfl, rfl, hcl, hxl, hf⟩ := DataW.trod_struct Try.underlying34 h
  have e6 : Try.prog.cellsOf 34 = 6 := by kernel_rfl
  have e2 : Try.prog.cellsOf 32 = 2 := by kernel_rfl
  rw [e6] at hcl
  obtain ⟨c0, c1, c2, c3, c4, c5, rfl⟩ := six' hcl
  obtain ⟨x0, x1, x2, rfl⟩ := three' hxl
  have f0 : DataW.trod enc Try.prog w 0 (fun _ => true) true n' 32 (([c0, c1, c2, c3, c4, c5].drop 0).take (Try.prog.cellsOf 32)) = some x0 := hf 0 _ rfl
  have f1 : DataW.trod enc Try.prog w 0 (fun _ => true) true n' 32 (([c0, c1, c2, c3, c4, c5].drop 2).take (Try.prog.cellsOf 32)) = some x1 := hf 1 _ rfl
  have f2 : DataW.trod enc Try.prog w 0 (fun _ => true) true n' 32 (([c0, c1, c2, c3, c4, c5].drop 4).take (Try.prog.cellsOf 32)) = some x2 := hf 2 _ rfl
  rw [e2] at f0 f1 f2
  obtain ⟨k0, g0⟩ := open_id f0
  obtain ⟨k1, g1⟩ := open_id f1
  obtain ⟨k2, g2⟩ := open_id f2
  refine ⟨⟨k0, k1, k2⟩, ?_⟩
  have g0 : [c0, c1] = idcs k0 := g0
  have g1 : [c2, c3] = idcs k1 := g1
  have g2 : [c4, c5] = idcs k2 := g2
  have e : [c0, c1, c2, c3, c4, c5] = [c0, c1] ++ ([c2, c3] ++ [c4, c5]) := rfl
  rw [e, g0, g1, g2]
  rfl
theorem open_step {w : World} {b o n : Nat} {cs : List Value} {x : DataW H × List MemPlace} (hc : w.cells? 0 ⟨b, o, none⟩ 8 = some cs) (h : DataW.trod enc Try.prog w 0 (fun _ => true) true n 61 cs = some x) :
    ∃ q : Sp, SpOk q ∧ b < w.heap.size ∧ ∀ j u, (scs q)[j]? = some u → w.cell? ⟨b, o + j, none⟩ = some u := by
  obtain ⟨_, _, hcell⟩ := World.cells?_some hc
  obtain ⟨xs, n', rfl, rfl, hcl, hxl, hf⟩ := DataW.trod_struct Try.underlying61 h
  have e8 : Try.prog.cellsOf 61 = 8 := by kernel_rfl
  have e1 : Try.prog.cellsOf 3 = 1 := by kernel_rfl
  have e6 : Try.prog.cellsOf 34 = 6 := by kernel_rfl
  rw [e8] at hcl
  obtain ⟨c0, c1, c2, c3, c4, c5, c6, c7, rfl⟩ := eight' hcl
  obtain ⟨x0, x1, x2, rfl⟩ := three' hxl
  have f0 : DataW.trod enc Try.prog w 0 (fun _ => true) true n' 3 (([c0, c1, c2, c3, c4, c5, c6, c7].drop 0).take (Try.prog.cellsOf 3)) = some x0 := hf 0 _ rfl
  have f1 : DataW.trod enc Try.prog w 0 (fun _ => true) true n' 3 (([c0, c1, c2, c3, c4, c5, c6, c7].drop 1).take (Try.prog.cellsOf 3)) = some x1 := hf 1 _ rfl
  have f2 : DataW.trod enc Try.prog w 0 (fun _ => true) true n' 34 (([c0, c1, c2, c3, c4, c5, c6, c7].drop 2).take (Try.prog.cellsOf 34)) = some x2 := hf 2 _ rfl
  rw [e1] at f0 f1
  rw [e6] at f2
  obtain ⟨m0, g0, _, w0⟩ := DataW.trod_int Try.underlying3 f0
  obtain ⟨m1, g1, _, w1⟩ := DataW.trod_int Try.underlying3 f1
  obtain ⟨u, g2⟩ := open_unit f2
  have e0' : c0 = .int .i64 m0 := (List.cons.inj g0).1
  have e1' : c1 = .int .i64 m1 := (List.cons.inj g1).1
  have g2 : [c2, c3, c4, c5, c6, c7] = ucs u := g2
  have w0 := wf_i64' w0
  have w1 := wf_i64' w1
  have e : [c0, c1, c2, c3, c4, c5, c6, c7] = scs ⟨m0, m1, u⟩ := by
    have : [c0, c1, c2, c3, c4, c5, c6, c7] = [c0, c1] ++ [c2, c3, c4, c5, c6, c7] := rfl
    rw [this, g2, e0', e1']
    rfl
  have hc' : ∀ i, i < 8 → w.cell? ⟨b, o + i, none⟩ = (scs ⟨m0, m1, u⟩)[i]? := fun i hi => by
    have := hcell i hi
    rw [add_none, e] at this
    exact this
  refine ⟨⟨m0, m1, u⟩, ⟨w0.1, w0.2, w1.1, w1.2⟩, cell_lt (hc' 0 (by decide)), fun j u hu => ?_⟩
  have hj : j < 8 := (List.getElem?_eq_some_iff.1 hu).1
  rw [hc' j hj, ← hu]
instance : Inhabited Sp := ⟨⟨0, 0, default⟩⟩
theorem open_steps {w : World} {v : Value} {d : DataW H} {ps : List MemPlace} {b0 : Nat} (hval : Value.okWide Try.prog w .any b0 54 v)
    (hd : DataW.Trod enc Try.prog w 0 (fun _ => true) true 54 v d ps) : ∃ l : List Sp, Sps w v l := by
  have ht := Try.underlying54
  obtain ⟨a0, len0, cap0, rfl⟩ := okWide_slice ht hval
  obtain ⟨fuel, hf⟩ := hd
  rcases Go.Deep.open_slice ht hf with ⟨hcs, _⟩ | ⟨a, len, cap, m, n, D, Pl, hcs, _, hl, hlc, hmm, hx, hel⟩
  · have hcs : [Value.slice a0 len0 cap0] = [.slice none 0 0] := by simpa [Value.cells] using hcs
    simp only [List.cons.injEq, Value.slice.injEq, and_true] at hcs
    obtain ⟨rfl, rfl, rfl⟩ := hcs
    exact ⟨[], SRows.nil _ _, fun q hq => by simp at hq⟩
  · have hcs : [Value.slice a0 len0 cap0] = [.slice (some a) len cap] := by simpa [Value.cells] using hcs
    simp only [List.cons.injEq, Value.slice.injEq, and_true] at hcs
    obtain ⟨rfl, rfl, rfl⟩ := hcs
    have hspot : a.spot = none := by
      simp only [Value.okWide, ht, Cell.okWide, Cell.ok] at hval
      exact hval.2.2.2.1
    obtain ⟨b, off, sp⟩ := a
    dsimp only at hspot
    subst hspot
    simp only [if_true] at hmm
    have e8 : Try.prog.cellsOf 61 = 8 := by kernel_rfl
    have hS : ∀ i, i < len0 → ∃ q : Sp, SpOk q ∧ b < w.heap.size ∧ ∀ j u, (scs q)[j]? = some u → w.cell? ⟨b, off + i * 8 + j, none⟩ = some u := fun i hi => by
      obtain ⟨cs', h1, h2⟩ := hel i (by omega)
      rw [e8, add_none] at h1
      exact open_step h1 h2
    obtain ⟨f, hf⟩ := Go.Deep.choose_lt hS
    have hlen : ((List.range len0).map f).length = len0 := by rw [List.length_map, List.length_range]
    refine ⟨(List.range len0).map f, ⟨b, off, cap0, .inl (by rw [List.length_map, hlen]), fun i hi => ?_⟩, fun q hq => ?_⟩
    · rw [List.length_map, hlen] at hi
      obtain ⟨_, h3, h4⟩ := hf i hi
      refine ⟨h3, fun j u hu => ?_⟩
      have e : ((List.range len0).map f).map scs = (List.range len0).map fun i => scs (f i) := List.map_map
      rw [List.getElem_of_eq e, List.getElem_map, List.getElem_range] at hu
      exact h4 j u hu
    · obtain ⟨i, hi, rfl⟩ := List.mem_map.1 hq
      exact (hf i (List.mem_range.1 hi)).1
end
end Sq
end Go.Proofs.Ytmammcgdjjldbaa
