/- How a row opens an argument that is a slice of api.Present. -/
import Derived.Test.YtoljcnlmockpcaaAwGive
import Derived.Test.YtoljcnlmockpcaaBytesRow
import Derived.Deep.Slices
namespace Go.Proofs.Ytoljcnlmockpcaa
set_option maxRecDepth 100000
namespace Aw
open Go Go.RowKit Go.ChangeShapes Go.WideShapes Sx Wire
section
variable {H : Type} {enc : TypeId × Value → H}
theorem weights_all {P : Program} {e : TypeId} {d : DataW H} : ∀ {ds : List (DataW H)}, d ∈ ds → ∀ n ∈ d.weights P e, n ∈ DataW.weightsAll P e ds
  | x :: ds, h, n, hn => by
    simp only [DataW.weightsAll, List.mem_append]
    rcases List.mem_cons.1 h with rfl | h
    · exact .inl hn
    · exact .inr (weights_all h n hn)
theorem four {α : Type} : ∀ {l : List α}, l.length = 4 → ∃ a b c d, l = [a, b, c, d]
  | [a, b, c, d], _ => ⟨a, b, c, d, rfl⟩
theorem wf_u64 {z : Int} (h : (Lit.int .u64 z).wf = true) : 0 ≤ z ∧ z < 18446744073709551616 := by
  simp only [Lit.wf, IntKind.min, IntKind.max, IntKind.signed, IntKind.bits] at h
  simp at h
  omega
theorem open_pr {w : World} {b o n : Nat} {cs : List Value} {x : DataW H × List MemPlace} (hc : w.cells? 0 ⟨b, o, none⟩ 4 = some cs) (h : DataW.trod enc Try.prog w 0 (fun _ => true) true n 37 cs = some x) :
    ∃ q : Pr, q.c < 18446744073709551616 ∧ q.k < 18446744073709551616 ∧ b < w.heap.size ∧ ∀ j u, (pcs q)[j]? = some u → w.cell? ⟨b, o + j, none⟩ = some u := by
  obtain ⟨_, _, hcell⟩ := World.cells?_some hc
  obtain ⟨xs, n', rfl, rfl, hcl, hxl, hf⟩ := DataW.trod_struct Try.underlying37 h
  have e4 : Try.prog.cellsOf 37 = 4 := by kernel_rfl
  have e1 : Try.prog.cellsOf 27 = 1 := by kernel_rfl
  have e2 : Try.prog.cellsOf 9 = 1 := by kernel_rfl
  have e3 : Try.prog.cellsOf 4 = 1 := by kernel_rfl
  rw [e4] at hcl
  obtain ⟨c0, c1, c2, c3, rfl⟩ := four hcl
  obtain ⟨x0, x1, x2, x3, rfl⟩ := four hxl
  have f0 : DataW.trod enc Try.prog w 0 (fun _ => true) true n' 27 (([c0, c1, c2, c3].drop 0).take (Try.prog.cellsOf 27)) = some x0 := hf 0 _ rfl
  have f1 : DataW.trod enc Try.prog w 0 (fun _ => true) true n' 27 (([c0, c1, c2, c3].drop 1).take (Try.prog.cellsOf 27)) = some x1 := hf 1 _ rfl
  have f2 : DataW.trod enc Try.prog w 0 (fun _ => true) true n' 9 (([c0, c1, c2, c3].drop 2).take (Try.prog.cellsOf 9)) = some x2 := hf 2 _ rfl
  have f3 : DataW.trod enc Try.prog w 0 (fun _ => true) true n' 4 (([c0, c1, c2, c3].drop 3).take (Try.prog.cellsOf 4)) = some x3 := hf 3 _ rfl
  rw [e1] at f0 f1
  rw [e2] at f2
  rw [e3] at f3
  obtain ⟨m0, g0, _, w0⟩ := DataW.trod_int Try.underlying27 f0
  obtain ⟨m1, g1, _, w1⟩ := DataW.trod_int Try.underlying27 f1
  obtain ⟨s2, g2, _, _⟩ := DataW.trod_string Try.underlying9 f2
  obtain ⟨q3, g3, _⟩ := DataW.trod_bool Try.underlying4 f3
  have e0' : c0 = .int .u64 m0 := (List.cons.inj g0).1
  have e1' : c1 = .int .u64 m1 := (List.cons.inj g1).1
  have e2' : c2 = .string s2 := (List.cons.inj g2).1
  have e3' : c3 = .bool q3 := (List.cons.inj g3).1
  clear g0 g1 g2 g3 hf f0 f1 f2 f3
  subst e0' e1' e2' e3'
  have w0 := wf_u64 w0
  have w1 := wf_u64 w1
  have hc' : ∀ i, i < 4 → w.cell? ⟨b, o + i, none⟩ = [Value.int .u64 m0, .int .u64 m1, .string s2, .bool q3][i]? := fun i hi => by
    have := hcell i hi
    rw [add_none] at this
    exact this
  refine ⟨⟨m0.toNat, m1.toNat, s2, q3⟩, by dsimp only; omega, by dsimp only; omega, cell_lt' (hc' 0 (by decide)), fun j u hu => ?_⟩
  have hj : j < 4 := (List.getElem?_eq_some_iff.1 hu).1
  rw [hc' j hj, ← hu]
  unfold pcs
  dsimp only
  rw [Int.toNat_of_nonneg w0.1, Int.toNat_of_nonneg w1.1]
instance : Inhabited Pr := ⟨⟨0, 0, ⟨#[]⟩, false⟩⟩
theorem open_prs {w : World} {v : Value} {d : DataW H} {ps : List MemPlace} {b0 : Nat} (hval : Value.okWide Try.prog w .any b0 34 v)
    (hd : DataW.Trod enc Try.prog w 0 (fun _ => true) true 34 v d ps) (hz : ∀ k ∈ d.weights Try.prog 34, k ≤ reachBytes) : ∃ l : List Pr, PrC w v l ∧ l.length ≤ 281474976710656 ∧ ∀ q ∈ l, q.c < 18446744073709551616 ∧ q.k < 18446744073709551616 := by
  have ht := Try.underlying34
  obtain ⟨a0, len0, cap0, rfl⟩ := okWide_slice ht hval
  obtain ⟨fuel, hf⟩ := hd
  rcases Go.Deep.open_slice ht hf with ⟨hcs, _⟩ | ⟨a, len, cap, m, n, D, Pl, hcs, _, hl, hlc, hmm, hx, hel⟩
  · have hcs : [Value.slice a0 len0 cap0] = [.slice none 0 0] := by simpa [Value.cells] using hcs
    simp only [List.cons.injEq, Value.slice.injEq, and_true] at hcs
    obtain ⟨rfl, rfl, rfl⟩ := hcs
    exact ⟨[], ⟨SRows.nil _ _, _, _, rfl, Nat.le_refl _⟩, by simp, fun q hq => by simp at hq⟩
  · have hcs : [Value.slice a0 len0 cap0] = [.slice (some a) len cap] := by simpa [Value.cells] using hcs
    simp only [List.cons.injEq, Value.slice.injEq, and_true] at hcs
    obtain ⟨rfl, rfl, rfl⟩ := hcs
    have hspot : a.spot = none := by
      simp only [Value.okWide, ht, Cell.okWide, Cell.ok] at hval
      exact hval.2.2.2.1
    obtain ⟨b, off, sp⟩ := a
    dsimp only at hspot
    subst hspot
    simp only [if_true] at hmm
    have hx1 : d = .slice ((List.range len0).map D) ((List.range (m - len0)).map fun j => D (len0 + j)) := (Prod.mk.inj hx).1
    have e4 : Try.prog.cellsOf 37 = 4 := by kernel_rfl
    have hS : ∀ i, i < len0 → ∃ q : Pr, q.c < 18446744073709551616 ∧ q.k < 18446744073709551616 ∧ b < w.heap.size ∧ ∀ j u, (pcs q)[j]? = some u → w.cell? ⟨b, off + i * 4 + j, none⟩ = some u := fun i hi => by
      obtain ⟨cs', h1, h2⟩ := hel i (by omega)
      rw [e4, add_none] at h1
      exact open_pr h1 h2
    obtain ⟨f, hf⟩ := Go.Deep.choose_lt hS
    have hlen : ((List.range len0).map f).length = len0 := by rw [List.length_map, List.length_range]
    refine ⟨(List.range len0).map f, ⟨⟨b, off, cap0, .inl (by rw [List.length_map, hlen]), fun i hi => ?_⟩, some ⟨b, off, none⟩, cap0, by rw [hlen], by rw [hlen]; omega⟩, ?_, fun q hq => ?_⟩
    · rw [List.length_map, hlen] at hi
      obtain ⟨_, _, h3, h4⟩ := hf i hi
      refine ⟨h3, fun j u hu => ?_⟩
      have e : ((List.range len0).map f).map pcs = (List.range len0).map fun i => pcs (f i) := List.map_map
      rw [List.getElem_of_eq e, List.getElem_map, List.getElem_range] at hu
      exact h4 j u hu
    · have h1 := hz ((((List.range len0).map D).length + ((List.range (m - len0)).map fun j => D (len0 + j)).length) * Try.prog.bytesOf 37) (by rw [hx1]; simp [DataW.weights, ht])
      have h2 := reachBytes_lt
      have h3 : Try.prog.bytesOf 37 = 40 := by kernel_rfl
      rw [h3] at h1
      simp only [List.length_map, List.length_range] at h1 ⊢
      omega
    · obtain ⟨i, hi, rfl⟩ := List.mem_map.1 hq
      have := hf i (List.mem_range.1 hi)
      exact ⟨this.1, this.2.1⟩
end
end Aw
end Go.Proofs.Ytoljcnlmockpcaa
