/- How a row opens an argument that is a list of operations. -/
import Derived.Test.YtmgipnckojopcaaGreatPcMkRowO
namespace Go.Proofs.YtmgipnckojopcaaGreat
set_option maxRecDepth 100000
namespace Mk
open Go Go.RowKit Go.ChangeShapes Go.WideShapes Sx Sq Val
section
variable {H : Type} {enc : TypeId × Value → H} {w : World} {n : Nat}
instance : Inhabited Mo := ⟨⟨(0, 0), 0, 0, (0, 0), (0, 0), ⟨#[]⟩, default, ⟨#[]⟩, (0, 0), ⟨(0, 0), false⟩, ⟨(0, 0), false⟩⟩⟩
/-- An operation at its place in a list. -/
theorem open_opm {b o : Nat} {cs : List Value} {x : DataW H × List MemPlace} (hc : w.cells? 0 ⟨b, o, none⟩ 22 = some cs) (hd : DataW.trod enc Tryz.prog w 0 (fun _ => true) true n 47 cs = some x)
    (hz : ∀ k ∈ x.1.weights Tryz.prog 47, k ≤ reachBytes) : ∃ q : Mo, (q.v.Fit ∧ q.key.size < 140737488355328 ∧ -9223372036854775808 ≤ q.k ∧ q.k < 9223372036854775808) ∧ b < w.heap.size ∧ ∀ j u, (ocs q)[j]? = some u → w.cell? ⟨b, o + j, none⟩ = some u := by
  obtain ⟨_, _, hcell⟩ := World.cells?_some hc
  obtain ⟨q, rfl, hq⟩ := open_opc hd hz
  have hc' : ∀ i, i < 22 → w.cell? ⟨b, o + i, none⟩ = (ocs q)[i]? := fun i hi => by
    have := hcell i hi
    rw [add_none] at this
    exact this
  refine ⟨q, hq, cell_lt (hc' 0 (by decide)), fun j u hu => ?_⟩
  have hj : j < 22 := (List.getElem?_eq_some_iff.1 hu).1
  rw [hc' j hj, ← hu]
theorem open_ops {v : Value} {d : DataW H} {ps : List MemPlace} {b0 : Nat} (hval : Value.okWide Tryz.prog w .any b0 22 v)
    (hd : DataW.Trod enc Tryz.prog w 0 (fun _ => true) true 22 v d ps) (hz : ∀ k ∈ d.weights Tryz.prog 22, k ≤ reachBytes) :
    ∃ (l : List Mo) (a : Option Addr) (c : Nat), v = .slice a l.length c ∧ SRows w 22 (.slice a l.length c) (l.map ocs) ∧ (∀ q ∈ l, q.v.Fit ∧ q.key.size < 140737488355328 ∧ -9223372036854775808 ≤ q.k ∧ q.k < 9223372036854775808) ∧ l.length ≤ c ∧ l.length ≤ 281474976710656 := by
  have ht := Tryz.underlying22
  obtain ⟨a0, len0, cap0, rfl⟩ := okWide_slice ht hval
  obtain ⟨fuel, hf⟩ := hd
  rcases Go.Deep.open_slice ht hf with ⟨hcs, _⟩ | ⟨a, len, cap, m, n, D, Pl, hcs, _, hl, hlc, hmm, hx, hel⟩
  · have hcs : [Value.slice a0 len0 cap0] = [.slice none 0 0] := by simpa [Value.cells] using hcs
    simp only [List.cons.injEq, Value.slice.injEq, and_true] at hcs
    obtain ⟨rfl, rfl, rfl⟩ := hcs
    exact ⟨[], none, 0, rfl, SRows.nil _ _, fun q hq => by simp at hq, Nat.le_refl _, Nat.zero_le _⟩
  · have hcs : [Value.slice a0 len0 cap0] = [.slice (some a) len cap] := by simpa [Value.cells] using hcs
    simp only [List.cons.injEq, Value.slice.injEq, and_true] at hcs
    obtain ⟨rfl, rfl, rfl⟩ := hcs
    have hspot : a.spot = none := by
      simp only [Value.okWide, ht, Cell.okWide, Cell.ok] at hval
      exact hval.2.2.2.1
    obtain ⟨b, off, sp⟩ := a
    dsimp only at hspot
    subst hspot
    simp only [if_true] at hmm
    have hx1 : d = .slice ((List.range len0).map D) ((List.range (m - len0)).map fun j => D (len0 + j)) := (Prod.mk.inj hx).1
    have e22 : Tryz.prog.cellsOf 47 = 22 := by kernel_rfl
    have hlen2 : len0 ≤ 281474976710656 := by
      have h1 := hz ((((List.range len0).map D).length + ((List.range (m - len0)).map fun j => D (len0 + j)).length) * Tryz.prog.bytesOf 47) (by
        rw [hx1]
        simp only [DataW.weights, ht, List.mem_cons, true_or])
      have h2 := reachBytes_lt
      have h3 : 1 ≤ Tryz.prog.bytesOf 47 := by decide +kernel
      have h4 := Nat.le_mul_of_pos_right (((List.range len0).map D).length + ((List.range (m - len0)).map fun j => D (len0 + j)).length) h3
      rw [List.length_map, List.length_range] at h1 h4
      omega
    have hS : ∀ i, i < len0 → ∃ q : Mo, (q.v.Fit ∧ q.key.size < 140737488355328 ∧ -9223372036854775808 ≤ q.k ∧ q.k < 9223372036854775808) ∧ b < w.heap.size ∧ ∀ j u, (ocs q)[j]? = some u → w.cell? ⟨b, off + i * 22 + j, none⟩ = some u := fun i hi => by
      obtain ⟨cs', h1, h2⟩ := hel i (by omega)
      rw [e22, add_none] at h1
      refine open_opm h1 h2 fun k hk => hz k ?_
      rw [hx1]
      simp only [DataW.weights, ht, List.mem_cons, List.mem_append]
      exact .inr (.inl (weights_all (List.mem_map.2 ⟨i, List.mem_range.2 hi, rfl⟩) k hk))
    obtain ⟨f, hf⟩ := Go.Deep.choose_lt hS
    have hlen : ((List.range len0).map f).length = len0 := by rw [List.length_map, List.length_range]
    refine ⟨(List.range len0).map f, some ⟨b, off, none⟩, cap0, by rw [hlen], ⟨b, off, cap0, .inl (by simp only [List.length_map]), fun i hi => ?_⟩, fun q hq => ?_, by rw [hlen]; exact hl, by rw [hlen]; exact hlen2⟩
    · rw [List.length_map, hlen] at hi
      obtain ⟨_, h3, h4⟩ := hf i hi
      refine ⟨h3, fun j u hu => ?_⟩
      have e : ((List.range len0).map f).map ocs = (List.range len0).map fun i => ocs (f i) := List.map_map
      rw [List.getElem_of_eq e, List.getElem_map, List.getElem_range] at hu
      exact h4 j u hu
    · obtain ⟨i, hi, rfl⟩ := List.mem_map.1 hq
      exact (hf i (List.mem_range.1 hi)).1
end
end Mk
end Go.Proofs.YtmgipnckojopcaaGreat
