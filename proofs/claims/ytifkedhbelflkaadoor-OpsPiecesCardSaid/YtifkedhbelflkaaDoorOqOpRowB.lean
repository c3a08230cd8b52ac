/- How a row opens an argument that is a slice of bytes, as numbers. -/
import Derived.Test.YtifkedhbelflkaaDoorOqSxC
import Derived.ProofKit
import Derived.OpenShut
import Derived.Carry
import Derived.SizedLaws
namespace Go.Proofs.YtifkedhbelflkaaDoor
namespace Op
open Go Go.RowKit Go.ChangeShapes Go.WideShapes Sx
section
variable {H : Type} {enc : TypeId × Value → H} {P : Program}
theorem cell_ltB {w : World} {a : Addr} {v : Value} (h : w.cell? a = some v) : a.block < w.heap.size := by
  rcases Nat.lt_or_ge a.block w.heap.size with hl | hl
  · exact hl
  · simp [World.cell?, Array.getElem?_eq_none hl] at h
theorem open_u8 {t e : TypeId} {w : World} {v : Value} {d : DataW H} {ps : List MemPlace} (ht : P.underlying t = some (.slice e)) (he : P.underlying e = some (.int .u8)) (hc : P.cellsOf e = 1) {b0 : Nat} (hval : Value.okWide P w .any b0 t v)
    (hd : DataW.Trod enc P w 0 (fun _ => true) true t v d ps) : ∃ (zs : List Int) (a : Option Addr) (c : Nat), v = .slice a zs.length c ∧ Ints w .u8 (.slice a zs.length c) zs ∧ ∀ z ∈ zs, 0 ≤ z ∧ z < 256 := by
  obtain ⟨a0, len0, cap0, rfl⟩ := okWide_slice ht hval
  obtain ⟨fuel, hf⟩ := hd
  rcases open_ints ht he hc hf with ⟨hcs, hx⟩ | ⟨a, len, cap, zs, hcs, _, hl, hm, hz, hx, hcell, hwz⟩
  · have hcs : [Value.slice a0 len0 cap0] = [.slice none 0 0] := by simpa [Value.cells] using hcs
    simp only [List.cons.injEq, Value.slice.injEq, and_true] at hcs
    obtain ⟨rfl, rfl, rfl⟩ := hcs
    exact ⟨[], none, 0, rfl, ⟨0, 0, 0, .inr ⟨⟨none, rfl⟩, rfl⟩, fun e => absurd rfl e, fun j hj => absurd hj (Nat.not_lt_zero _)⟩, fun z hz => by cases hz⟩
  · have hcs : [Value.slice a0 len0 cap0] = [.slice (some a) len cap] := by simpa [Value.cells] using hcs
    simp only [List.cons.injEq, Value.slice.injEq, and_true] at hcs
    obtain ⟨rfl, rfl, rfl⟩ := hcs
    have hspot : a.spot = none := by
      simp only [Value.okWide, ht, Cell.okWide, Cell.ok] at hval
      exact hval.2.2.2.1
    obtain ⟨b, off, sp⟩ := a
    dsimp only at hspot
    subst hspot
    simp only [if_true] at hz
    have hlen : (zs.take len0).length = len0 := by rw [List.length_take]; omega
    refine ⟨zs.take len0, some ⟨b, off, none⟩, cap0, by rw [hlen], ⟨b, off, cap0, .inl rfl, fun hne => ?_, fun j hj => ?_⟩, fun z hz' => ?_⟩
    · have : 0 < zs.length := by
        rcases Nat.eq_zero_or_pos zs.length with h0 | h0
        · exact absurd (List.eq_nil_of_length_eq_zero (by rw [hlen]; omega)) hne
        · exact h0
      exact cell_ltB (hcell 0 this)
    · have hj' : j < zs.length := by rw [hlen] at hj; omega
      have := hcell j hj'
      rw [add_none] at this
      rw [this]
      simp [List.getD, hj']
    · have := hwz z (List.mem_of_mem_take hz')
      simp only [Lit.wf, IntKind.min, IntKind.max, IntKind.signed, IntKind.bits] at this
      simp at this
      omega
end
end Op
end Go.Proofs.YtifkedhbelflkaaDoor
