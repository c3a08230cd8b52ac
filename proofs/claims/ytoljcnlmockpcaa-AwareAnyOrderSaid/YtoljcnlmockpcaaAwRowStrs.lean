/- How a row opens an argument that is a slice of strings. -/
import Derived.Test.YtoljcnlmockpcaaAwAny
import Derived.Test.YtoljcnlmockpcaaBytesRow
import Derived.SliceStrings
namespace Go.Proofs.Ytoljcnlmockpcaa
namespace Aw
open Go Go.RowKit Go.ChangeShapes Go.WideShapes Sx Wire
section
variable {H : Type} {enc : TypeId × Value → H} {P : Program}
theorem open_strs {t e : TypeId} {w : World} {v : Value} {d : DataW H} {ps : List MemPlace} (ht : P.underlying t = some (.slice e)) (he : P.underlying e = some .string) (hc : P.cellsOf e = 1) {b0 : Nat} (hval : Value.okWide P w .any b0 t v)
    (hd : DataW.Trod enc P w 0 (fun _ => true) true t v d ps) : ∃ l : List ByteArray, Strs w v l ∧ l.length ≤ 9223372036854775807 := by
  obtain ⟨a0, len0, cap0, rfl⟩ := okWide_slice ht hval
  obtain ⟨fuel, hf⟩ := hd
  rcases open_strings ht he hc hf with ⟨hcs, hx⟩ | ⟨a, len, cap, zs, hcs, _, hl, hm, hz, hx, hcell, hwz⟩
  · have hcs : [Value.slice a0 len0 cap0] = [.slice none 0 0] := by simpa [Value.cells] using hcs
    simp only [List.cons.injEq, Value.slice.injEq, and_true] at hcs
    obtain ⟨rfl, rfl, rfl⟩ := hcs
    exact ⟨[], SRows.nil _ _, Nat.zero_le _⟩
  · have hcs : [Value.slice a0 len0 cap0] = [.slice (some a) len cap] := by simpa [Value.cells] using hcs
    simp only [List.cons.injEq, Value.slice.injEq, and_true] at hcs
    obtain ⟨rfl, rfl, rfl⟩ := hcs
    have hspot : a.spot = none := by
      simp only [Value.okWide, ht, Cell.okWide, Cell.ok] at hval
      exact hval.2.2.2.1
    obtain ⟨b, off, sp⟩ := a
    dsimp only at hspot
    subst hspot
    simp only [if_true] at hz
    have hlen : (zs.take len0).length = len0 := by rw [List.length_take]; omega
    refine ⟨zs.take len0, ⟨b, off, cap0, .inl (by rw [List.length_map, hlen]), fun i hi => ?_⟩, by rw [hlen]; simp only [maxLen] at hm; omega⟩
    have hi' : i < len0 := by rw [List.length_map, hlen] at hi; exact hi
    have hiz : i < zs.length := by omega
    have := hcell i hiz
    rw [add_none] at this
    refine ⟨cell_lt' this, fun j u hu => ?_⟩
    rw [List.getElem_map] at hu
    have hj : j = 0 := by
      have := (List.getElem?_eq_some_iff.1 hu).1
      simp at this
      exact this
    subst hj
    rw [Nat.mul_one, Nat.add_zero, this]
    simp at hu
    rw [← hu]
    simp [List.getD, hiz]
end
end Aw
end Go.Proofs.Ytoljcnlmockpcaa
