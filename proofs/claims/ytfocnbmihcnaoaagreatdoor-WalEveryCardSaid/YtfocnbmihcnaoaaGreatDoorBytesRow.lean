/- How a row opens an argument that is a slice of bytes, and how arguments that nobody has turned read again. -/
import Derived.Test.YtfocnbmihcnaoaaGreatDoorJPlaceToWDkRead
import Derived.ProofKit
import Derived.OpenShut
import Derived.Carry
import Derived.SizedLaws
namespace Go.Proofs.YtfocnbmihcnaoaaGreatDoor
namespace Wire
open Go Go.RowKit Go.ChangeShapes Go.WideShapes Sx
section
variable {H : Type} {enc : TypeId × Value → H} {P : Program}
theorem args_stay (hl : laidOutB P = true) {W W' : World} (hb : Below W.heap.size W W') : ∀ (ts : List TypeId) (vs : List Value) (ds : List (DataW H)) (ps : List MemPlace), (ts.all fun t => P.readableRec t && decide (t < P.types.size)) = true →
    DataW.TrodAll enc P W 0 (fun _ => true) true ts vs ds ps → DataW.TrodAll enc P W' 0 (fun b => decide (b < W.heap.size)) true ts vs ds ps
  | [], vs, ds, ps, _, h => by
    obtain ⟨rfl, rfl, rfl⟩ := trodAll_nil h
    exact trodAll_mk0
  | t :: ts, vs, ds, ps, hr, h => by
    have hlt := DataW.TrodAll.lt h
    obtain ⟨v, vs', d, ds', p, q, rfl, rfl, rfl, h1, h2⟩ := trodAll_cons h
    simp only [List.all_cons, Bool.and_eq_true, decide_eq_true_eq] at hr
    exact trodAll_cons_mk (Below.trod hl hr.1.1 hr.1.2 h1 hb (fun x hx => hlt x (by simp [hx]))) (args_stay hl hb ts vs' ds' q (by simpa using hr.2) h2)
theorem cell_lt' {w : World} {a : Addr} {v : Value} (h : w.cell? a = some v) : a.block < w.heap.size := by
  rcases Nat.lt_or_ge a.block w.heap.size with hl | hl
  · exact hl
  · simp [World.cell?, Array.getElem?_eq_none hl] at h
theorem toU8 (z : Int) (h : (Lit.int .u8 z).wf = true) : ((z.toNat.toUInt8).toNat : Int) = z := by
  simp only [Lit.wf, IntKind.min, IntKind.max, IntKind.signed, IntKind.bits] at h
  simp at h
  have : z.toNat < 256 := by omega
  simp [Nat.toUInt8, UInt8.toNat_ofNat']
  omega
theorem open_bytes {t e : TypeId} {w : World} {v : Value} {d : DataW H} {ps : List MemPlace} (ht : P.underlying t = some (.slice e)) (he : P.underlying e = some (.int .u8)) (hc : P.cellsOf e = 1) {b0 : Nat} (hval : Value.okWide P w .any b0 t v)
    (hd : DataW.Trod enc P w 0 (fun _ => true) true t v d ps) : ∃ l : List UInt8, Ints w .u8 v (nums l) ∧ (∃ x m c, v = .slice x m c ∧ m ≤ c) ∧ ((d = .nil ∧ l = []) ∨ ∃ es sp, d = .slice es sp ∧ es.length = l.length) := by
  obtain ⟨a0, len0, cap0, rfl⟩ := okWide_slice ht hval
  obtain ⟨fuel, hf⟩ := hd
  rcases open_ints ht he hc hf with ⟨hcs, hx⟩ | ⟨a, len, cap, zs, hcs, _, hl, hm, hz, hx, hcell, hwz⟩
  · have hcs : [Value.slice a0 len0 cap0] = [.slice none 0 0] := by simpa [Value.cells] using hcs
    simp only [List.cons.injEq, Value.slice.injEq, and_true] at hcs
    obtain ⟨rfl, rfl, rfl⟩ := hcs
    refine ⟨[], ⟨0, 0, 0, .inr ⟨⟨none, rfl⟩, rfl⟩, fun e => absurd rfl e, fun j hj => by simp [nums] at hj⟩, ⟨_, _, _, rfl, Nat.le_refl _⟩, .inl ⟨?_, rfl⟩⟩
    exact (Prod.mk.inj hx).1
  · have hcs : [Value.slice a0 len0 cap0] = [.slice (some a) len cap] := by simpa [Value.cells] using hcs
    simp only [List.cons.injEq, Value.slice.injEq, and_true] at hcs
    obtain ⟨rfl, rfl, rfl⟩ := hcs
    have hspot : a.spot = none := by
      simp only [Value.okWide, ht, Cell.okWide, Cell.ok] at hval
      exact hval.2.2.2.1
    obtain ⟨b, off, sp⟩ := a
    dsimp only at hspot
    subst hspot
    simp only [if_true] at hz
    have hlen : (zs.take len0).length = len0 := by rw [List.length_take]; omega
    have hnums : nums ((zs.take len0).map fun z => z.toNat.toUInt8) = zs.take len0 := by
      unfold nums
      rw [List.map_map]
      refine (List.map_congr_left fun z hz' => ?_).trans (List.map_id _)
      exact toU8 z (hwz z (List.mem_of_mem_take hz'))
    refine ⟨(zs.take len0).map fun z => z.toNat.toUInt8, ?_, ⟨_, _, _, rfl, hl⟩, .inr ⟨_, _, (Prod.mk.inj hx).1, ?_⟩⟩
    · rw [hnums]
      refine ⟨b, off, cap0, .inl (by rw [hlen]), fun hne => ?_, fun j hj => ?_⟩
      · have h0 : 0 < zs.length := by
          have : 0 < (zs.take len0).length := List.length_pos_iff.2 hne
          rw [hlen] at this
          omega
        have := hcell 0 h0
        exact cell_lt' this
      · have hj' : j < zs.length := by rw [hlen] at hj; omega
        have := hcell j hj'
        rw [add_none] at this
        rw [this]
        simp [List.getD, hj']
    · simp [Go.ChangeShapes.lits]
end
end Wire
end Go.Proofs.YtfocnbmihcnaoaaGreatDoor
