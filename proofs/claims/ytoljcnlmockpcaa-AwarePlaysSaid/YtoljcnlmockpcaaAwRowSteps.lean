/- How a row opens an argument that is a script of steps. -/
import Derived.Test.YtoljcnlmockpcaaPl
import Derived.Test.YtoljcnlmockpcaaBytesRow
import Derived.Deep.Slices
namespace Go.Proofs.Ytoljcnlmockpcaa
set_option maxRecDepth 100000
namespace Aw
open Go Go.RowKit Go.ChangeShapes Go.WideShapes Sx Wire
section
variable {H : Type} {enc : TypeId × Value → H} {P : Program}
/-- Bytes within: the slice, that may be cut. -/
theorem open_bsc {t e : TypeId} {w : World} {fuel : Nat} {cs : List Value} {x : DataW H × List MemPlace} (ht : P.underlying t = some (.slice e)) (he : P.underlying e = some (.int .u8)) (hc : P.cellsOf e = 1)
    (h : DataW.trod enc P w 0 (fun _ => true) true fuel t cs = some x) : ∃ (v : Value) (l : List UInt8), cs = [v] ∧ BsC w v l ∧ ((x.1 = .nil ∧ l = []) ∨ ∃ es sp, x.1 = .slice es sp ∧ es.length = l.length) := by
  rcases open_ints ht he hc h with ⟨hcs, hx⟩ | ⟨a, len, cap, zs, hcs, _, hl, hm, hz, hx, hcell, hwz⟩
  · exact ⟨_, [], hcs, BsC.nil _, .inl ⟨by rw [hx], rfl⟩⟩
  · simp only [if_true] at hz
    have hlen : (zs.take len).length = len := by rw [List.length_take]; omega
    have hnums : nums ((zs.take len).map fun z => z.toNat.toUInt8) = zs.take len := by
      unfold nums
      rw [List.map_map]
      refine (List.map_congr_left fun z hz' => ?_).trans (List.map_id _)
      exact toU8 z (hwz z (List.mem_of_mem_take hz'))
    refine ⟨_, (zs.take len).map fun z => z.toNat.toUInt8, hcs, ⟨?_, a, cap, by rw [List.length_map, hlen], by rw [List.length_map, hlen]; exact hl⟩, .inr ⟨_, _, by rw [hx], ?_⟩⟩
    · rw [hnums]
      by_cases h0 : cap = 0
      · subst h0
        obtain rfl : len = 0 := by omega
        exact ⟨0, 0, 0, .inr ⟨⟨some a, rfl⟩, by rw [List.take_zero]⟩, fun e => absurd (List.take_zero ..) e, fun j hj => by rw [hlen] at hj; exact absurd hj (Nat.not_lt_zero _)⟩
      · have hsp := World.cell?_spot (hcell 0 (by omega))
        obtain ⟨b, off, sp⟩ := a
        have hsp : sp = none := hsp
        subst hsp
        refine ⟨b, off, cap, .inl (by rw [hlen]), fun _ => cell_lt' (hcell 0 (by omega)), fun j hj => ?_⟩
        have hj' : j < zs.length := by rw [hlen] at hj; omega
        have := hcell j hj'
        rw [add_none] at this
        rw [this]
        simp [List.getD, hj']
    · simp [Go.ChangeShapes.lits]
theorem weights_allS {e : TypeId} {d : DataW H} : ∀ {ds : List (DataW H)}, d ∈ ds → ∀ n ∈ d.weights P e, n ∈ DataW.weightsAll P e ds
  | x :: ds, h, n, hn => by
    simp only [DataW.weightsAll, List.mem_append]
    rcases List.mem_cons.1 h with rfl | h
    · exact .inl hn
    · exact .inr (weights_allS h n hn)
end
section
variable {H : Type} {enc : TypeId × Value → H}
abbrev TS : TypeId := 61
theorem five {α : Type} : ∀ {l : List α}, l.length = 5 → ∃ a b c d e, l = [a, b, c, d, e]
  | [a, b, c, d, e], _ => ⟨a, b, c, d, e, rfl⟩
theorem slice_boundS {t e : TypeId} {d : DataW H} {m : Nat} (ht : Try.prog.underlying t = some (.slice e)) (hb : 0 < Try.prog.bytesOf e) (h : (d = .nil ∧ m = 0) ∨ ∃ es sp, d = .slice es sp ∧ es.length = m) (hz : ∀ n ∈ d.weights Try.prog t, n ≤ reachBytes) : m ≤ 281474976710656 := by
  have h2 := reachBytes_lt
  rcases h with ⟨_, rfl⟩ | ⟨es, sp, rfl, rfl⟩
  · omega
  · have h1 := hz ((es.length + sp.length) * Try.prog.bytesOf e) (by simp [DataW.weights, ht])
    have h3 := Nat.le_mul_of_pos_right (es.length + sp.length) hb
    omega
theorem open_step {w : World} {b o n : Nat} {cs : List Value} {x : DataW H × List MemPlace} (hc : w.cells? 0 ⟨b, o, none⟩ 5 = some cs) (h : DataW.trod enc Try.prog w 0 (fun _ => true) true n TS cs = some x)
    (hz : ∀ k ∈ x.1.weights Try.prog TS, k ≤ reachBytes) : ∃ s, StpOk w s ∧ b < w.heap.size ∧ ∀ j u, (scs s)[j]? = some u → w.cell? ⟨b, o + j, none⟩ = some u := by
  obtain ⟨_, _, hcell⟩ := World.cells?_some hc
  obtain ⟨xs, n', rfl, rfl, hcl, hxl, hf⟩ := DataW.trod_struct Try.underlying61 h
  have e6 : Try.prog.cellsOf TS = 5 := by kernel_rfl
  have e1 : Try.prog.cellsOf 3 = 1 := by kernel_rfl
  have e2 : Try.prog.cellsOf 9 = 1 := by kernel_rfl
  have e3 : Try.prog.cellsOf 23 = 1 := by kernel_rfl
  have e5 : Try.prog.cellsOf 5 = 1 := by kernel_rfl
  rw [e6] at hcl
  obtain ⟨c0, c1, c2, c3, c4, rfl⟩ := five hcl
  obtain ⟨x0, x1, x2, x3, x4, rfl⟩ := five hxl
  have f0 : DataW.trod enc Try.prog w 0 (fun _ => true) true n' 3 (([c0, c1, c2, c3, c4].drop 0).take (Try.prog.cellsOf 3)) = some x0 := hf 0 _ rfl
  have f1 : DataW.trod enc Try.prog w 0 (fun _ => true) true n' 3 (([c0, c1, c2, c3, c4].drop 1).take (Try.prog.cellsOf 3)) = some x1 := hf 1 _ rfl
  have f2 : DataW.trod enc Try.prog w 0 (fun _ => true) true n' 3 (([c0, c1, c2, c3, c4].drop 2).take (Try.prog.cellsOf 3)) = some x2 := hf 2 _ rfl
  have f3 : DataW.trod enc Try.prog w 0 (fun _ => true) true n' 9 (([c0, c1, c2, c3, c4].drop 3).take (Try.prog.cellsOf 9)) = some x3 := hf 3 _ rfl
  have f4 : DataW.trod enc Try.prog w 0 (fun _ => true) true n' 23 (([c0, c1, c2, c3, c4].drop 4).take (Try.prog.cellsOf 23)) = some x4 := hf 4 _ rfl
  rw [e1] at f0 f1 f2
  rw [e2] at f3
  rw [e3] at f4
  have hw : ∀ (j : Nat) (t : TypeId) (d : DataW H), [3, 3, 3, 9, 23][j]? = some t → [x0.1, x1.1, x2.1, x3.1, x4.1][j]? = some d → ∀ k ∈ d.weights Try.prog t, k ≤ reachBytes := by
    intro j t d ht hd k hk
    refine hz k ?_
    have := DataW.weights_mem_each ht hd k hk
    simp only [DataW.weights, Try.underlying61]
    exact this
  clear hf hz
  obtain ⟨m0, g0, _, _⟩ := DataW.trod_int Try.underlying3 f0
  obtain ⟨m1, g1, _, _⟩ := DataW.trod_int Try.underlying3 f1
  obtain ⟨m2, g2, _, _⟩ := DataW.trod_int Try.underlying3 f2
  obtain ⟨s3, g3, r3, _⟩ := DataW.trod_string Try.underlying9 f3
  obtain ⟨v4, l4, g4, by4, z4⟩ := open_bsc Try.underlying23 Try.underlying5 e5 f4
  have e0' : c0 = .int .i64 m0 := (List.cons.inj g0).1
  have e1' : c1 = .int .i64 m1 := (List.cons.inj g1).1
  have e2' : c2 = .int .i64 m2 := (List.cons.inj g2).1
  have e3' : c3 = .string s3 := (List.cons.inj g3).1
  have e4' : c4 = v4 := (List.cons.inj g4).1
  clear g0 g1 g2 g3 g4
  subst e0' e1' e2' e3' e4'
  have k3 := hw 3 _ _ rfl rfl
  rw [r3] at k3
  have k3 := k3 s3.data.toList.length (by rw [DataW.weights]; exact List.mem_singleton.2 rfl)
  have k4 := slice_boundS (m := l4.length) Try.underlying23 (by decide +kernel) (z4.imp (fun h => ⟨h.1, by rw [h.2]; rfl⟩) id) (hw 4 _ _ rfl rfl)
  have hr := reachBytes_lt
  have q3 : s3.data.toList.length = s3.size := rfl
  have hcell : ∀ i, i < 5 → w.cell? ⟨b, o + i, none⟩ = [Value.int .i64 m0, .int .i64 m1, .int .i64 m2, .string s3, c4][i]? := fun i hi => by
    have := hcell i hi
    rw [add_none] at this
    exact this
  refine ⟨⟨m0, m1, m2, s3, c4, l4⟩, ⟨by4, ?_, k4⟩, cell_lt' (hcell 0 (by decide)), fun j u hu => ?_⟩
  · dsimp only
    omega
  · have hj : j < 5 := (List.getElem?_eq_some_iff.1 hu).1
    rw [hcell j hj, ← hu]
    rfl
instance : Inhabited Stp := ⟨⟨0, 0, 0, ⟨#[]⟩, .slice none 0 0, []⟩⟩
theorem open_steps {w : World} {v : Value} {d : DataW H} {ps : List MemPlace} {b0 : Nat} (hval : Value.okWide Try.prog w .any b0 55 v)
    (hd : DataW.Trod enc Try.prog w 0 (fun _ => true) true 55 v d ps) (hz : ∀ k ∈ d.weights Try.prog 55, k ≤ reachBytes) : ∃ l, Stps w v l ∧ l.length ≤ 9223372036854775807 := by
  have ht := Try.underlying55
  obtain ⟨a0, len0, cap0, rfl⟩ := okWide_slice ht hval
  obtain ⟨fuel, hf⟩ := hd
  rcases Go.Deep.open_slice ht hf with ⟨hcs, _⟩ | ⟨a, len, cap, m, n, D, Pl, hcs, _, hl, _, hmm, hx, hel⟩
  · have hcs : [Value.slice a0 len0 cap0] = [.slice none 0 0] := by simpa [Value.cells] using hcs
    simp only [List.cons.injEq, Value.slice.injEq, and_true] at hcs
    obtain ⟨rfl, rfl, rfl⟩ := hcs
    exact ⟨[], ⟨SRows.nil _ _, fun x hx => by cases hx⟩, by simp⟩
  · have hcs : [Value.slice a0 len0 cap0] = [.slice (some a) len cap] := by simpa [Value.cells] using hcs
    simp only [List.cons.injEq, Value.slice.injEq, and_true] at hcs
    obtain ⟨rfl, rfl, rfl⟩ := hcs
    have hspot : a.spot = none := by
      simp only [Value.okWide, ht, Cell.okWide, Cell.ok] at hval
      exact hval.2.2.2.1
    obtain ⟨b, off, sp⟩ := a
    dsimp only at hspot
    subst hspot
    simp only [if_true] at hmm
    have hx1 : d = .slice ((List.range len0).map D) ((List.range (m - len0)).map fun j => D (len0 + j)) := (Prod.mk.inj hx).1
    have e6 : Try.prog.cellsOf 61 = 5 := by kernel_rfl
    have hS : ∀ i, i < len0 → ∃ s, StpOk w s ∧ b < w.heap.size ∧ ∀ j u, (scs s)[j]? = some u → w.cell? ⟨b, off + i * 5 + j, none⟩ = some u := fun i hi => by
      obtain ⟨cs', h1, h2⟩ := hel i (by omega)
      rw [e6, add_none] at h1
      refine open_step h1 h2 fun k hk => hz k ?_
      rw [hx1]
      simp only [DataW.weights, ht, List.mem_cons, List.mem_append]
      exact .inr (.inl (weights_allS (List.mem_map.2 ⟨i, List.mem_range.2 hi, rfl⟩) k hk))
    obtain ⟨f, hf⟩ := Go.Deep.choose_lt hS
    have hlen : ((List.range len0).map f).length = len0 := by rw [List.length_map, List.length_range]
    refine ⟨(List.range len0).map f, ⟨⟨b, off, cap0, .inl (by rw [List.length_map, hlen]), fun i hi => ?_⟩, fun x hx => ?_⟩, ?_⟩
    · rw [List.length_map, hlen] at hi
      obtain ⟨_, h3, h4⟩ := hf i hi
      refine ⟨h3, fun j u hu => ?_⟩
      have e : ((List.range len0).map f).map scs = (List.range len0).map fun i => scs (f i) := List.map_map
      rw [List.getElem_of_eq e, List.getElem_map, List.getElem_range] at hu
      exact h4 j u hu
    · obtain ⟨i, hi, rfl⟩ := List.mem_map.1 hx
      exact (hf i (List.mem_range.1 hi)).1
    · have h1 := hz ((((List.range len0).map D).length + ((List.range (m - len0)).map fun j => D (len0 + j)).length) * Try.prog.bytesOf 61) (by rw [hx1]; simp [DataW.weights, ht])
      have h2 := reachBytes_lt
      have h3 : Try.prog.bytesOf 61 = 64 := by kernel_rfl
      rw [h3] at h1
      simp only [List.length_map, List.length_range] at h1 ⊢
      omega
end
end Aw
end Go.Proofs.Ytoljcnlmockpcaa
