/- How a row opens an argument that is a script of steps. -/
import Derived.Test.YtgcklcpbmlibdaaDkStep
import Derived.Test.YtgcklcpbmlibdaaDkRow
import Derived.Deep.Slices
namespace Go.Proofs.Ytgcklcpbmlibdaa
set_option maxRecDepth 100000
namespace Dk
open Go Go.RowKit Go.ChangeShapes Go.WideShapes Sx
section
variable {H : Type} {enc : TypeId × Value → H} {P : Program}
theorem open_by {t e : TypeId} {w : World} {fuel : Nat} {cs : List Value} {x : DataW H × List MemPlace} (ht : P.underlying t = some (.slice e)) (he : P.underlying e = some (.int .u8)) (hc : P.cellsOf e = 1)
    (h : DataW.trod enc P w 0 (fun _ => true) true fuel t cs = some x) : ∃ (v : Value) (l : List UInt8), cs = [v] ∧ By w v l ∧ ((x.1 = .nil ∧ l = []) ∨ ∃ es sp, x.1 = .slice es sp ∧ es.length = l.length) := by
  rcases open_ints ht he hc h with ⟨hcs, hx⟩ | ⟨a, len, cap, zs, hcs, _, hl, hm, hz, hx, hcell, hwz⟩
  · exact ⟨_, [], hcs, .inr ⟨rfl, _, _, rfl⟩, .inl ⟨by rw [hx], rfl⟩⟩
  · simp only [if_true] at hz
    have hlen : (zs.take len).length = len := by rw [List.length_take]; omega
    have hnums : nums ((zs.take len).map fun z => z.toNat.toUInt8) = zs.take len := by
      unfold nums
      rw [List.map_map]
      refine (List.map_congr_left fun z hz' => ?_).trans (List.map_id _)
      exact toU8 z (hwz z (List.mem_of_mem_take hz'))
    refine ⟨_, (zs.take len).map fun z => z.toNat.toUInt8, hcs, ?_, .inr ⟨_, _, by rw [hx], ?_⟩⟩
    · by_cases h0 : len = 0
      · subst h0
        exact .inr ⟨by simp, _, _, rfl⟩
      · refine .inl ?_
        rw [hnums]
        have hsp := World.cell?_spot (hcell 0 (by omega))
        obtain ⟨b, off, sp⟩ := a
        have hsp : sp = none := hsp
        subst hsp
        refine ⟨b, off, cap, .inl (by rw [hlen]), fun _ => ?_, fun j hj => ?_⟩
        · exact cell_lt' (hcell 0 (by omega))
        · have hj' : j < zs.length := by rw [hlen] at hj; omega
          have := hcell j hj'
          rw [add_none] at this
          rw [this]
          simp [List.getD, hj']
    · simp [Go.ChangeShapes.lits]
theorem open_cut {t e : TypeId} {k : IntKind} {w : World} {fuel : Nat} {cs : List Value} {x : DataW H × List MemPlace} (ht : P.underlying t = some (.slice e)) (he : P.underlying e = some (.int k)) (hc : P.cellsOf e = 1)
    (h : DataW.trod enc P w 0 (fun _ => true) true fuel t cs = some x) : ∃ (a : Option Addr) (m c : Nat), cs = [.slice a m c] ∧ ((x.1 = .nil ∧ m = 0) ∨ ∃ es sp, x.1 = .slice es sp ∧ es.length = m) := by
  rcases open_ints ht he hc h with ⟨hcs, hx⟩ | ⟨a, len, cap, zs, hcs, _, hl, hm, hz, hx, hcell, hwz⟩
  · exact ⟨_, _, _, hcs, .inl ⟨by rw [hx], rfl⟩⟩
  · simp only [if_true] at hz
    refine ⟨_, _, _, hcs, .inr ⟨_, _, by rw [hx], ?_⟩⟩
    simp [Go.ChangeShapes.lits]
    omega
theorem weights_all {e : TypeId} {d : DataW H} : ∀ {ds : List (DataW H)}, d ∈ ds → ∀ n ∈ d.weights P e, n ∈ DataW.weightsAll P e ds
  | x :: ds, h, n, hn => by
    simp only [DataW.weightsAll, List.mem_append]
    rcases List.mem_cons.1 h with rfl | h
    · exact .inl hn
    · exact .inr (weights_all h n hn)
end
section
variable {H : Type} {enc : TypeId × Value → H}
abbrev TS : TypeId := 48
theorem six {α : Type} : ∀ {l : List α}, l.length = 6 → ∃ a b c d e f, l = [a, b, c, d, e, f]
  | [a, b, c, d, e, f], _ => ⟨a, b, c, d, e, f, rfl⟩
theorem slice_bound {t e : TypeId} {d : DataW H} {m : Nat} (ht : Try.prog.underlying t = some (.slice e)) (hb : 0 < Try.prog.bytesOf e) (h : (d = .nil ∧ m = 0) ∨ ∃ es sp, d = .slice es sp ∧ es.length = m) (hz : ∀ n ∈ d.weights Try.prog t, n ≤ reachBytes) : m ≤ 281474976710656 := by
  have h2 := reachBytes_lt
  rcases h with ⟨_, rfl⟩ | ⟨es, sp, rfl, rfl⟩
  · omega
  · have h1 := hz ((es.length + sp.length) * Try.prog.bytesOf e) (by simp [DataW.weights, ht])
    have h3 := Nat.le_mul_of_pos_right (es.length + sp.length) hb
    omega
theorem open_step {w : World} {b o n : Nat} {cs : List Value} {x : DataW H × List MemPlace} (hc : w.cells? 0 ⟨b, o, none⟩ 6 = some cs) (h : DataW.trod enc Try.prog w 0 (fun _ => true) true n TS cs = some x)
    (hz : ∀ k ∈ x.1.weights Try.prog TS, k ≤ reachBytes) : ∃ s, StAt w b o s := by
  obtain ⟨_, _, hcell⟩ := World.cells?_some hc
  obtain ⟨xs, n', rfl, rfl, hcl, hxl, hf⟩ := DataW.trod_struct Try.underlying48 h
  have e6 : Try.prog.cellsOf TS = 6 := by kernel_rfl
  have e1 : Try.prog.cellsOf 3 = 1 := by kernel_rfl
  have e2 : Try.prog.cellsOf 9 = 1 := by kernel_rfl
  have e3 : Try.prog.cellsOf 22 = 1 := by kernel_rfl
  have e4 : Try.prog.cellsOf 32 = 1 := by kernel_rfl
  have e5 : Try.prog.cellsOf 5 = 1 := by kernel_rfl
  rw [e6] at hcl
  obtain ⟨c0, c1, c2, c3, c4, c5, rfl⟩ := six hcl
  obtain ⟨x0, x1, x2, x3, x4, x5, rfl⟩ := six hxl
  have f0 : DataW.trod enc Try.prog w 0 (fun _ => true) true n' 3 (([c0, c1, c2, c3, c4, c5].drop 0).take (Try.prog.cellsOf 3)) = some x0 := hf 0 _ rfl
  have f1 : DataW.trod enc Try.prog w 0 (fun _ => true) true n' 3 (([c0, c1, c2, c3, c4, c5].drop 1).take (Try.prog.cellsOf 3)) = some x1 := hf 1 _ rfl
  have f2 : DataW.trod enc Try.prog w 0 (fun _ => true) true n' 9 (([c0, c1, c2, c3, c4, c5].drop 2).take (Try.prog.cellsOf 9)) = some x2 := hf 2 _ rfl
  have f3 : DataW.trod enc Try.prog w 0 (fun _ => true) true n' 9 (([c0, c1, c2, c3, c4, c5].drop 3).take (Try.prog.cellsOf 9)) = some x3 := hf 3 _ rfl
  have f4 : DataW.trod enc Try.prog w 0 (fun _ => true) true n' 22 (([c0, c1, c2, c3, c4, c5].drop 4).take (Try.prog.cellsOf 22)) = some x4 := hf 4 _ rfl
  have f5 : DataW.trod enc Try.prog w 0 (fun _ => true) true n' 32 (([c0, c1, c2, c3, c4, c5].drop 5).take (Try.prog.cellsOf 32)) = some x5 := hf 5 _ rfl
  rw [e1] at f0 f1
  rw [e2] at f2 f3
  rw [e3] at f4
  rw [e4] at f5
  have hw : ∀ (j : Nat) (t : TypeId) (d : DataW H), [3, 3, 9, 9, 22, 32][j]? = some t → [x0.1, x1.1, x2.1, x3.1, x4.1, x5.1][j]? = some d → ∀ k ∈ d.weights Try.prog t, k ≤ reachBytes := by
    intro j t d ht hd k hk
    refine hz k ?_
    have := DataW.weights_mem_each ht hd k hk
    simp only [DataW.weights, Try.underlying48]
    exact this
  clear hf hz
  obtain ⟨m0, g0, _, w0⟩ := DataW.trod_int Try.underlying3 f0
  obtain ⟨m1, g1, _, w1⟩ := DataW.trod_int Try.underlying3 f1
  obtain ⟨s2, g2, r2, _⟩ := DataW.trod_string Try.underlying9 f2
  obtain ⟨s3, g3, r3, _⟩ := DataW.trod_string Try.underlying9 f3
  obtain ⟨v4, l4, g4, by4, z4⟩ := open_by Try.underlying22 Try.underlying5 e5 f4
  obtain ⟨a5, m5, q5, g5, z5⟩ := open_cut Try.underlying32 Try.underlying3 e1 f5
  have e0' : c0 = .int .i64 m0 := (List.cons.inj g0).1
  have e1' : c1 = .int .i64 m1 := (List.cons.inj g1).1
  have e2' : c2 = .string s2 := (List.cons.inj g2).1
  have e3' : c3 = .string s3 := (List.cons.inj g3).1
  have e4' : c4 = v4 := (List.cons.inj g4).1
  have e5' : c5 = .slice a5 m5 q5 := (List.cons.inj g5).1
  clear g0 g1 g2 g3 g4 g5
  subst e0' e1' e2' e3' e4' e5'
  have k2 := hw 2 _ _ rfl rfl
  have k3 := hw 3 _ _ rfl rfl
  rw [r2] at k2
  rw [r3] at k3
  have k2 := k2 s2.data.toList.length (by rw [DataW.weights]; exact List.mem_singleton.2 rfl)
  have k3 := k3 s3.data.toList.length (by rw [DataW.weights]; exact List.mem_singleton.2 rfl)
  have k4 := slice_bound (m := l4.length) Try.underlying22 (by decide +kernel) (z4.imp (fun h => ⟨h.1, by rw [h.2]; rfl⟩) id) (hw 4 _ _ rfl rfl)
  have k5 := slice_bound Try.underlying32 (by decide +kernel) z5 (hw 5 _ _ rfl rfl)
  have hr := reachBytes_lt
  have q2 : s2.data.toList.length = s2.size := rfl
  have q3 : s3.data.toList.length = s3.size := rfl
  have hcell : ∀ i, i < 6 → w.cell? ⟨b, o + i, none⟩ = [Value.int .i64 m0, .int .i64 m1, .string s2, .string s3, c4, .slice a5 m5 q5][i]? := fun i hi => by
    have := hcell i hi
    rw [add_none] at this
    exact this
  refine ⟨⟨m0, m1, s2, s3, l4, m5⟩, hcell 0 (by decide), hcell 1 (by decide), hcell 2 (by decide), hcell 3 (by decide), ⟨_, hcell 4 (by decide), by4⟩, ⟨_, _, hcell 5 (by decide)⟩, ?_, ?_, ?_, ?_, k4, k5⟩
  · have := bounds_i64 w1
    dsimp only
    omega
  · have := bounds_i64 w0
    dsimp only
    omega
  · dsimp only
    omega
  · dsimp only
    omega
/-- An argument that is a slice of ints. -/
theorem open_keep {w : World} {v : Value} {d : DataW H} {ps : List MemPlace} {b0 : Nat} (hval : Value.okWide Try.prog w .any b0 32 v)
    (hd : DataW.Trod enc Try.prog w 0 (fun _ => true) true 32 v d ps) : ∃ l : List Int, Ints w .i64 v l ∧ ∀ z ∈ l, -9223372036854775808 ≤ z ∧ z < 9223372036854775808 := by
  have ht := Try.underlying32
  obtain ⟨a0, len0, cap0, rfl⟩ := okWide_slice ht hval
  obtain ⟨fuel, hf⟩ := hd
  rcases open_ints ht Try.underlying3 (by kernel_rfl) hf with ⟨hcs, hx⟩ | ⟨a, len, cap, zs, hcs, _, hl, hm, hz, hx, hcell, hwz⟩
  · have hcs : [Value.slice a0 len0 cap0] = [.slice none 0 0] := by simpa [Value.cells] using hcs
    simp only [List.cons.injEq, Value.slice.injEq, and_true] at hcs
    obtain ⟨rfl, rfl, rfl⟩ := hcs
    exact ⟨[], ⟨0, 0, 0, .inr ⟨rfl, rfl⟩, fun e => absurd rfl e, fun j hj => by simp at hj⟩, by simp⟩
  · have hcs : [Value.slice a0 len0 cap0] = [.slice (some a) len cap] := by simpa [Value.cells] using hcs
    simp only [List.cons.injEq, Value.slice.injEq, and_true] at hcs
    obtain ⟨rfl, rfl, rfl⟩ := hcs
    have hspot : a.spot = none := by
      simp only [Value.okWide, ht, Cell.okWide, Cell.ok] at hval
      exact hval.2.2.2.1
    obtain ⟨b, off, sp⟩ := a
    dsimp only at hspot
    subst hspot
    simp only [if_true] at hz
    have hlen : (zs.take len0).length = len0 := by rw [List.length_take]; omega
    refine ⟨zs.take len0, ⟨b, off, cap0, .inl (by rw [hlen]), fun hne => ?_, fun j hj => ?_⟩, fun z hz' => ?_⟩
    · have h0 : 0 < zs.length := by
        have : 0 < (zs.take len0).length := List.length_pos_iff.2 hne
        rw [hlen] at this
        omega
      exact cell_lt' (hcell 0 h0)
    · have hj' : j < zs.length := by rw [hlen] at hj; omega
      have := hcell j hj'
      rw [add_none] at this
      rw [this]
      simp [List.getD, hj']
    · have := bounds_i64 (hwz z (List.mem_of_mem_take hz'))
      omega
instance : Inhabited St := ⟨⟨0, 0, ⟨#[]⟩, ⟨#[]⟩, [], 0⟩⟩
theorem open_steps {w : World} {v : Value} {d : DataW H} {ps : List MemPlace} {b0 : Nat} (hval : Value.okWide Try.prog w .any b0 42 v)
    (hd : DataW.Trod enc Try.prog w 0 (fun _ => true) true 42 v d ps) (hz : ∀ k ∈ d.weights Try.prog 42, k ≤ reachBytes) : ∃ l, Steps w v l ∧ l.length ≤ 281474976710656 := by
  have ht := Try.underlying42
  obtain ⟨a0, len0, cap0, rfl⟩ := okWide_slice ht hval
  obtain ⟨fuel, hf⟩ := hd
  rcases Go.Deep.open_slice ht hf with ⟨hcs, _⟩ | ⟨a, len, cap, m, n, D, Pl, hcs, _, hl, _, hmm, hx, hel⟩
  · have hcs : [Value.slice a0 len0 cap0] = [.slice none 0 0] := by simpa [Value.cells] using hcs
    simp only [List.cons.injEq, Value.slice.injEq, and_true] at hcs
    obtain ⟨rfl, rfl, rfl⟩ := hcs
    exact ⟨[], ⟨⟨_, _, rfl⟩, fun i hi => absurd hi (by simp)⟩, by simp⟩
  · have hcs : [Value.slice a0 len0 cap0] = [.slice (some a) len cap] := by simpa [Value.cells] using hcs
    simp only [List.cons.injEq, Value.slice.injEq, and_true] at hcs
    obtain ⟨rfl, rfl, rfl⟩ := hcs
    have hspot : a.spot = none := by
      simp only [Value.okWide, ht, Cell.okWide, Cell.ok] at hval
      exact hval.2.2.2.1
    obtain ⟨b, off, sp⟩ := a
    dsimp only at hspot
    subst hspot
    simp only [if_true] at hmm
    have hx1 : d = .slice ((List.range len0).map D) ((List.range (m - len0)).map fun j => D (len0 + j)) := (Prod.mk.inj hx).1
    have e6 : Try.prog.cellsOf 48 = 6 := by kernel_rfl
    have hS : ∀ i, i < len0 → ∃ s, StAt w b (off + i * 6) s := fun i hi => by
      obtain ⟨cs', h1, h2⟩ := hel i (by omega)
      rw [e6, add_none] at h1
      refine open_step h1 h2 fun k hk => hz k ?_
      rw [hx1]
      simp only [DataW.weights, ht, List.mem_cons, List.mem_append]
      exact .inr (.inl (weights_all (List.mem_map.2 ⟨i, List.mem_range.2 hi, rfl⟩) k hk))
    obtain ⟨f, hf⟩ := Go.Deep.choose_lt hS
    refine ⟨(List.range len0).map f, ⟨⟨_, _, by rw [List.length_map, List.length_range]⟩, fun i hi => ?_⟩, ?_⟩
    · rw [List.length_map, List.length_range] at hi
      refine ⟨b, off, _, by rw [List.length_map, List.length_range], ?_⟩
      have := hf i hi
      simpa using this
    · have h1 := hz ((((List.range len0).map D).length + ((List.range (m - len0)).map fun j => D (len0 + j)).length) * Try.prog.bytesOf 48) (by rw [hx1]; simp [DataW.weights, ht])
      have h2 := reachBytes_lt
      have h3 : Try.prog.bytesOf 48 = 96 := by kernel_rfl
      rw [h3] at h1
      simp only [List.length_map, List.length_range] at h1 ⊢
      omega
end
end Dk
end Go.Proofs.Ytgcklcpbmlibdaa
