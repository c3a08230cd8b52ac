/- How a row opens an argument that is a view: by its bulk. -/
import Derived.Test.YtglfoofclicfpaaDoorVwRowR
import Derived.Test.YtglfoofclicfpaaDoorVwY
namespace Go.Proofs.YtglfoofclicfpaaDoor
set_option maxRecDepth 100000
namespace Vw
open Go Go.RowKit Go.ChangeShapes Go.WideShapes Sx Val Mk
section
variable {H : Type} {enc : TypeId × Value → H} {w : World}
theorem len6b {α : Type} : ∀ {l : List α}, l.length = 6 → ∃ a0 a1 a2 a3 a4 a5, l = [a0, a1, a2, a3, a4, a5]
  | [a0, a1, a2, a3, a4, a5], _ => ⟨a0, a1, a2, a3, a4, a5, rfl⟩
theorem len3b {α : Type} : ∀ {l : List α}, l.length = 3 → ∃ a0 a1 a2, l = [a0, a1, a2]
  | [a0, a1, a2], _ => ⟨a0, a1, a2, rfl⟩
instance : Inhabited Ef := ⟨.nil⟩
/-- What stands at one entry. -/
structure EntA (w : World) (b o : Nat) (t : ByteArray × Vl × Ef × Option Addr × Nat) : Prop where
  key : t.1.size ≤ 2000000
  fit : t.2.1.Fit
  vs : t.2.1.s.size ≤ 2000000
  kl : t.2.2.1.len ≤ 2000000
  raw : t.2.2.1.Raw
  lt : b < w.heap.size
  cells : ∀ j u, (ecs t.1 t.2.1 (.slice t.2.2.2.1 t.2.2.1.len t.2.2.2.2))[j]? = some u → w.cell? ⟨b, o + j, none⟩ = some u
  kids : EntAt w.heap.size w t.2.2.2.1 0 t.2.2.1
/-- Entries out of what stands at each. -/
def mkE (F : Nat → ByteArray × Vl × Ef × Option Addr × Nat) : Nat → Nat → Ef
  | 0, _ => .nil
  | k + 1, i => .cons (F i).1 (F i).2.1 (F i).2.2.1 (mkE F k (i + 1))
theorem mkE_len (F : Nat → ByteArray × Vl × Ef × Option Addr × Nat) : ∀ k i, (mkE F k i).len = k
  | 0, _ => rfl
  | k + 1, i => congrArg (· + 1) (mkE_len F k (i + 1))
theorem mkE_raw {b off n : Nat} {F : Nat → ByteArray × Vl × Ef × Option Addr × Nat} (h : ∀ i, i < n → EntA w b (off + i * 6) (F i)) : ∀ k i, i + k ≤ n → (mkE F k i).Raw
  | 0, _, _ => trivial
  | k + 1, i, hi => ⟨(h i (by omega)).key, (h i (by omega)).fit, (h i (by omega)).vs, (h i (by omega)).kl, (h i (by omega)).raw, mkE_raw h k (i + 1) (by omega)⟩
theorem mkE_at {b off n : Nat} {F : Nat → ByteArray × Vl × Ef × Option Addr × Nat} (h : ∀ i, i < n → EntA w b (off + i * 6) (F i)) : ∀ k i, i + k ≤ n → EntAt w.heap.size w (some ⟨b, off, none⟩) i (mkE F k i)
  | 0, _, _ => trivial
  | k + 1, i, hi => ⟨⟨b, off, (F i).2.2.2.1, (F i).2.2.2.2, rfl, (h i (by omega)).lt, (h i (by omega)).cells, (h i (by omega)).kids⟩, mkE_at h k (i + 1) (by omega)⟩
theorem open_ent {b o n : Nat} {cs : List Value} {x : DataW H × List MemPlace} (hc : w.cells? 0 ⟨b, o, none⟩ 6 = some cs) (h : DataW.trod enc Tryd.prog w 0 (fun _ => true) true n 42 cs = some x) (hz : ∀ k ∈ x.1.weights Tryd.prog 42, k ≤ reachBytes) (hb : Rows.uptoBulk x.1 ≤ 2000000)
    (ih : ∀ (n : Nat) (v : Value) (y : DataW H × List MemPlace), DataW.trod enc Tryd.prog w 0 (fun _ => true) true n 23 [v] = some y → (∀ k ∈ y.1.weights Tryd.prog 23, k ≤ reachBytes) → Rows.uptoBulk y.1 ≤ Rows.uptoBulk x.1 → ∃ (f : Ef) (a : Option Addr) (c : Nat), v = .slice a f.len c ∧ EntAt w.heap.size w a 0 f ∧ f.Raw ∧ f.len ≤ 2000000) :
    ∃ t, EntA w b o t := by
  have hcell := fun i (hi : i < 6) => cell_of hc hi
  obtain ⟨xs, n', rfl, rfl, hcl, hxl, hf⟩ := DataW.trod_struct Tryd.underlying42 h
  have eS : Tryd.prog.cellsOf 42 = 6 := by kernel_rfl
  rw [eS] at hcl
  obtain ⟨c0, c1, c2, c3, c4, c5, rfl⟩ := len6b hcl
  obtain ⟨x0, x1, x2, rfl⟩ := len3b hxl
  have f0 : DataW.trod enc Tryd.prog w 0 (fun _ => true) true n' 9 (([c0, c1, c2, c3, c4, c5].drop 0).take (Tryd.prog.cellsOf 9)) = some x0 := hf 0 _ rfl
  rw [show Tryd.prog.cellsOf 9 = 1 by kernel_rfl] at f0
  have f0 : DataW.trod enc Tryd.prog w 0 (fun _ => true) true n' 9 [c0] = some x0 := f0
  have f1 : DataW.trod enc Tryd.prog w 0 (fun _ => true) true n' 35 (([c0, c1, c2, c3, c4, c5].drop 1).take (Tryd.prog.cellsOf 35)) = some x1 := hf 1 _ rfl
  rw [show Tryd.prog.cellsOf 35 = 4 by kernel_rfl] at f1
  have f1 : DataW.trod enc Tryd.prog w 0 (fun _ => true) true n' 35 [c1, c2, c3, c4] = some x1 := f1
  have f2 : DataW.trod enc Tryd.prog w 0 (fun _ => true) true n' 23 (([c0, c1, c2, c3, c4, c5].drop 5).take (Tryd.prog.cellsOf 23)) = some x2 := hf 2 _ rfl
  rw [show Tryd.prog.cellsOf 23 = 1 by kernel_rfl] at f2
  have f2 : DataW.trod enc Tryd.prog w 0 (fun _ => true) true n' 23 [c5] = some x2 := f2
  have hw : ∀ (j : Nat) (t : TypeId) (d : DataW H), [9, 35, 23][j]? = some t → [x0.1, x1.1, x2.1][j]? = some d → ∀ k ∈ d.weights Tryd.prog t, k ≤ reachBytes := by
    intro j t d ht hd k hk
    refine hz k ?_
    have := DataW.weights_mem_each ht hd k hk
    simp only [DataW.weights, Tryd.underlying42]
    exact this
  have hbk : ∀ d ∈ ([x0.1, x1.1, x2.1] : List (DataW H)), Rows.uptoBulk d ≤ Rows.uptoBulk (DataW.agg [x0.1, x1.1, x2.1]) := fun d hd => Nat.le_trans (part_le hd) (by simp only [Rows.uptoBulk]; omega)
  clear hf
  obtain ⟨s, g0, _, _⟩ := DataW.trod_string Tryd.underlying9 f0
  have e0 : c0 = .string s := (List.cons.inj g0).1
  subst e0
  obtain ⟨v, g1, hv, hvs⟩ := open_valueB f1 (hw 1 _ _ rfl rfl)
  obtain ⟨kids, a, c, rfl, he, hr, hl⟩ := ih _ _ _ f2 (hw 2 _ _ rfl rfl) (hbk x2.1 (by simp))
  have b0 := Nat.le_trans (bulk_str Tryd.underlying9 f0) (hbk x0.1 (by simp))
  have b1 := hbk x1.1 (by simp)
  have hb : Rows.uptoBulk (DataW.agg [x0.1, x1.1, x2.1]) ≤ 2000000 := hb
  have hk : ([.string s, c1, c2, c3, c4, .slice a kids.len c] : List Value) = ecs s v (.slice a kids.len c) := by
    rw [show ([.string s, c1, c2, c3, c4, .slice a kids.len c] : List Value) = [.string s] ++ [c1, c2, c3, c4] ++ [.slice a kids.len c] from rfl, show [c1, c2, c3, c4] = vcs v from g1]
    rfl
  refine ⟨(s, v, kids, a, c), ⟨by dsimp only; omega, hv, by dsimp only; omega, hl, hr, cell_lt2 (hcell 0 (by decide)), fun j u hu => ?_, he⟩⟩
  have hj : j < 6 := (List.getElem?_eq_some_iff.1 hu).1
  rw [hcell j hj, hk, hu]
theorem open_ents : ∀ (N n : Nat) (v : Value) (x : DataW H × List MemPlace), DataW.trod enc Tryd.prog w 0 (fun _ => true) true n 23 [v] = some x → (∀ k ∈ x.1.weights Tryd.prog 23, k ≤ reachBytes) → Rows.uptoBulk x.1 ≤ N → N ≤ 2000000 →
    ∃ (f : Ef) (a : Option Addr) (c : Nat), v = .slice a f.len c ∧ EntAt w.heap.size w a 0 f ∧ f.Raw ∧ f.len ≤ 2000000 := by
  intro N
  induction N with
  | zero =>
    intro n v x _ _ hb _
    have := one_le x.1
    omega
  | succ N ih =>
    intro n v x h hz hb hN
    obtain ⟨a, len, cap, rfl, hlc, hln, h0, h1⟩ := open_row Tryd.underlying23 (show Tryd.prog.cellsOf 42 = 6 by kernel_rfl) (by decide) h hz
    rcases Nat.eq_zero_or_pos len with rfl | hp
    · exact ⟨.nil, a, cap, rfl, trivial, trivial, Nat.zero_le _⟩
    · obtain ⟨b, off, m, rfl, hel⟩ := h1 hp
      have hS : ∀ i, i < len → ∃ t, EntA w b (off + i * 6) t := fun i hi => by
        obtain ⟨cs', d, hc, ht, hlt, hwz⟩ := hel i hi
        exact open_ent hc ht hwz (by omega) fun n v x h hz hb => ih n v x h hz (by omega) (by omega)
      obtain ⟨F, hF⟩ := Go.Deep.choose_lt hS
      refine ⟨mkE F len 0, some ⟨b, off, none⟩, cap, by rw [mkE_len], mkE_at hF len 0 (by omega), mkE_raw hF len 0 (by omega), by rw [mkE_len]; omega⟩
theorem open_runs2 {n : Nat} {v : Value} {x : DataW H × List MemPlace} (h : DataW.trod enc Tryd.prog w 0 (fun _ => true) true n 22 [v] = some x) (hz : ∀ k ∈ x.1.weights Tryd.prog 22, k ≤ reachBytes) (hb : Rows.uptoBulk x.1 ≤ 2000000) (hv : ∀ a c, v = .slice (some a) 0 c → a.spot = none) :
    ∃ (P : List Rv) (a : Option Addr) (c : Nat), v = .slice a P.length c ∧ RunS w.heap.size w (.slice a P.length c) P ∧ P.length ≤ 2000000 ∧ (∀ p ∈ P, Raw p.1) := by
  obtain ⟨a, len, cap, rfl, hlc, hln, h0, h1⟩ := open_row Tryd.underlying22 (show Tryd.prog.cellsOf 40 = 7 by kernel_rfl) (by decide) h hz
  rcases Nat.eq_zero_or_pos len with rfl | hp
  · refine ⟨[], a, cap, rfl, ⟨?_, fun q hq => absurd hq List.not_mem_nil⟩, Nat.zero_le _, fun q hq => absurd hq List.not_mem_nil⟩
    rcases h0 rfl with h | ⟨a', h⟩
    · cases h
      exact SRows.nil _ _
    · cases h
      have hspot := hv a' cap rfl
      obtain ⟨b, off, sp⟩ := a'
      dsimp only at hspot
      subst hspot
      exact ⟨b, off, cap, .inl rfl, fun i hi => absurd hi (Nat.not_lt_zero _)⟩
  · obtain ⟨b, off, m, rfl, hel⟩ := h1 hp
    have hS : ∀ i, i < len → ∃ p : Rv, (Raw p.1 ∧ MkO w.heap.size w p.2 p.1.ms) ∧ b < w.heap.size ∧ ∀ j u, (pcs p)[j]? = some u → w.cell? ⟨b, off + i * 7 + j, none⟩ = some u := fun i hi => by
      obtain ⟨cs', x, hc, ht, hlt, hwz⟩ := hel i hi
      exact open_runB hc ht hwz (by omega)
    obtain ⟨f, hf⟩ := Go.Deep.choose_lt hS
    have hlen : ((List.range len).map f).length = len := by rw [List.length_map, List.length_range]
    refine ⟨(List.range len).map f, some ⟨b, off, none⟩, cap, by rw [hlen], ⟨⟨b, off, cap, .inl (by rw [hlen, List.length_map, hlen]), fun i hi => ?_⟩, fun q hq => ?_⟩, by rw [hlen]; omega, fun q hq => ?_⟩
    · rw [List.length_map, hlen] at hi
      obtain ⟨_, h3, h4⟩ := hf i hi
      refine ⟨h3, fun j u hu => ?_⟩
      have e : ((List.range len).map f).map pcs = (List.range len).map fun i => pcs (f i) := List.map_map
      rw [List.getElem_of_eq e, List.getElem_map, List.getElem_range] at hu
      exact h4 j u hu
    · obtain ⟨i, hi, rfl⟩ := List.mem_map.1 hq
      exact (hf i (List.mem_range.1 hi)).1.2
    · obtain ⟨i, hi, rfl⟩ := List.mem_map.1 hq
      exact (hf i (List.mem_range.1 hi)).1.1
theorem open_view {v : Value} {d : DataW H} {ps : List MemPlace} {b0 : Nat} (hval : Value.okWide Tryd.prog w .any b0 25 v) (hd : DataW.Trod enc Tryd.prog w 0 (fun _ => true) true 25 v d ps) (hz : ∀ k ∈ d.weights Tryd.prog 25, k ≤ reachBytes) (hb : Rows.uptoBulk d ≤ 2000000) :
    ∃ (P : List Rv) (f : Ef) (a : Option Addr) (c : Nat) (b : Option Addr) (e : Nat), v = .agg #[.slice a P.length c, .slice b f.len e] ∧ RunS w.heap.size w (.slice a P.length c) P ∧ P.length ≤ 2000000 ∧ (∀ p ∈ P, Raw p.1) ∧ EntAt w.heap.size w b 0 f ∧ f.Raw ∧ f.len ≤ 2000000 := by
  simp only [Value.okWide, Tryd.underlying25] at hval
  obtain ⟨cs, rfl, hsz, ts, hts, _, hcells⟩ := hval
  obtain ⟨fuel, h⟩ := hd
  have h : DataW.trod enc Tryd.prog w 0 (fun _ => true) true fuel 25 cs.toList = some (d, ps) := h
  obtain ⟨xs, n', hp, hx, hcl, hxl, hf⟩ := DataW.trod_struct Tryd.underlying25 h
  rw [show Tryd.prog.cellsOf 25 = 2 by kernel_rfl] at hcl
  obtain ⟨c0, c1, hcs⟩ := len2b hcl
  obtain ⟨x0, x1, rfl⟩ := len2b hxl
  rw [hcs] at hf
  have f0 : DataW.trod enc Tryd.prog w 0 (fun _ => true) true n' 22 (([c0, c1].drop 0).take (Tryd.prog.cellsOf 22)) = some x0 := hf 0 _ rfl
  have f1 : DataW.trod enc Tryd.prog w 0 (fun _ => true) true n' 23 (([c0, c1].drop 1).take (Tryd.prog.cellsOf 23)) = some x1 := hf 1 _ rfl
  rw [show Tryd.prog.cellsOf 22 = 1 by kernel_rfl] at f0
  rw [show Tryd.prog.cellsOf 23 = 1 by kernel_rfl] at f1
  have f0 : DataW.trod enc Tryd.prog w 0 (fun _ => true) true n' 22 [c0] = some x0 := f0
  have f1 : DataW.trod enc Tryd.prog w 0 (fun _ => true) true n' 23 [c1] = some x1 := f1
  have hd : d = .agg [x0.1, x1.1] := congrArg Prod.fst hx
  have hw : ∀ (j : Nat) (t : TypeId) (d' : DataW H), [22, 23][j]? = some t → [x0.1, x1.1][j]? = some d' → ∀ k ∈ d'.weights Tryd.prog t, k ≤ reachBytes := by
    intro j t d' ht hd' k hk
    refine hz k ?_
    have := DataW.weights_mem_each ht hd' k hk
    rw [hd]
    simp only [DataW.weights, Tryd.underlying25]
    exact this
  have hbk : ∀ d' ∈ ([x0.1, x1.1] : List (DataW H)), Rows.uptoBulk d' ≤ 2000000 := fun d' hd' => by
    rw [hd] at hb
    simp only [Rows.uptoBulk] at hb
    have := part_le hd'
    omega
  have hspot : ∀ a c, c0 = .slice (some a) 0 c → a.spot = none := fun a c e => by
    have ht : ts = [22, 23] := Option.some.inj (hts.symm.trans (by kernel_rfl))
    have h0 : cs[0]? = some c0 := by
      rw [← Array.getElem?_toList, hcs]
      rfl
    obtain ⟨u, hu, hok⟩ := hcells 0 c0 h0
    rw [ht] at hu
    have hu : u = 22 := (Option.some.inj hu).symm
    subst hu
    rw [e] at hok
    simp only [Cell.okWide, Tryd.underlying22, Cell.ok] at hok
    exact hok.2.2.2.1
  obtain ⟨P, a, c, rfl, hP, hl, hr⟩ := open_runs2 f0 (hw 0 _ _ rfl rfl) (hbk _ (by simp)) hspot
  obtain ⟨f, b, e, rfl, he, hfr, hfl⟩ := open_ents 2000000 _ _ _ f1 (hw 1 _ _ rfl rfl) (hbk _ (by simp)) (Nat.le_refl _)
  refine ⟨P, f, a, c, b, e, ?_, hP, hl, hr, he, hfr, hfl⟩
  have : cs = #[.slice a P.length c, .slice b f.len e] := by
    apply Array.toList_inj.1
    rw [hcs]
  rw [this]
end
end Vw
end Go.Proofs.YtglfoofclicfpaaDoor
