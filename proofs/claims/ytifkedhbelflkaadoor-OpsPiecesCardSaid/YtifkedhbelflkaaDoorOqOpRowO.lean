/- How a row opens an argument that is an operation. -/
import Derived.Test.YtifkedhbelflkaaDoorOqOpA
import Derived.ProofKit
import Derived.OpenShut
import Derived.Carry
import Derived.SizedLaws
import Derived.Deep.Slices
namespace Go.Proofs.YtifkedhbelflkaaDoor
set_option maxRecDepth 100000
namespace Op
open Go Go.RowKit Go.ChangeShapes Go.WideShapes Sx Tl Val
section
variable {H : Type} {enc : TypeId × Value → H} {P : Program}
theorem args_stay (hl : laidOutB P = true) {W W' : World} (hb : Below W.heap.size W W') : ∀ (ts : List TypeId) (vs : List Value) (ds : List (DataW H)) (ps : List MemPlace), (ts.all fun t => P.readableRec t && decide (t < P.types.size)) = true →
    DataW.TrodAll enc P W 0 (fun _ => true) true ts vs ds ps → DataW.TrodAll enc P W' 0 (fun b => decide (b < W.heap.size)) true ts vs ds ps
  | [], vs, ds, ps, _, h => by
    obtain ⟨rfl, rfl, rfl⟩ := trodAll_nil h
    exact trodAll_mk0
  | t :: ts, vs, ds, ps, hr, h => by
    have hlt := DataW.TrodAll.lt h
    obtain ⟨v, vs', d, ds', p, q, rfl, rfl, rfl, h1, h2⟩ := trodAll_cons h
    simp only [List.all_cons, Bool.and_eq_true, decide_eq_true_eq] at hr
    exact trodAll_cons_mk (Below.trod hl hr.1.1 hr.1.2 h1 hb (fun x hx => hlt x (by simp [hx]))) (args_stay hl hb ts vs' ds' q (by simpa using hr.2) h2)
end
section
variable {H : Type} {enc : TypeId × Value → H}
theorem wf_u64' {z : Int} (h : (Lit.int .u64 z).wf = true) : 0 ≤ z ∧ z < 18446744073709551616 := by
  simp only [Lit.wf, IntKind.min, IntKind.max, IntKind.signed, IntKind.bits] at h
  simp at h
  omega
theorem wf_i64' {z : Int} (h : (Lit.int .i64 z).wf = true) : -9223372036854775808 ≤ z ∧ z < 9223372036854775808 := by
  simp only [Lit.wf, IntKind.min, IntKind.max, IntKind.signed, IntKind.bits] at h
  simp at h
  omega
theorem len2 {α : Type} : ∀ {l : List α}, l.length = 2 → ∃ a b, l = [a, b]
  | [a, b], _ => ⟨a, b, rfl⟩
theorem len3 {α : Type} : ∀ {l : List α}, l.length = 3 → ∃ a b c, l = [a, b, c]
  | [a, b, c], _ => ⟨a, b, c, rfl⟩
theorem len4 {α : Type} : ∀ {l : List α}, l.length = 4 → ∃ a b c d, l = [a, b, c, d]
  | [a, b, c, d], _ => ⟨a, b, c, d, rfl⟩
theorem len11 {α : Type} : ∀ {l : List α}, l.length = 11 → ∃ a b c d e f g h i j k, l = [a, b, c, d, e, f, g, h, i, j, k]
  | [a, b, c, d, e, f, g, h, i, j, k], _ => ⟨a, b, c, d, e, f, g, h, i, j, k, rfl⟩
theorem len22 {α : Type} : ∀ {l : List α}, l.length = 22 → ∃ c0 c1 c2 c3 c4 c5 c6 c7 c8 c9 c10 c11 c12 c13 c14 c15 c16 c17 c18 c19 c20 c21, l = [c0, c1, c2, c3, c4, c5, c6, c7, c8, c9, c10, c11, c12, c13, c14, c15, c16, c17, c18, c19, c20, c21]
  | [c0, c1, c2, c3, c4, c5, c6, c7, c8, c9, c10, c11, c12, c13, c14, c15, c16, c17, c18, c19, c20, c21], _ => ⟨c0, c1, c2, c3, c4, c5, c6, c7, c8, c9, c10, c11, c12, c13, c14, c15, c16, c17, c18, c19, c20, c21, rfl⟩
variable {w : World} {n : Nat} {cs : List Value} {x : DataW H × List MemPlace}
theorem open_float {t : TypeId} {v : Value} (ht : Tryd.prog.underlying t = some (.float .f64)) (h : DataW.trod enc Tryd.prog w 0 (fun _ => true) true n t [v] = some x) : ∃ b, v = .float .f64 b ∧ b < 18446744073709551616 := by
  cases n with
  | zero => simp [DataW.trod] at h
  | succ n =>
    unfold DataW.trod at h
    simp only [ht] at h
    cases v <;> simp at h
    rename_i k b
    cases k <;> simp at h
    obtain ⟨hw, _⟩ := h
    refine ⟨b, rfl, ?_⟩
    simp only [Lit.wf, decide_eq_true_eq] at hw
    simp at hw
    omega
theorem open_id (h : DataW.trod enc Tryd.prog w 0 (fun _ => true) true n 24 cs = some x) : ∃ k : Id, cs = idcs k := by
  obtain ⟨xs, n', rfl, rfl, hcl, hxl, hf⟩ := DataW.trod_struct Tryd.underlying24 h
  have e2 : Tryd.prog.cellsOf 24 = 2 := by kernel_rfl
  have e1 : Tryd.prog.cellsOf 22 = 1 := by kernel_rfl
  rw [e2] at hcl
  obtain ⟨c0, c1, rfl⟩ := len2 hcl
  obtain ⟨x0, x1, rfl⟩ := len2 hxl
  have f0 : DataW.trod enc Tryd.prog w 0 (fun _ => true) true n' 22 (([c0, c1].drop 0).take (Tryd.prog.cellsOf 22)) = some x0 := hf 0 _ rfl
  have f1 : DataW.trod enc Tryd.prog w 0 (fun _ => true) true n' 22 (([c0, c1].drop 1).take (Tryd.prog.cellsOf 22)) = some x1 := hf 1 _ rfl
  rw [e1] at f0 f1
  obtain ⟨m0, g0, _, w0⟩ := DataW.trod_int Tryd.underlying22 f0
  obtain ⟨m1, g1, _, w1⟩ := DataW.trod_int Tryd.underlying22 f1
  have e0' : c0 = .int .u64 m0 := (List.cons.inj g0).1
  have e1' : c1 = .int .u64 m1 := (List.cons.inj g1).1
  have w0 := wf_u64' w0
  have w1 := wf_u64' w1
  refine ⟨(m0.toNat, m1.toNat), ?_⟩
  unfold idcs
  dsimp only
  rw [Int.toNat_of_nonneg w0.1, Int.toNat_of_nonneg w1.1, e0', e1']
theorem open_anc (h : DataW.trod enc Tryd.prog w 0 (fun _ => true) true n 29 cs = some x) : ∃ a : Anc, cs = acs a := by
  obtain ⟨xs, n', rfl, rfl, hcl, hxl, hf⟩ := DataW.trod_struct Tryd.underlying29 h
  have e3 : Tryd.prog.cellsOf 29 = 3 := by kernel_rfl
  have e2 : Tryd.prog.cellsOf 24 = 2 := by kernel_rfl
  have e1 : Tryd.prog.cellsOf 4 = 1 := by kernel_rfl
  rw [e3] at hcl
  obtain ⟨c0, c1, c2, rfl⟩ := len3 hcl
  obtain ⟨x0, x1, rfl⟩ := len2 hxl
  have f0 : DataW.trod enc Tryd.prog w 0 (fun _ => true) true n' 24 (([c0, c1, c2].drop 0).take (Tryd.prog.cellsOf 24)) = some x0 := hf 0 _ rfl
  have f1 : DataW.trod enc Tryd.prog w 0 (fun _ => true) true n' 4 (([c0, c1, c2].drop 2).take (Tryd.prog.cellsOf 4)) = some x1 := hf 1 _ rfl
  rw [e2] at f0
  rw [e1] at f1
  obtain ⟨k, g0⟩ := open_id f0
  obtain ⟨b, g1, _⟩ := DataW.trod_bool Tryd.underlying4 f1
  have e' : c2 = .bool b := (List.cons.inj g1).1
  have g0 : [c0, c1] = idcs k := g0
  refine ⟨⟨k, b⟩, ?_⟩
  have : [c0, c1, c2] = [c0, c1] ++ [c2] := rfl
  rw [this, g0, e']
  rfl
def vcs (x : Vl) : List Value := [.int .i64 x.k, .int .i64 x.n, .float .f64 x.f, .string x.s]
theorem open_value (h : DataW.trod enc Tryd.prog w 0 (fun _ => true) true n 27 cs = some x) (hz : ∀ k ∈ x.1.weights Tryd.prog 27, k ≤ reachBytes) : ∃ v : Vl, cs = vcs v ∧ v.Fit := by
  obtain ⟨xs, n', rfl, rfl, hcl, hxl, hf⟩ := DataW.trod_struct Tryd.underlying27 h
  have e4 : Tryd.prog.cellsOf 27 = 4 := by kernel_rfl
  have e0 : Tryd.prog.cellsOf 3 = 1 := by kernel_rfl
  have e1 : Tryd.prog.cellsOf 2 = 1 := by kernel_rfl
  have e2 : Tryd.prog.cellsOf 25 = 1 := by kernel_rfl
  have e3 : Tryd.prog.cellsOf 9 = 1 := by kernel_rfl
  rw [e4] at hcl
  obtain ⟨c0, c1, c2, c3, rfl⟩ := len4 hcl
  obtain ⟨x0, x1, x2, x3, rfl⟩ := len4 hxl
  have f0 : DataW.trod enc Tryd.prog w 0 (fun _ => true) true n' 3 (([c0, c1, c2, c3].drop 0).take (Tryd.prog.cellsOf 3)) = some x0 := hf 0 _ rfl
  have f1 : DataW.trod enc Tryd.prog w 0 (fun _ => true) true n' 2 (([c0, c1, c2, c3].drop 1).take (Tryd.prog.cellsOf 2)) = some x1 := hf 1 _ rfl
  have f2 : DataW.trod enc Tryd.prog w 0 (fun _ => true) true n' 25 (([c0, c1, c2, c3].drop 2).take (Tryd.prog.cellsOf 25)) = some x2 := hf 2 _ rfl
  have f3 : DataW.trod enc Tryd.prog w 0 (fun _ => true) true n' 9 (([c0, c1, c2, c3].drop 3).take (Tryd.prog.cellsOf 9)) = some x3 := hf 3 _ rfl
  rw [e0] at f0
  rw [e1] at f1
  rw [e2] at f2
  rw [e3] at f3
  obtain ⟨m0, g0, _, w0⟩ := DataW.trod_int Tryd.underlying3 f0
  obtain ⟨m1, g1, _, w1⟩ := DataW.trod_int Tryd.underlying2 f1
  have f2 : DataW.trod enc Tryd.prog w 0 (fun _ => true) true n' 25 [c2] = some x2 := f2
  obtain ⟨b2, g2, w2⟩ := open_float Tryd.underlying25 f2
  obtain ⟨s3, g3, r3, _⟩ := DataW.trod_string Tryd.underlying9 f3
  have e0' : c0 = .int .i64 m0 := (List.cons.inj g0).1
  have e1' : c1 = .int .i64 m1 := (List.cons.inj g1).1
  have e3' : c3 = .string s3 := (List.cons.inj g3).1
  have w0 := wf_i64' w0
  have w1 := wf_i64' w1
  have hs : s3.data.toList.length ≤ reachBytes := by
    refine hz _ ?_
    have hk : s3.data.toList.length ∈ x3.1.weights Tryd.prog 9 := by
      rw [r3, DataW.weights]
      exact List.mem_singleton.2 rfl
    have := DataW.weights_mem_each (P := Tryd.prog) (ts := [3, 2, 25, 9]) (ds := [x0.1, x1.1, x2.1, x3.1]) (j := 3) rfl rfl _ hk
    simp only [DataW.weights, Tryd.underlying27]
    exact this
  have hr := reachBytes_lt
  have hss : s3.data.toList.length = s3.size := rfl
  refine ⟨⟨m0, m1, b2, s3⟩, by rw [e0', e1', g2, e3']; rfl, ⟨w0.1, w0.2, w1.1, w1.2, w2, ?_⟩⟩
  dsimp only
  omega
theorem open_opc (h : DataW.trod enc Tryd.prog w 0 (fun _ => true) true n 31 cs = some x) (hz : ∀ k ∈ x.1.weights Tryd.prog 31, k ≤ reachBytes) : ∃ o : Mo, cs = ocs o ∧ o.v.Fit ∧ o.key.size < 140737488355328 ∧ -9223372036854775808 ≤ o.k ∧ o.k < 9223372036854775808 := by
  obtain ⟨xs, n', rfl, rfl, hcl, hxl, hf⟩ := DataW.trod_struct Tryd.underlying31 h
  have e22 : Tryd.prog.cellsOf 31 = 22 := by kernel_rfl
  have e_Id : Tryd.prog.cellsOf 24 = 2 := by kernel_rfl
  have e_int : Tryd.prog.cellsOf 3 = 1 := by kernel_rfl
  have e_uint64 : Tryd.prog.cellsOf 22 = 1 := by kernel_rfl
  have e_string : Tryd.prog.cellsOf 9 = 1 := by kernel_rfl
  have e_Value : Tryd.prog.cellsOf 27 = 4 := by kernel_rfl
  have e_Anchor : Tryd.prog.cellsOf 29 = 3 := by kernel_rfl
  rw [e22] at hcl
  obtain ⟨c0, c1, c2, c3, c4, c5, c6, c7, c8, c9, c10, c11, c12, c13, c14, c15, c16, c17, c18, c19, c20, c21, rfl⟩ := len22 hcl
  obtain ⟨x0, x1, x2, x3, x4, x5, x6, x7, x8, x9, x10, rfl⟩ := len11 hxl
  have f0 : DataW.trod enc Tryd.prog w 0 (fun _ => true) true n' 24 (([c0, c1, c2, c3, c4, c5, c6, c7, c8, c9, c10, c11, c12, c13, c14, c15, c16, c17, c18, c19, c20, c21].drop 0).take (Tryd.prog.cellsOf 24)) = some x0 := hf 0 _ rfl
  rw [e_Id] at f0
  have f1 : DataW.trod enc Tryd.prog w 0 (fun _ => true) true n' 3 (([c0, c1, c2, c3, c4, c5, c6, c7, c8, c9, c10, c11, c12, c13, c14, c15, c16, c17, c18, c19, c20, c21].drop 2).take (Tryd.prog.cellsOf 3)) = some x1 := hf 1 _ rfl
  rw [e_int] at f1
  have f2 : DataW.trod enc Tryd.prog w 0 (fun _ => true) true n' 22 (([c0, c1, c2, c3, c4, c5, c6, c7, c8, c9, c10, c11, c12, c13, c14, c15, c16, c17, c18, c19, c20, c21].drop 3).take (Tryd.prog.cellsOf 22)) = some x2 := hf 2 _ rfl
  rw [e_uint64] at f2
  have f3 : DataW.trod enc Tryd.prog w 0 (fun _ => true) true n' 24 (([c0, c1, c2, c3, c4, c5, c6, c7, c8, c9, c10, c11, c12, c13, c14, c15, c16, c17, c18, c19, c20, c21].drop 4).take (Tryd.prog.cellsOf 24)) = some x3 := hf 3 _ rfl
  rw [e_Id] at f3
  have f4 : DataW.trod enc Tryd.prog w 0 (fun _ => true) true n' 24 (([c0, c1, c2, c3, c4, c5, c6, c7, c8, c9, c10, c11, c12, c13, c14, c15, c16, c17, c18, c19, c20, c21].drop 6).take (Tryd.prog.cellsOf 24)) = some x4 := hf 4 _ rfl
  rw [e_Id] at f4
  have f5 : DataW.trod enc Tryd.prog w 0 (fun _ => true) true n' 9 (([c0, c1, c2, c3, c4, c5, c6, c7, c8, c9, c10, c11, c12, c13, c14, c15, c16, c17, c18, c19, c20, c21].drop 8).take (Tryd.prog.cellsOf 9)) = some x5 := hf 5 _ rfl
  rw [e_string] at f5
  have f6 : DataW.trod enc Tryd.prog w 0 (fun _ => true) true n' 27 (([c0, c1, c2, c3, c4, c5, c6, c7, c8, c9, c10, c11, c12, c13, c14, c15, c16, c17, c18, c19, c20, c21].drop 9).take (Tryd.prog.cellsOf 27)) = some x6 := hf 6 _ rfl
  rw [e_Value] at f6
  have f7 : DataW.trod enc Tryd.prog w 0 (fun _ => true) true n' 9 (([c0, c1, c2, c3, c4, c5, c6, c7, c8, c9, c10, c11, c12, c13, c14, c15, c16, c17, c18, c19, c20, c21].drop 13).take (Tryd.prog.cellsOf 9)) = some x7 := hf 7 _ rfl
  rw [e_string] at f7
  have f8 : DataW.trod enc Tryd.prog w 0 (fun _ => true) true n' 24 (([c0, c1, c2, c3, c4, c5, c6, c7, c8, c9, c10, c11, c12, c13, c14, c15, c16, c17, c18, c19, c20, c21].drop 14).take (Tryd.prog.cellsOf 24)) = some x8 := hf 8 _ rfl
  rw [e_Id] at f8
  have f9 : DataW.trod enc Tryd.prog w 0 (fun _ => true) true n' 29 (([c0, c1, c2, c3, c4, c5, c6, c7, c8, c9, c10, c11, c12, c13, c14, c15, c16, c17, c18, c19, c20, c21].drop 16).take (Tryd.prog.cellsOf 29)) = some x9 := hf 9 _ rfl
  rw [e_Anchor] at f9
  have f10 : DataW.trod enc Tryd.prog w 0 (fun _ => true) true n' 29 (([c0, c1, c2, c3, c4, c5, c6, c7, c8, c9, c10, c11, c12, c13, c14, c15, c16, c17, c18, c19, c20, c21].drop 19).take (Tryd.prog.cellsOf 29)) = some x10 := hf 10 _ rfl
  rw [e_Anchor] at f10
  have hw : ∀ (j : Nat) (t : TypeId) (d : DataW H), [24, 3, 22, 24, 24, 9, 27, 9, 24, 29, 29][j]? = some t → [x0.1, x1.1, x2.1, x3.1, x4.1, x5.1, x6.1, x7.1, x8.1, x9.1, x10.1][j]? = some d → ∀ k ∈ d.weights Tryd.prog t, k ≤ reachBytes := by
    intro j t d ht hd k hk
    refine hz k ?_
    have := DataW.weights_mem_each ht hd k hk
    simp only [DataW.weights, Tryd.underlying31]
    exact this
  clear hf hz
  obtain ⟨o0, g0⟩ := open_id f0
  have g0 : [c0, c1] = idcs o0 := g0
  obtain ⟨o1, g1, _, w1⟩ := DataW.trod_int Tryd.underlying3 f1
  have g1 : [c2] = [.int .i64 o1] := g1
  have w1 := wf_i64' w1
  obtain ⟨o2, g2, _, w2⟩ := DataW.trod_int Tryd.underlying22 f2
  have g2 : [c3] = [.int .u64 o2] := g2
  have w2 := wf_u64' w2
  obtain ⟨o3, g3⟩ := open_id f3
  have g3 : [c4, c5] = idcs o3 := g3
  obtain ⟨o4, g4⟩ := open_id f4
  have g4 : [c6, c7] = idcs o4 := g4
  obtain ⟨o5, g5, r5, _⟩ := DataW.trod_string Tryd.underlying9 f5
  have g5 : [c8] = [.string o5] := g5
  obtain ⟨o6, g6, v6⟩ := open_value f6 (hw 6 _ _ rfl rfl)
  have g6 : [c9, c10, c11, c12] = vcs o6 := g6
  obtain ⟨o7, g7, r7, _⟩ := DataW.trod_string Tryd.underlying9 f7
  have g7 : [c13] = [.string o7] := g7
  obtain ⟨o8, g8⟩ := open_id f8
  have g8 : [c14, c15] = idcs o8 := g8
  obtain ⟨o9, g9⟩ := open_anc f9
  have g9 : [c16, c17, c18] = acs o9 := g9
  obtain ⟨o10, g10⟩ := open_anc f10
  have g10 : [c19, c20, c21] = acs o10 := g10
  have h7 : o7.data.toList.length ≤ reachBytes := hw 7 _ _ rfl rfl _ (by
    rw [r7, DataW.weights]
    exact List.mem_singleton.2 rfl)
  have hr := reachBytes_lt
  have hss : o7.data.toList.length = o7.size := rfl
  have e : [c0, c1, c2, c3, c4, c5, c6, c7, c8, c9, c10, c11, c12, c13, c14, c15, c16, c17, c18, c19, c20, c21] = [c0, c1] ++ ([c2] ++ ([c3] ++ ([c4, c5] ++ ([c6, c7] ++ ([c8] ++ ([c9, c10, c11, c12] ++ ([c13] ++ ([c14, c15] ++ ([c16, c17, c18] ++ ([c19, c20, c21])))))))))) := rfl
  refine ⟨⟨o0, o1, o2.toNat, o3, o4, o5, o6, o7, o8, o9, o10⟩, ?_, v6, by dsimp only; omega, w1.1, w1.2⟩
  rw [e, g0, g1, g2, g3, g4, g5, g6, g7, g8, g9, g10]
  unfold ocs
  dsimp only
  rw [Int.toNat_of_nonneg w2.1]
  rfl
theorem open_op {v : Value} {d : DataW H} {ps : List MemPlace} {b0 : Nat} (hval : Value.okWide Tryd.prog w .any b0 31 v)
    (hd : DataW.Trod enc Tryd.prog w 0 (fun _ => true) true 31 v d ps) (hz : ∀ k ∈ d.weights Tryd.prog 31, k ≤ reachBytes) : ∃ o : Mo, v = .agg (ocs o).toArray ∧ o.v.Fit := by
  obtain ⟨cs, rfl, _⟩ := okWide_struct Tryd.underlying31 hval
  obtain ⟨fuel, hf⟩ := hd
  obtain ⟨o, ho, hv, _⟩ := open_opc (x := (d, ps)) hf hz
  have ho : cs.toList = ocs o := ho
  exact ⟨o, by rw [← ho], hv⟩
end
end Op
end Go.Proofs.YtifkedhbelflkaaDoor
