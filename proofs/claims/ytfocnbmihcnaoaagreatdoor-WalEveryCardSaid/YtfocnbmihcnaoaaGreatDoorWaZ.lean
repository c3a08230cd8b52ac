/- quirelaw5.known. -/
import Derived.Lib.SlBytesConst
import Derived.Test.YtfocnbmihcnaoaaGreatDoorWaY
namespace Go.Proofs.YtfocnbmihcnaoaaGreatDoor
set_option maxRecDepth 100000
namespace Wa
open Go Go.RowKit Sx Wire Dk
theorem crN_nil (ns : List (List UInt8)) (es : List (ByteArray × Fl)) (n : ByteArray) : ∀ i, (fileOf (crN [] ns es i) n = fileOf es n ∨ fileOf (crN [] ns es i) n = ⟨(fileOf es n).b.take (fileOf es n).safe, (fileOf es n).safe⟩) ∧ ((∃ j, j < i ∧ nameAt ns j = n) → fileOf (crN [] ns es i) n = ⟨(fileOf es n).b.take (fileOf es n).safe, (fileOf es n).safe⟩)
  | 0 => ⟨.inl rfl, fun ⟨j, hj, _⟩ => absurd hj (Nat.not_lt_zero _)⟩
  | i + 1 => by
    obtain ⟨h1, h2⟩ := crN_nil ns es n i
    have e : ∀ f : Fl, crF [] i f = ⟨f.b.take f.safe, f.safe⟩ := fun f => by
      have h : (crEnd [] i f).toNat = f.safe := by
        unfold crEnd
        rw [if_neg (by simp)]
        omega
      unfold crF
      rw [h]
    unfold crN
    rw [fileOf_put]
    split
    · rename_i hn
      have h3 : crF [] i ((Sx.look (crN [] ns es i) (nameAt ns i)).getD f0) = ⟨(fileOf es n).b.take (fileOf es n).safe, (fileOf es n).safe⟩ := by
        rw [e]
        have h4 : (Sx.look (crN [] ns es i) (nameAt ns i)).getD f0 = fileOf (crN [] ns es i) n := by
          rw [hn]
          rfl
        rw [h4]
        rcases h1 with h1 | h1
        · rw [h1]
        · rw [h1]
          dsimp only
          rw [List.take_take, Nat.min_self]
      exact ⟨.inr h3, fun _ => h3⟩
    · rename_i hn
      refine ⟨h1, fun ⟨j, hj, hj2⟩ => h2 ⟨j, ?_, hj2⟩⟩
      rcases Nat.lt_succ_iff_lt_or_eq.1 hj with h | rfl
      · exact h
      · exact absurd hj2 hn
theorem name_at {es : List (ByteArray × Fl)} {n : ByteArray} (h : n ∈ keys es) : ∃ j, j < es.length ∧ nameAt (keysS es) j = n := by
  have h1 : n.data.toList ∈ keysS es := by
    unfold keysS
    rw [(List.mergeSort_perm _ _).mem_iff, keysB_eq]
    exact List.mem_map.2 ⟨n, h, rfl⟩
  obtain ⟨j, hj, e⟩ := List.getElem_of_mem h1
  refine ⟨j, by rw [keysS_len] at hj; exact hj, ?_⟩
  unfold nameAt
  have e2 : (keysS es).getD j [] = (keysS es)[j] := by simp [List.getD, hj]
  rw [e2, e]
/-- A crash that keeps nothing leaves what is synced. -/
theorem crash_nil {d : Dsk} {n : ByteArray} {f : Fl} (h : Sx.look d.es n = some f) : Sx.look (d.crash []).es n = some ⟨f.b.take f.safe, f.safe⟩ := by
  have hm : n ∈ keys (d.crash []).es := by rw [crash_keys]; exact mem_keys h
  obtain ⟨f', hf'⟩ := look_some hm
  have e : fileOf d.es n = f := by unfold fileOf; rw [h]; rfl
  have h2 := (crN_nil (keysS d.es) d.es n d.es.length).2 (name_at (mem_keys h))
  have hf2 : Sx.look (crN [] (keysS d.es) d.es d.es.length) n = some f' := hf'
  have e' : fileOf (crN [] (keysS d.es) d.es d.es.length) n = f' := by
    unfold fileOf
    rw [hf2]
    rfl
  rw [e', e] at h2
  rw [hf', h2]
theorem open_nil {d d' : Dsk} {g g' : Lg} {k i : Nat} {L : List (List UInt8)} {b : List UInt8} (ho : Ok d g k L) (hm : Nice g.name) (ha : g.age < 10000000) (hL : L.length ≤ 998) (hdi : g.dirty = []) (h : Apd d g k L b i g' d') (hk : k = i + 1) : Sg (d'.crash []) g.name g.age k L g.size := by
  have hkL := run_len ho.sg.run
  have hsy : ∀ j, j < k → ∀ f, Sx.look d.es (nm g.name g.age j) = some f → f.safe = f.b.length := fun j hj f hf => ho.dirty _ (by rw [ho.files]; exact mem_segs.2 ⟨j, hj, rfl⟩) (by rw [hdi]; exact List.not_mem_nil) f hf
  refine ⟨run_keep ho.sg.run fun j hj f hf => ?_, fun n h1 h2 => crash_none ?_ [], ho.sg.top⟩
  · have hs := hsy j hj f hf
    by_cases e : j = i
    · subst e
      have hff : d.file (nm g.name g.age j) = f := by
        unfold Dsk.file
        rw [hf]
        rfl
      have h3 : Sx.look d'.es (nm g.name g.age j) = some ⟨f.b ++ rec1 L.length b, f.safe⟩ := by rw [h.es, look_put, if_pos rfl, hff]
      refine ⟨_, crash_nil h3, ?_⟩
      dsimp only
      rw [hs, List.take_left']
      rfl
    · have hne : nm g.name g.age j ≠ nm g.name g.age i := fun e2 => e (hm.inj ha (by omega) ha (by omega) e2).2
      refine ⟨_, crash_nil (by rw [h.others _ hne]; exact hf), ?_⟩
      dsimp only
      rw [hs, List.take_length]
  · rw [h.others n fun e => h2 (mem_segs.2 ⟨i, by omega, e.symm⟩)]
    exact ho.sg.only n h1 h2
theorem foot_out {lb p mb : Nat} {fv dv fv' dv' : Value} {b B : Nat} (h : b ∉ foot lb p mb fv dv) (hr : ∀ k ∈ rowsOf fv' dv', k ∈ rowsOf fv dv ∨ B ≤ k) (hlt : b < B) : b ∉ foot lb p mb fv' dv' := fun h9 => by
  rcases foot_mem.1 h9 with e | e | e | e
  · exact h (foot_mem.2 (.inl e))
  · exact h (foot_mem.2 (.inr (.inl e)))
  · exact h (foot_mem.2 (.inr (.inr (.inl e))))
  · rcases hr b e with e | e
    · exact h (foot_mem.2 (.inr (.inr (.inr e))))
    · omega
/-- One record that was read. -/
theorem got_one {B : Nat} {w : World} {v : Value} {x : List UInt8} (h : OwnBs B w v [x]) (hx : x ≠ []) : ∃ g c b off c', v = .slice (some ⟨g, 0, none⟩) 1 c ∧ w.cell? ⟨g, 0, none⟩ = some (.slice (some ⟨b, off, none⟩) x.length c') ∧ ∀ j (hj : j < x.length), w.cell? ⟨b, off + j, none⟩ = some (.int .u8 (x[j].toNat : Int)) := by
  obtain ⟨oa, oc, rfl, _⟩ := h.form
  obtain ⟨g, a', c', rfl, hcell, hown⟩ := h.ints (j := 0) (by simp)
  obtain ⟨b, off, cap, h1, h2, h3⟩ := Ints.ofO hown
  have hxl : 0 < x.length := List.length_pos_iff.2 hx
  have hl : (nums x).length = x.length := by unfold nums; rw [List.length_map]
  rcases h1 with h1 | ⟨_, h1⟩
  · have e1 := Value.slice.inj h1
    refine ⟨g, oc, b, off, c', rfl, ?_, fun j hj => ?_⟩
    · rw [hcell, e1.1]
      rfl
    · rw [h3 j (by show j < (nums x).length; omega)]
      simp [nums]
  · exfalso
    have : (nums x).length = 0 := by
      have h1' : nums x = [] := h1
      rw [h1']
      rfl
    omega
/-- The row of a literal of one byte. -/
def bcO (x : UInt8) (e : TypeId) : Obj := .cells [.int .u8 (x.toNat : Int)].toArray e (1, 2)
theorem below_bc (w : World) (x : UInt8) (e : TypeId) : Below w.heap.size w (w.alloc (bcO x e)) := (Below.refl _ _).alloc (Nat.le_refl _) _
theorem by_bc (w : World) (x : UInt8) (e : TypeId) : By (w.alloc (bcO x e)) (.slice (some ⟨w.heap.size, 0, none⟩) 1 1) [x] := by
  refine .inl ⟨w.heap.size, 0, 1, .inl rfl, fun _ => by rw [World.size_alloc]; omega, fun j hj => ?_⟩
  obtain rfl : j = 0 := by
    have : j < 1 := hj
    omega
  have h0 : (w.alloc (bcO x e)).heap[w.heap.size]? = some (.cells [Value.int .u8 (x.toNat : Int)].toArray e (1, 2)) := by
    show (w.heap.push _)[w.heap.size]? = _
    simp
    rfl
  simp only [World.cell?, h0]
  rfl
section rules
variable {P : Program} {rd : Option Nat} {n : Nat} {ops : Array Oper} {Q : Post} {rest : List Oper} {F : Fr} {ds : List Deferred} {w : World} {ty : TypeId} {pos : String} {after : Array Edge}
theorem Lst_bconst {d : Nat} {t e : TypeId} {x : Operand} {c : UInt8} (hx : ev F x = .slice (some ⟨w.heap.size, 0, none⟩) 1 1) (ht : P.underlying t = some (.slice e)) (he : P.underlying e = some (.int .u8)) (hd : Nat.blt d n = true)
    (h : Lst P rd n ops Q rest (upd F d (.slice (some ⟨w.heap.size, 0, none⟩) 1 1)) ds (w.alloc (bcO c e))) : Lst P rd n ops Q (⟨some d, .convert t t x, ty, pos, after, none⟩ :: rest) F ds (w.alloc (.cells [.int .u8 (c.toNat : Int)].toArray e)) := by
  have hrun := Lib.run_convert_bytes_const (P := P) w t e [.int .u8 (c.toNat : Int)].toArray 1 1 ht he
  exact Lst_value rfl (by simp [execOp, hx, hrun, bcO]) hd h
/-- make([]T, m) of integers, as a block of its own. -/
theorem Lst_makeb {d m bytes : Nat} {kk : IntKind} {x y : Operand} {t e : TypeId} (hx : ev F x = .int .i64 (m : Int)) (hy : ev F y = .int .i64 (m : Int)) (ht : P.underlying t = some (.slice e)) (hinfo : (P.info? e).map (fun i => (i.zero, i.size, i.bytes)) = some (some (.int kk 0), 1, bytes)) (hm : bytes * m ≤ 281474976710656) (hm2 : m ≤ 9223372036854775807) (hd : Nat.blt d n = true)
    (h : Lst P rd n ops Q rest (upd F d (.slice (some ⟨w.heap.size, 0, none⟩) m m)) ds (w.alloc (.cells (List.replicate m (Value.int kk 0)).toArray e))) :
    Lst P rd n ops Q (⟨some d, .makeSlice t x y, ty, pos, after, none⟩ :: rest) F ds w := by
  have hrun := run_make_row' (P := P) t e (.int kk 0) bytes ht hinfo rfl .i64 .i64 m hm hm2 w
  have hc : madeCells #[.int kk 0] m = (List.replicate m (Value.int kk 0)).toArray := by
    apply Array.ext
    · simp [madeCells]
    · intro i h1 h2
      simp [madeCells, Nat.mod_one]
  rw [hc] at hrun
  exact Lst_value rfl (by simp [execOp, hx, hy, hrun]) hd h
end rules
theorem by_zero (w : World) (N : Nat) (e : TypeId) : By (w.alloc (.cells (List.replicate N (Value.int .u8 0)).toArray e)) (.slice (some ⟨w.heap.size, 0, none⟩) N N) (List.replicate N 0) := by
  have h0 : (w.alloc (.cells (List.replicate N (Value.int .u8 0)).toArray e)).heap[w.heap.size]? = some (.cells (List.replicate N (Value.int .u8 0)).toArray e (0, 0)) := by
    show (w.heap.push _)[w.heap.size]? = _
    simp
  have hl : (nums (List.replicate N 0)).length = N := by unfold nums; rw [List.length_map, List.length_replicate]
  refine .inl ⟨w.heap.size, 0, N, .inl (by rw [hl]), fun _ => by rw [World.size_alloc]; omega, fun j hj => ?_⟩
  rw [hl] at hj
  simp only [World.cell?, h0]
  simp [nums, hj]
theorem append_big {g : Lg} {d : Dsk} {b : List UInt8} (h1 : g.dead = false) (h2 : d.dead = false) (hb : 1048576 < b.length) : (g.append d b).1 = 50 := by
  have hfell : (g.fell d).dead = false := by
    unfold Lg.fell
    dsimp only
    rw [h1, h2]
    rfl
  unfold Lg.append
  rw [if_neg (by rw [hfell]; simp), if_pos hb]
section
attribute [local irreducible] RnS RnT
attribute [local irreducible] W Lst Qst Pu seqQ blkQ rndQ cutQ retQ Does Enters IntKind.wrap bits sb World.alloc World.putObj Blk
theorem c_known (w : World) (hEnv : Env w) : Does Tryz.prog 6 #[] w fun v w' => v = .bool true ∧ Below w.heap.size w w' := by
  refine Does_of (args := []) Tryz.func6 (by kernel_rfl) rfl rfl rfl rfl rfl ?_
  have hE : Base w w := ⟨hEnv, Below.refl _ _⟩
  (refine Ga ?_)
  (apply Lst_call; (focus rfl); (focus rfl))
  refine (c_begun 64 w _ (hE.below Bel)).mono ?_
  rintro v w1 ⟨wb, lb, p, mb, fv, ov, g, d, rfl, hB, hL, hn, ha, hdi, hsg, hroom, hus, hwf, hwb⟩
  unfold wcs at hB
  have hlt := hB.lt
  (refine Ga ?_)
  refine W_calm ?_
  refine W_drawS 14 (fun A => A.cell? ⟨wb, 1, none⟩ = some (.pointer (some ⟨lb, 0, none⟩))) rfl rfl ?_
  have hS : w1.drew.cell? ⟨wb, 1, none⟩ = some (.pointer (some ⟨lb, 0, none⟩)) := hB.cell 1
  refine S_takeV 0 13 rfl (by kernel_rfl) calm_no hS ?_
  (refine Qb ?_)
  refine S_takeV 1 12 rfl (by kernel_rfl) calm_no hS ?_
  (refine Qb ?_)
  refine S_takeV 2 11 rfl (by kernel_rfl) calm_no hS ?_
  (refine Qb ?_)
  refine S_takeV 3 10 rfl (by kernel_rfl) calm_no hS ?_
  apply Qst_loadc
  focus rfl
  focus rfl
  focus rfl
  focus exact fun A9 hA9 => hA9
  focus rfl
  (refine Qb ?_)
  refine S_takeV 7 9 rfl (by kernel_rfl) calm_no hS ?_
  (refine Qb ?_)
  refine S_takeV 8 8 rfl (by kernel_rfl) calm_no hS ?_
  (refine Qb ?_)
  refine S_takeV 9 7 rfl (by kernel_rfl) calm_no hS ?_
  (refine Qb ?_)
  refine S_takeV 10 6 rfl (by kernel_rfl) calm_no hS ?_
  apply Qst_loadc
  focus rfl
  focus rfl
  focus rfl
  focus exact fun A9 hA9 => hA9
  focus rfl
  (refine Qb ?_)
  refine S_any [4] 5 rfl (by kernel_rfl) (all1 ?_)
  (apply Lst_lit1; (focus constructor); (focus rfl); (focus rfl); (focus rfl); (focus rfl); (focus rfl); (focus rfl); (focus rfl); (focus rfl); (focus ((try simp only [Sx.sizes]); first | done | rfl)); (focus rfl))
  have hS2 : (w1.drew.alloc (.cells [.int .u8 97].toArray 5)).cell? ⟨wb, 1, none⟩ = some (.pointer (some ⟨lb, 0, none⟩)) := (hB.below (w' := w1.drew.alloc (.cells [.int .u8 97].toArray 5)) Bel hlt).cell 1
  try apply Lst_nil
  apply rnQ_n
  refine ⟨hS2, ?_⟩
  clear hS
  have hS := hS2
  clear hS2
  refine S_any [5] 4 rfl (by kernel_rfl) (all1 ?_)
  apply Lst_bconst (c := 97)
  focus rfl
  focus rfl
  focus rfl
  focus rfl
  have hbx := below_bc w1.drew 97 5
  have hv := by_bc w1.drew 97 5
  generalize w1.drew.alloc (bcO 97 5) = wx at hbx hv ⊢
  have hbx : Below w1.heap.size w1 wx := (Below.drew (Below.refl _ _)).trans (hbx.mono (by rw [Sx.size_drew]; omega))
  have hBx := hB.below hbx hlt
  have hLx := hL.below hbx
  have hS2 : wx.cell? ⟨wb, 1, none⟩ = some (.pointer (some ⟨lb, 0, none⟩)) := hBx.cell 1
  try apply Lst_nil
  apply rnQ_n
  refine ⟨hS2, ?_⟩
  clear hS
  have hS := hS2
  clear hS2
  refine S_any [6] 3 rfl (by kernel_rfl) (all1 ?_)
  (apply Lst_call; (focus rfl); (focus rfl))
  refine (s_Append hLx (by rw [hn]; exact nice_log) (by omega) (by simp) (by omega) _ [97] (by simp) hv (by rw [hus, hroom]; decide) (by rw [hus]; decide)).mono ?_
  rintro v w2 ⟨rfl, fv2, dv2, g2, d2, i2, hL2, hN2, hA2, hc2, hr2⟩
  have hB2 := hc2.blk hBx hwf
  have hwf2 := foot_out hwf hr2 hBx.lt
  have hS2 : w2.cell? ⟨wb, 1, none⟩ = some (.pointer (some ⟨lb, 0, none⟩)) := hB2.cell 1
  try apply Lst_nil
  apply rnQ_n
  refine ⟨hS2, ?_⟩
  clear hS
  have hS := hS2
  clear hS2
  refine S_any [11] 2 rfl (by kernel_rfl) (all1 ?_)
  (apply Lst_call; (focus rfl); (focus rfl))
  refine (s_Sync hL2 (by rw [hN2.name, hn]; exact nice_log) (by rw [hA2.age]; omega) (by simp)).mono ?_
  rintro v w3 ⟨rfl, fv3, dv3, g3, d3, hL3, hN3, ha3, hdi3, hus3, hc3, hr3⟩
  have hB3 := hc3.blk hB2 hwf2
  have hwf3 := foot_out hwf2 hr3 hB2.lt
  have hS2 : w3.cell? ⟨wb, 1, none⟩ = some (.pointer (some ⟨lb, 0, none⟩)) := hB3.cell 1
  try apply Lst_nil
  apply rnQ_n
  refine ⟨hS2, ?_⟩
  clear hS
  have hS := hS2
  clear hS2
  refine S_takeV 12 1 rfl (by kernel_rfl) calm_no hS ?_
  (refine Qb ?_)
  refine S_takeV 13 0 rfl (by kernel_rfl) calm_no hS ?_
  (refine Qb ?_)
  refine S_done (by kernel_rfl) ?_
  refine calm_n ?_
  (refine Ga ?_)
  (apply Lst_lit1; (focus constructor); (focus rfl); (focus rfl); (focus rfl); (focus rfl); (focus rfl); (focus rfl); (focus rfl); (focus rfl); (focus ((try simp only [Sx.sizes]); first | done | rfl)); (focus rfl))
  apply Lst_bconst (c := 98)
  focus rfl
  focus rfl
  focus rfl
  focus rfl
  have hbx := below_bc w3 98 5
  have hv := by_bc w3 98 5
  generalize w3.alloc (bcO 98 5) = wx at hbx hv ⊢
  have hBx := hB3.below hbx hB3.lt
  have hLx := hL3.below hbx
  have hn3 : g3.name = logN := by rw [hN3.name, hN2.name, hn]
  have ha3 : g3.age = 0 := by rw [ha3, hA2.age, ha]
  have hi2 : i2 = 0 := by
    have := hA2.num
    omega
  subst hi2
  have hu3 : used d3.es ≤ 21 := by
    have := hA2.used
    rw [hus] at this
    have e : ([97] : List UInt8).length = 1 := rfl
    omega
  have hr3 : d3.room = 1048576 := by rw [hN3.room, hN2.room, hroom]
  have hz3 : g3.size = 21 := by
    obtain ⟨L', z', f, M, e1, k1, k2, k3, _, k4, _⟩ := run_pos hL3.ok.sg.run
    obtain ⟨rfl, _⟩ := run_zero k1
    have e2 : M = [[97]] := by simpa using e1.symm
    rw [k4, k3, e2]
    show (recB 0 [[97]]).length = 21
    rw [recB_one, rec_len]
    rfl
  have hns : newSeg g3 [98] = false := by
    have h1 : g3.files.length = 1 := by rw [hL3.ok.files, segs_len]
    have h2 : g3.seg = 64 := by rw [hN3.seg, hN2.seg, hsg]; decide
    unfold newSeg
    rw [h1, h2, hz3]
    rfl
  (apply Lst_call; (focus rfl); (focus rfl))
  refine (s_Append hLx (by rw [hn3]; exact nice_log) (by omega) (by simp) (by simp) _ [98] (by simp) hv (by rw [hr3]; have e : ([98] : List UInt8).length = 1 := rfl; omega) (by have e : ([98] : List UInt8).length = 1 := rfl; omega)).mono ?_
  rintro v w4 ⟨rfl, fv4, dv4, g4, d4, i4, hL4, hN4, hA4, hc4, hr4⟩
  have hB4 := hc4.blk hBx hwf3
  have hwf4 := foot_out hwf3 hr4 hBx.lt
  have hlt4 := hB4.lt
  (refine Ga ?_)
  (apply Lst_call; (focus rfl); (focus rfl))
  refine (c_Crash p mb d4 (hL4.gd.names (by omega)) (fun n f hf => Nat.le_trans (hL4.gd.size (z := 100000) (by simp) n f hf) (by decide)) (.slice none 0 0) [] (by simp) (by simp) w4 hL4.mem.dk ⟨0, 0, 0, .inr ⟨⟨none, rfl⟩, rfl⟩, fun e => absurd rfl e, fun j hj => by simp at hj⟩).mono ?_
  rintro v w5 ⟨rfl, hD5, hc5⟩
  have hpm : ∀ b ∈ [p, mb], w.heap.size ≤ b := fun b hb => hL4.mem.low b (by simp only [List.mem_cons, List.not_mem_nil, or_false] at hb; rcases hb with rfl | rfl; exact foot_mem.2 (.inr (.inl rfl)); exact foot_mem.2 (.inr (.inr (.inl rfl))))
  have hE5 : Base w w5 := hL4.mem.base.chg hc5 hpm
  have hwpm : wb ∉ [p, mb] := fun h9 => hwf (by simp only [List.mem_cons, List.not_mem_nil, or_false] at h9; rcases h9 with rfl | rfl; exact foot_mem.2 (.inr (.inl rfl)); exact foot_mem.2 (.inr (.inr (.inl rfl))))
  have hB5 := hc5.blk hB4 hwpm
  have hlt5 := hB5.lt
  have hS5 := open_nil hL3.ok (by rw [hn3]; exact nice_log) (by omega) (by simp) hdi3 hA4 (hA4.old hns)
  rw [hn3, ha3] at hS5
  obtain ⟨hg5, hf5⟩ := hL4.gd.crash []
  (refine Ga ?_)
  (apply Lst_call; (focus rfl); (focus rfl))
  refine (s_Open 64 hS5 (by omega) (by simp) nice_log hf5 hg5 (by simp) (by omega) w w5 hE5 (hpm p (by simp)) (hpm mb (by simp)) hD5).mono ?_
  rintro v w6 ⟨lb6, fv6, ov6, g6, d6, rfl, hL6, hn6, ha6, hdi6, hsg6, hroom6, hus6, hoth6, hob6, hc6, hlb6, hfv6⟩
  have hB6 := hc6.blk hB5 hwpm
  have hlt6 := hB6.lt
  obtain ⟨q6, oc6, b6, o6, c6, rfl, hq6, hx6⟩ := got_one (x := [97]) hob6 (by simp)
  (refine Ga ?_)
  apply Lst_pu
  · apply Tl.P_idxu (q := 0)
    focus rfl
    focus rfl
    focus rfl
    focus rfl
    focus rfl
    focus decide
    focus decide
  focus rfl
  (refine Ga ?_)
  apply Lst_bytes (l := [97])
  focus rfl
  focus rfl
  focus rfl
  focus rfl
  focus rfl
  focus exact hx6
  focus rfl
  (refine Ga ?_)
  (apply Lst_lit1; (focus constructor); (focus rfl); (focus rfl); (focus rfl); (focus rfl); (focus rfl); (focus rfl); (focus rfl); (focus rfl); (focus ((try simp only [Sx.sizes]); first | done | rfl)); (focus rfl))
  apply Lst_bconst (c := 115)
  focus rfl
  focus rfl
  focus rfl
  focus rfl
  have hbx := below_bc w6 115 5
  have hv := by_bc w6 115 5
  generalize w6.alloc (bcO 115 5) = wy at hbx hv ⊢
  have hBy := hB6.below hbx hB6.lt
  have hLy := hL6.below hbx
  have hu6 : used d6.es ≤ 1000 := by
    have h1 := hg5.fine.used
    simp only [List.length_singleton] at h1
    omega
  have hr6 : d6.room = 1048576 := by
    have h1 : d4.room = 1048576 := by rw [hN4.room, hr3]
    rw [hroom6]
    exact h1
  have hwf6 : wb ∉ foot lb6 p mb fv6 (.slice none 0 0) := fun h9 => by
    rcases foot_mem.1 h9 with e | e | e | e
    · have := hB5.lt
      omega
    · exact hwpm (by simp [e])
    · exact hwpm (by simp [e])
    · unfold rowsOf at e
      rcases List.mem_append.1 e with e | e
      · have := hfv6 wb (by simpa using e)
        have := hB5.lt
        omega
      · cases e
  (apply Lst_call; (focus rfl); (focus rfl))
  refine (s_Restart hLy (by rw [hn6]; exact nice_log) (by omega) (by simp) (by simp) _ [115] (by simp) hv (by rw [hr6]; have e : ([115] : List UInt8).length = 1 := rfl; omega) (by have e : ([115] : List UInt8).length = 1 := rfl; omega)).mono ?_
  rintro v w7 ⟨rfl, fv7, dv7, g7, d7, hL7, hN7, ha7, _, _, hc7, hr7⟩
  have hB7 := hc7.blk hBy hwf6
  have hlt7 := hB7.lt
  (refine Ga ?_)
  have hn7 : g7.name = logN := by rw [hN7.name, hn6]
  have ha7 : g7.age = 1 := by omega
  have hS7 := hL7.ok.sg
  rw [hn7, ha7] at hS7
  (apply Lst_call; (focus rfl); (focus rfl))
  refine (s_Open 64 hS7 (by omega) (by simp) nice_log hL7.free hL7.gd (by simp) (by omega) w w7 hL7.mem.base (hpm p (by simp)) (hpm mb (by simp)) hL7.mem.dk).mono ?_
  rintro v w8 ⟨lb8, fv8, ov8, g8, d8, rfl, hL8, hn8, ha8, hdi8, hsg8, hroom8, hus8, hoth8, hob8, hc8, hlb8, hfv8⟩
  obtain ⟨q8, oc8, b8, o8, c8, rfl, hq8, hx8⟩ := got_one (x := [115]) hob8 (by simp)
  (refine Ga ?_)
  apply Lst_pu
  · apply Tl.P_idxu (q := 0)
    focus rfl
    focus rfl
    focus rfl
    focus rfl
    focus rfl
    focus decide
    focus decide
  focus rfl
  (refine Ga ?_)
  apply Lst_bytes (l := [115])
  focus rfl
  focus rfl
  focus rfl
  focus rfl
  focus rfl
  focus exact hx8
  focus rfl
  (refine Ga ?_)
  apply Lst_makeb (m := 1048577) (bytes := 1)
  focus rfl
  focus rfl
  focus rfl
  focus kernel_rfl
  focus decide
  focus decide
  focus rfl
  have hz := by_zero w8 1048577 5
  have hbz : Below w8.heap.size w8 (w8.alloc (.cells (List.replicate 1048577 (Value.int .u8 0)).toArray 5)) := Bel
  generalize w8.alloc (.cells (List.replicate 1048577 (Value.int .u8 0)).toArray 5) = wz at hz hbz ⊢
  have hdk := hL7.mem.log.disk hL7.mem.dk
  have hM8 : LogM w w8 lb6 p mb fv7 dv7 g7 d8 := ⟨hL8.mem.base, hL7.mem.log.chg hc8 hdk.1 hdk.2, hL8.mem.dk, hL7.mem.low⟩
  have hlen : (List.replicate 1048577 (0 : UInt8)).length = 1048577 := List.length_replicate
  have h50 := append_big (b := List.replicate 1048577 (0 : UInt8)) hL7.ok.dead hL8.free.dead (by rw [hlen]; decide)
  generalize List.replicate 1048577 (0 : UInt8) = bz at hz hlen h50
  (refine Ga ?_)
  (apply Lst_call; (focus rfl); (focus rfl))
  refine (m_Append (hM8.below hbz) hL7.ok (Nat.le_trans hL7.gd.fine.used (by simp)) (by have := hL8.free.cut; omega) (by rw [hn7]; exact nice_log) (by omega) (by simp) hL8.gd (by simp) _ bz (by omega) hz).mono ?_
  rintro v w9 ⟨rfl, fv9, dv9, _, _, hc9, _⟩
  rw [h50]
  (refine Ga ?_)
  (apply retQ1; (focus rfl))
  exact ⟨rfl, ((hM8.below hbz).base.chg hc9 (hM8.below hbz).low).low⟩
end
end Wa
end Go.Proofs.YtfocnbmihcnaoaaGreatDoor
