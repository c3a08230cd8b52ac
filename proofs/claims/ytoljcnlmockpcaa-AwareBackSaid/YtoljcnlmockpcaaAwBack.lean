/- AwareBack. -/
import Derived.Test.YtoljcnlmockpcaaAwK
namespace Go.Proofs.Ytoljcnlmockpcaa
set_option maxRecDepth 100000
namespace Aw
open Go Go.RowKit Sx Wire
/-- What was told of client 4. -/
def ow (c : Nat) (s : ByteArray) : Pr := ⟨4, c, s, false⟩
def oa (c : Nat) : Awr := ⟨4, 9, 0, c, []⟩
def ob (c : Nat) (s : ByteArray) : Awr := ⟨5, 9, 0, 0, [⟨ow c s, 0⟩]⟩
def ob0 : Awr := ⟨5, 9, 0, 0, []⟩
theorem ow_ok {c : Nat} {s : ByteArray} (h0 : 0 < c) (hc : c ≤ 9007199254740991) (hs : s.size ≤ 256) : (ow c s).Ok := ⟨by show 4 ≤ _; omega, h0, hc, hs, fun h => by cases h⟩
theorem o_t1 {c : Nat} {s : ByteArray} (h0 : 0 < c) (hc : c ≤ 9007199254740991) (hs : s.size ≤ 256) : ob0.take (wrL [ow c s]) = (ob c s, true, 0) := by
  rw [take_one _ _ (ow_ok h0 hc hs) (by show 0 < 4; omega), take1_new (by show ¬ c ≤ 0; omega) (by show 4 ≠ 5; omega)]
  rfl
theorem o_t2 {c : Nat} {s : ByteArray} (h0 : 0 < c) (hc : c ≤ 9007199254740991) (hs : s.size ≤ 256) : (oa 0).take (wrL [ow c s]) = (oa c, true, 0) := by
  rw [take_one _ _ (ow_ok h0 hc hs) (by show 0 < 4; omega), take1_own (by show ¬ c ≤ 0; omega) rfl]
  rfl
theorem o_t3 {c : Nat} {s : ByteArray} (h0 : 0 < c) (hc : c ≤ 9007199254740991) (hs : s.size ≤ 256) : (oa c).take (wrL [ow c s]) = (oa c, false, 0) := by
  rw [take_one _ _ (ow_ok h0 hc hs) (by show 0 < 4; omega), take1_old (by show c ≤ c; omega)]
theorem o_t4 {c : Nat} {s t : ByteArray} (hc : c + 1 ≤ 9007199254740991) (ht : t.size ≤ 256) : (ob c s).take (wrL [ow (c + 1) t]) = (ob (c + 1) t, true, 0) := by
  rw [take_one _ _ (ow_ok (Nat.succ_pos c) hc ht) (by show 0 < 4; omega), take1_new (by show ¬ c + 1 ≤ c; omega) (by show 4 ≠ 5; omega)]
  rfl
theorem o_s (c : Nat) (s : ByteArray) : (ob c s).seen = [ow c s] := by rfl
attribute [local irreducible] W Lst Qst Pu seqQ blkQ rndQ cutQ retQ Does Enters IntKind.wrap bits sb World.alloc World.putObj Blk
set_option maxHeartbeats 2000000 in
theorem law_AwareBack (z : Int) (old fresh : ByteArray) (hz : 0 ≤ z ∧ z < 18446744073709551616) (w : World) : Does Try.prog 6 #[.int .u64 z, .string old, .string fresh] w fun v w' => v = .bool true ∧ Below w.heap.size w w' := by
  refine Does_of (args := [.int .u64 z, .string old, .string fresh]) Try.func6 (by kernel_rfl) rfl rfl rfl rfl rfl ?_
  (refine Ga ?_)
  (apply Lst_call; (focus rfl); (focus rfl))
  refine (c_known20 w).mono ?_
  rintro v w1 ⟨rfl, b1⟩
  have s1 := b1.size
  by_cases hs : 256 < old.size
  · (refine Ga ?_)
    (apply retQ1; (focus rfl))
    exact ⟨rfl, b1⟩
  by_cases ht : 256 < fresh.size
  · (refine Ga ?_)
    (apply retQ1; (focus rfl))
    exact ⟨rfl, b1⟩
  obtain ⟨c, hc⟩ : ∃ c : Nat, c = 1 + (z.tmod 9007199254740990).toNat := ⟨_, rfl⟩
  have hm0 : 0 ≤ z.tmod 9007199254740990 := Int.tmod_nonneg _ hz.1
  have hm1 : z.tmod 9007199254740990 < 9007199254740990 := Int.tmod_lt_of_pos _ (by omega)
  have hw : arith .add .u64 1 (z.tmod 9007199254740990) = (c : Int) := by
    show IntKind.u64.wrap (1 + z.tmod 9007199254740990) = _
    rw [wu64 (by omega) (by omega)]
    omega
  have hc0 : 0 < c := by omega
  have hcM : c + 1 ≤ 9007199254740991 := by omega
  have hcM' : c ≤ 9007199254740991 := by omega
  have hs' : old.size ≤ 256 := by omega
  have ht' : fresh.size ≤ 256 := by omega
  have hok := ow_ok hc0 hcM' hs'
  have hlp := wrL_one_len _ hok
  (refine Ga ?_)
  (apply Lst_lit1; (focus constructor); (focus rfl); (focus rfl); (focus rfl); (focus rfl); (focus rfl); (focus rfl); (focus rfl); (focus rfl); (focus ((try simp only [Sx.sizes]); first | done | rfl)); (focus rfl))
  (refine Ga ?_)
  have bX : Below w1.heap.size w1 (w1.alloc (.cells [.int .u64 4, .int .u64 (c : Int), .string old, .bool false].toArray 37)) := Bel
  have hP : Prs (w1.alloc (.cells [.int .u64 4, .int .u64 (c : Int), .string old, .bool false].toArray 37)) (.slice (some ⟨w1.heap.size, 0, none⟩) 1 1) [ow c old] := Prs.one (p := ow c old) (Blk.newE rfl _ _) 1
  have b2 := b1.trans (bX.mono b1.size)
  generalize w1.alloc (.cells [.int .u64 4, .int .u64 (c : Int), .string old, .bool false].toArray 37) = w2 at *
  (apply Lst_call; (focus rfl); (focus rfl))
  refine (r_Write _ [ow c old] (fun q hq => by rw [List.mem_singleton.1 hq]; exact hok.fit) (by omega) w2 hP).mono ?_
  rintro v w3 ⟨hu, hb3⟩
  have hu3 := hu.ints
  obtain ⟨u1, u2, u3, rfl⟩ := own_slice hu
  have b3 := b2.trans (hb3.mono b2.size)
  clear hP b2 hb3 hu bX
  (refine Ga ?_)
  (apply Lst_call; (focus rfl); (focus rfl))
  refine (c_New 4 9 w3).mono ?_
  rintro v w4 ⟨p, mb, rfl, hp, hm, hA, b4⟩
  (refine Ga ?_)
  (apply Lst_call; (focus rfl); (focus rfl))
  refine (c_New 5 9 w4).mono ?_
  rintro v w5 ⟨p2, mb2, rfl, hp2, hm2, hB, b5⟩
  have T5 := Two.new hp hm hA b4 hp2 hm2 hB b5
  have hu5 := (Ints.below hu3 b4 (Nat.le_refl _)).below b5 (Nat.le_refl _)
  clear hA b4 hB b5 hp hm hp2 hm2 hu3
  (refine Ga ?_)
  (apply Lst_call; (focus rfl); (focus rfl))
  refine (c_TakeE p2 mb2 ob0 _ _ (o_t1 hc0 hcM' hs') (by omega) w5 T5.B hu5).mono ?_
  rintro v w6 ⟨rfl, hB6, hc6⟩
  have T6 := T5.stepB hB6 hc6
  have hu6 := T5.B.ints hu5 hc6
  clear hB6 hc6 T5 hu5
  (refine Ga ?_)
  (apply Lst_call; (focus rfl); (focus rfl))
  refine (c_TakeE p mb (oa 0) _ _ (o_t2 hc0 hcM' hs') (by omega) w6 T6.A hu6).mono ?_
  rintro v w7 ⟨rfl, hA7, hc7⟩
  have T7 := T6.stepA hA7 hc7
  have hu7 := T6.A.ints hu6 hc7
  clear hA7 hc7 T6 hu6
  (refine Ga ?_)
  (apply Lst_call; (focus rfl); (focus rfl))
  refine (c_TakeE p mb (oa c) _ _ (o_t3 hc0 hcM' hs') (by omega) w7 T7.A hu7).mono ?_
  rintro v w8 ⟨rfl, hA8, hc8⟩
  have T8 := T7.stepA hA8 hc8
  clear hA8 hc8 T7 hu7
  (refine Ga ?_)
  (apply Lst_call; (focus rfl); (focus rfl))
  refine (c_SeenE p mb (oa c) (l := []) rfl (Nat.zero_le _) w8 T8.A).mono ?_
  rintro v w9 ⟨⟨hs9, x1, x2, rfl⟩, hb9⟩
  have T9 := T8.below hb9
  have hl0 : (([] : List Pr).length : Int) = 0 := rfl
  clear T8 hb9 hs9
  (refine Ga ?_)
  (apply Lst_call; (focus rfl); (focus rfl))
  refine (c_Clock p mb 4 (oa c) w9 T9.A).mono ?_
  rintro v w' ⟨rfl, rfl⟩
  have hck : ((oa c).clock 4 : Int) = (c : Int) := rfl
  (refine Ga ?_)
  (apply Lst_call; (focus rfl); (focus rfl))
  refine (c_Tell p mb (oa c) fresh (by show 4 < _; omega) ht' (by show c < _; omega) w9 T9.A).mono ?_
  rintro v w10 ⟨⟨u, rfl, hu10⟩, hA10, hc10⟩
  have hu10 : Ints w10 .u8 u (nums (wrL [ow (c + 1) fresh])) := hu10
  have T10 := T9.stepA hA10 hc10
  obtain ⟨y1, y2, rfl⟩ := hu10.form
  clear hA10 hc10 T9
  have hlp2 : (wrL [ow (c + 1) fresh]).length ≤ 300 := wrL_one_len _ (ow_ok (Nat.succ_pos c) hcM ht')
  (refine Ga ?_)
  (apply Lst_call; (focus rfl); (focus rfl))
  refine (c_TakeE p2 mb2 (ob c old) _ _ (o_t4 hcM ht') (by omega) w10 T10.B hu10).mono ?_
  rintro v w11 ⟨rfl, hB11, hc11⟩
  have T11 := T10.stepB hB11 hc11
  clear hB11 hc11 T10 hu10
  (refine Ga ?_)
  (apply Lst_call; (focus rfl); (focus rfl))
  refine (c_SeenE p2 mb2 (ob (c + 1) fresh) (o_s _ _) (by show 1 ≤ 1000000; omega) w11 T11.B).mono ?_
  rintro v w12 ⟨⟨hs12, q1, q2, rfl⟩, hb12⟩
  have T12 := T11.below hb12
  have hlen : ((([ow (c + 1) fresh] : List Pr).length : Nat) : Int) = 1 := rfl
  obtain ⟨b', off, rfl, hbl, hcells⟩ := hs12.at (i := 0) (Nat.succ_pos 0)
  (refine Ga ?_)
  apply Lst_pu
  · apply P_idx
    focus rfl
    focus rfl
    focus rfl
    focus rfl
    focus rfl
    focus omega
    focus (rw [hlen]; omega)
  focus rfl
  (refine Ga ?_)
  apply Lst_loadS' (hc := hcells)
  focus rfl
  focus rfl
  focus rfl
  focus rfl
  focus rfl
  focus rfl
  show Lst _ _ _ _ _ _ (upd _ _ (.agg #[.int .u64 4, .int .u64 ((c + 1 : Nat) : Int), .string fresh, .bool false])) _ _
  have hw2 : arith .add .u64 (c : Int) 1 = ((c + 1 : Nat) : Int) := by
    show IntKind.u64.wrap ((c : Int) + 1) = _
    rw [wu64 (by omega) (by omega)]
    omega
  (refine Ga ?_)
  (apply retQ1; (focus rfl))
  exact ⟨rfl, b3.trans (T12.bel.mono b3.size)⟩
end Aw
end Go.Proofs.Ytoljcnlmockpcaa
