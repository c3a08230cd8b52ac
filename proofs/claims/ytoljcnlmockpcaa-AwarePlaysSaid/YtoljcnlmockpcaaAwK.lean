/- The chapter's example. -/
import Derived.Test.YtoljcnlmockpcaaAwT
namespace Go.Proofs.Ytoljcnlmockpcaa
set_option maxRecDepth 100000
namespace Aw
open Go Go.RowKit Sx Wire
def bx : ByteArray := ⟨#[120]⟩
theorem rd_1 : rdL [1] = none := by rfl
/-- What the first one tells. -/
def km : Pr := ⟨1, 1, bx, false⟩
def kb0 : Awr := ⟨2, 5, 0, 0, []⟩
def kb (n : Int) : Awr := ⟨2, 5, n, 0, [⟨km, 0⟩]⟩
theorem km_ok : km.Ok := ⟨by decide, by decide, by decide, by decide, fun h => by cases h⟩
theorem k_t1 : kb0.take (wrL [km]) = (kb 0, true, 0) := by
  rw [take_one _ _ km_ok (by decide), take1_new (by decide) (by decide)]
  rfl
theorem k_t2 : (kb 0).take (wrL [km]) = (kb 0, false, 0) := by
  rw [take_one _ _ km_ok (by decide), take1_old (by decide)]
theorem k_t3 : (kb 0).take [1] = (kb 0, false, 200) := by
  unfold Awr.take
  rw [rd_1]
theorem k_s1 : (kb 0).seen = [km] := by rfl
theorem k_s2 : (kb 5).seen = [] := by rfl
theorem k_c : (kb 5).clock 1 = 1 := by decide
theorem k_w (i : Nat) (h : i < 5) : IntKind.u64.wrap ((i : Int) + 1) = ((i + 1 : Nat) : Int) := wu64 (by omega) (by omega)
theorem k_len : 1 < (wrL ((kb 5).es.map (·.p))).length := by
  have h1 := wrs_len ((kb 5).es.map (·.p))
  have h2 := uvarint_pos ((kb 5).es.map (·.p)).length
  have h3 : ((kb 5).es.map (·.p)).length = 1 := rfl
  unfold wrL
  rw [List.length_append]
  omega
theorem k_len2 : (wrL ((kb 5).es.map (·.p))).length ≤ 100000000 := by
  have : (kb 5).es.map (·.p) = [km] := rfl
  rw [this]
  have := wrL_one_len km km_ok
  omega
attribute [local irreducible] W Lst Qst Pu seqQ blkQ rndQ cutQ retQ Does Enters IntKind.wrap bits sb World.alloc World.putObj Blk
set_option maxHeartbeats 2000000 in
theorem c_known20 (w : World) : Does Try.prog 10 #[] w fun v w' => v = .bool true ∧ Below w.heap.size w w' := by
  refine Does_of (args := []) Try.func10 (by kernel_rfl) rfl rfl rfl rfl rfl ?_
  (refine Ga ?_)
  (apply Lst_call; (focus rfl); (focus rfl))
  refine (c_New 1 5 w).mono ?_
  rintro v w1 ⟨p, mb, rfl, hp, hm, hA, b1⟩
  (refine Ga ?_)
  (apply Lst_call; (focus rfl); (focus rfl))
  refine (c_New 2 5 w1).mono ?_
  rintro v w2 ⟨p2, mb2, rfl, hp2, hm2, hB, b2⟩
  have T2 := Two.new hp hm hA b1 hp2 hm2 hB b2
  clear hA b1 hB b2 hp hm hp2 hm2
  (refine Ga ?_)
  (apply Lst_call; (focus rfl); (focus rfl))
  refine (c_Tell p mb _ bx (by decide) (by decide) (by decide) w2 T2.A).mono ?_
  rintro v w3 ⟨⟨u, rfl, hu⟩, hA3, hc3⟩
  have T3 := T2.stepA hA3 hc3
  have hu : Ints w3 .u8 u (nums (wrL [km])) := hu
  obtain ⟨u1, u2, rfl⟩ := hu.form
  clear hA3 hc3 T2 w1 w2
  (refine Ga ?_)
  (apply Lst_call; (focus rfl); (focus rfl))
  refine (c_TakeE p2 mb2 kb0 _ (wrL [km]) k_t1 (by have := wrL_one_len km km_ok; omega) w3 T3.B hu).mono ?_
  rintro v w4 ⟨rfl, hB4, hc4⟩
  have T4 := T3.stepB hB4 hc4
  have hu4 := T3.B.ints hu hc4
  clear hB4 hc4 T3 hu
  (refine Ga ?_)
  (apply Lst_call; (focus rfl); (focus rfl))
  refine (c_TakeE p2 mb2 (kb 0) _ (wrL [km]) k_t2 (by have := wrL_one_len km km_ok; omega) w4 T4.B hu4).mono ?_
  rintro v w5 ⟨rfl, hB5, hc5⟩
  have T5 := T4.stepB hB5 hc5
  clear hB5 hc5 T4 hu4
  (refine Ga ?_)
  (apply Lst_call; (focus rfl); (focus rfl))
  refine (c_SeenE p2 mb2 (kb 0) k_s1 (by decide) w5 T5.B).mono ?_
  rintro v w6 ⟨⟨hs, q1, q2, rfl⟩, hb6⟩
  have T6 := T5.below hb6
  clear T5 hb6
  (refine Ga ?_)
  (apply Lst_lit1; (focus constructor); (focus rfl); (focus rfl); (focus rfl); (focus rfl); (focus rfl); (focus rfl); (focus rfl); (focus rfl); (focus ((try simp only [Sx.sizes]); first | done | rfl)); (focus rfl))
  (refine Ga ?_)
  have hb7 : Below w6.heap.size w6 (w6.alloc (.cells [.int .u8 1].toArray 5)) := Bel
  have h1 : Ints (w6.alloc (.cells [.int .u8 1].toArray 5)) .u8 (.slice (some ⟨w6.heap.size, 0, none⟩) 1 1) (nums [1]) := Ints.oneB (x := 1) (T := 5) (Blk.newE rfl _ _) 1
  have T7 := T6.below hb7
  have hs7 := hs.below hb7 (Nat.le_refl _)
  generalize w6.alloc (.cells [.int .u8 1].toArray 5) = w7 at *
  clear T6 hs hb7
  (apply Lst_call; (focus rfl); (focus rfl))
  refine (c_TakeE p2 mb2 (kb 0) _ [1] k_t3 (by decide) w7 T7.B h1).mono ?_
  rintro v w8 ⟨rfl, hB8, hc8⟩
  have T8 := T7.stepB hB8 hc8
  have hs8 : Prs w8 (.slice q1 [km].length q2) [km] := T7.B.prs hs7 hc8
  clear hB8 hc8 T7 h1 hs7 w7
  (refine Ga ?_)
  refine W_loop (α := Nat) (fun i => [(2, .pointer (some ⟨p2, 0, none⟩)), (4, .int .i64 0), (5, .bool true), (6, .int .i64 0), (7, .bool false), (9, .slice q1 [km].length q2), (11, .int .i64 200), (12, .int .i64 (i : Int))])
    (fun i A => i ≤ 5 ∧ (∃ a b, Two w A p mb p2 mb2 a b ∧ b = kb (i : Int)) ∧ Prs A (.slice q1 [km].length q2) [km]) (fun i _ => 5 - i) 0
    ⟨by omega, ⟨_, _, T8, rfl⟩, hs8⟩ ⟨rfl, rfl, rfl, rfl, rfl, rfl, rfl, rfl, trivial⟩ ?_
  clear T8 hs8 w8 hu w3 w4 w5 w6
  rintro J i A ⟨hi, ⟨a, _, T, rfl⟩, hs⟩
  by_cases h5 : i < 5
  · (refine Ga ?_)
    (apply Lst_call; (focus rfl); (focus rfl))
    refine (c_Tick p2 mb2 _ A T.B).mono ?_
    rintro v A1 ⟨rfl, hB, hc⟩
    have hc' : Chg [p2, mb2] A A1 := hc.mono (by simp)
    (refine Ga ?_)
    refine rndQ_n (i + 1) ⟨by omega, ⟨a, _, T.stepB hB hc', ?_⟩, T.B.prs hs hc'⟩ ⟨rfl, rfl, rfl, rfl, rfl, rfl, rfl, ?_, trivial⟩ (by omega)
    · unfold kb
      rw [k_w i h5]
    · show Value.int .i64 ((i : Int) + 1) = Value.int .i64 ((i + 1 : Nat) : Int)
      rw [Int.natCast_add]
      rfl
  · obtain rfl : i = 5 := by omega
    have hlen : (([km].length : Nat) : Int) = 1 := rfl
    obtain ⟨b', off, rfl, hbl, hcells⟩ := hs.at (i := 0) (by decide)
    (refine Ga ?_)
    apply Lst_pu
    · apply P_idx
      focus rfl
      focus rfl
      focus rfl
      focus rfl
      focus rfl
      focus omega
      focus (rw [hlen]; omega)
    focus rfl
    (refine Ga ?_)
    apply Lst_loadS' (hc := hcells)
    focus rfl
    focus rfl
    focus rfl
    focus rfl
    focus rfl
    focus rfl
    show Lst _ _ _ _ _ _ (upd _ _ (.agg #[.int .u64 1, .int .u64 1, .string bx, .bool false])) _ _
    have hbx : bx = ⟨#[120]⟩ := rfl
    (refine Ga ?_)
    (apply Lst_call; (focus rfl); (focus rfl))
    refine (c_SeenE p2 mb2 (kb 5) k_s2 (by decide) A T.B).mono ?_
    rintro v A1 ⟨⟨hs1, x1, x2, rfl⟩, hb1⟩
    have T1 := T.below hb1
    have hl0 : (([] : List Pr).length : Int) = 0 := rfl
    clear T hs hbl hcells hs1 hb1
    (refine Ga ?_)
    (apply Lst_call; (focus rfl); (focus rfl))
    refine (c_Clock p2 mb2 1 (kb 5) A1 T1.B).mono ?_
    rintro v w' ⟨rfl, rfl⟩
    rw [k_c]
    (refine Ga ?_)
    (apply Lst_call; (focus rfl); (focus rfl))
    refine (c_Now p2 mb2 (kb 5) A1 T1.B).mono ?_
    rintro v w' ⟨rfl, rfl⟩
    have hn5 : (kb 5).now = 5 := rfl
    (refine Ga ?_)
    (apply Lst_call; (focus rfl); (focus rfl))
    refine (c_All p2 mb2 (kb 5) (fun e he => by rw [List.mem_singleton.1 he]; exact km_ok.fit) k_len2 A1 T1.B).mono ?_
    rintro v A2 ⟨hu2, hb2⟩
    have T2 := T1.below hb2
    obtain ⟨y1, y2, rfl⟩ := hu2.form
    have hk := k_len
    rw [nums_length]
    generalize (wrL ((kb 5).es.map (·.p))).length = L at *
    (refine Ga ?_)
    (apply retQ1; (focus rfl))
    exact ⟨rfl, T2.bel⟩
end Aw
end Go.Proofs.Ytoljcnlmockpcaa
