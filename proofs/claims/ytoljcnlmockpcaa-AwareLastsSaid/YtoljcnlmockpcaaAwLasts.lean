/- AwareLasts. -/
import Derived.Test.YtoljcnlmockpcaaAwK
import Derived.Test.YtoljcnlmockpcaaPlace
namespace Go.Proofs.Ytoljcnlmockpcaa
set_option maxRecDepth 100000
namespace Aw
open Go Go.RowKit Sx Wire
open So (W_cutS)
def here : ByteArray := ⟨#[104, 101, 114, 101]⟩
def still : ByteArray := ⟨#[115, 116, 105, 108, 108]⟩
def lx : Pr := ⟨1, 1, here, false⟩
def ly (leaves : Bool) : Pr := if leaves then ⟨1, 3, ⟨#[]⟩, true⟩ else ⟨1, 2, still, false⟩
def lb0 (L : Int) : Awr := ⟨2, L, 0, 0, []⟩
def lb (L : Int) (y : Pr) (n i : Nat) : Awr := ⟨2, L, ((n + i : Nat) : Int), 0, [⟨y, (n : Int)⟩]⟩
theorem lx_ok : lx.Ok := ⟨by decide, by decide, by decide, by decide, fun h => by cases h⟩
theorem ly_ok (l : Bool) : (ly l).Ok := by
  cases l with
  | false => exact ⟨by decide, by decide, by decide, by decide, fun h => by cases h⟩
  | true => exact ⟨by decide, by decide, by decide, by decide, fun _ => rfl⟩
theorem l_t1 (L : Int) : (lb0 L).take (wrL [lx]) = (lb L lx 0 0, true, 0) := by
  rw [take_one _ _ lx_ok (by decide), take1_new (by show ¬ 1 ≤ 0; omega) (by show 1 ≠ 2; omega)]
  rfl
theorem l_t2 (L : Int) (i : Nat) : (lb L lx 0 i).take (wrL [lx]) = (lb L lx 0 i, false, 0) := by
  rw [take_one _ _ lx_ok (by decide), take1_old (by show 1 ≤ 1; omega)]
theorem l_t3 (L : Int) (n : Nat) (l : Bool) : (lb L lx 0 n).take (wrL [ly l]) = (lb L (ly l) n 0, true, 0) := by
  rw [take_one _ _ (ly_ok l) (by cases l <;> decide), take1_new (by cases l <;> (first | (show ¬ 2 ≤ 1; omega) | (show ¬ 3 ≤ 1; omega))) (by cases l <;> (show 1 ≠ 2; omega))]
  unfold lb
  cases l
  · show ((⟨2, L, ((0 + n : Nat) : Int), 0, [⟨_, ((0 + n : Nat) : Int)⟩]⟩ : Awr), true, (0 : Int)) = _
    rw [Nat.zero_add]
    rfl
  · show ((⟨2, L, ((0 + n : Nat) : Int), 0, [⟨_, ((0 + n : Nat) : Int)⟩]⟩ : Awr), true, (0 : Int)) = _
    rw [Nat.zero_add]
    rfl
theorem l_t4 (L : Int) (n i : Nat) (l : Bool) : (lb L (ly l) n i).take (wrL [lx]) = (lb L (ly l) n i, false, 0) := by
  rw [take_one _ _ lx_ok (by decide), take1_old (by cases l <;> (first | (show 1 ≤ 2; omega) | (show 1 ≤ 3; omega)))]
theorem l_wrap (n i : Nat) (hi : i < 1000) : IntKind.u64.wrap (((n + i : Nat) : Int) - (n : Int)) = (i : Int) := by
  rw [wu64 (by omega) (by omega)]
  omega
theorem l_seen (L : Int) (y : Pr) (n i : Nat) (hi : i < 1000) : (lb L y n i).seen.length = if !y.g && decide ((i : Int) < L) then 1 else 0 := by
  have hh : (lb L y n i).here ⟨y, (n : Int)⟩ = (!y.g && decide ((i : Int) < L)) := by
    unfold Awr.here lb
    dsimp only
    rw [l_wrap n i hi]
  unfold Awr.seen
  rw [List.length_map]
  show (List.filter (lb L y n i).here [⟨y, (n : Int)⟩]).length = _
  by_cases h : (!y.g && decide ((i : Int) < L)) = true
  · rw [List.filter_cons_of_pos (by rw [hh]; exact h), if_pos h]
    rfl
  · rw [List.filter_cons_of_neg (by rw [hh]; exact h), if_neg h]
    rfl
theorem l_tick (L : Int) (y : Pr) (n i : Nat) (hi : i < 1000) (hn : n < 1000) : { lb L y n i with now := IntKind.u64.wrap ((lb L y n i).now + 1) } = lb L y n (i + 1) := by
  unfold lb
  dsimp only
  rw [wu64 (by omega) (by omega)]
  congr 1
attribute [local irreducible] W Lst Qst Pu seqQ blkQ rndQ cutQ retQ Does Enters IntKind.wrap bits sb World.alloc World.putObj Blk
set_option maxHeartbeats 2000000 in
theorem law_AwareLasts (z k m : Int) (leaves : Bool) (hz : 0 ≤ z ∧ z < 18446744073709551616) (w : World) : Does Try.prog 8 #[.int .u64 z, .int .i64 k, .int .i64 m, .bool leaves] w fun v w' => v = .bool true ∧ Below w.heap.size w w' := by
  refine Does_of (args := [.int .u64 z, .int .i64 k, .int .i64 m, .bool leaves]) Try.func8 (by kernel_rfl) rfl rfl rfl rfl rfl ?_
  (refine Ga ?_)
  (apply Lst_call; (focus rfl); (focus rfl))
  refine (c_known20 w).mono ?_
  rintro v w1 ⟨rfl, b1⟩
  have s1 := b1.size
  obtain ⟨L, hL⟩ : ∃ L : Int, L = 1 + z.tmod 30 := ⟨_, rfl⟩
  have hm0 : 0 ≤ z.tmod 30 := Int.tmod_nonneg _ hz.1
  have hm1 : z.tmod 30 < 30 := Int.tmod_lt_of_pos _ (by omega)
  have hw : arith .add .u64 1 (z.tmod 30) = L := by
    show IntKind.u64.wrap (1 + z.tmod 30) = _
    rw [wu64 (by omega) (by omega)]
    omega
  have hmx : max L 1 = L := by omega
  (refine Ga ?_)
  (apply Lst_call; (focus rfl); (focus rfl))
  refine (c_New 1 L w1).mono ?_
  rw [hmx]
  rintro v w2 ⟨p, mb, rfl, hp, hm, hA, b2⟩
  (refine Ga ?_)
  (apply Lst_call; (focus rfl); (focus rfl))
  refine (c_New 2 L w2).mono ?_
  rw [hmx]
  rintro v w3 ⟨p2, mb2, rfl, hp2, hm2, hB, b3⟩
  have T3 := Two.new hp hm hA b2 hp2 hm2 hB b3
  clear hA hB b2 b3 hp hm hp2 hm2
  (refine Ga ?_)
  (apply Lst_call; (focus rfl); (focus rfl))
  refine (c_Tell p mb _ here (by show 1 < _; omega) (by decide) (by show 0 < _; omega) w3 T3.A).mono ?_
  rintro v w4 ⟨⟨u, rfl, hu4⟩, hA4, hc4⟩
  have hu4 : Ints w4 .u8 u (nums (wrL [lx])) := hu4
  have T4 := T3.stepA hA4 hc4
  obtain ⟨u1, u2, rfl⟩ := hu4.form
  have hlx := wrL_one_len _ lx_ok
  clear hA4 hc4 T3
  (refine Ga ?_)
  (apply Lst_call; (focus rfl); (focus rfl))
  refine (c_TakeE p2 mb2 (lb0 L) _ _ (l_t1 L) (by omega) w4 T4.B hu4).mono ?_
  rintro v w5 ⟨rfl, hB5, hc5⟩
  have T5 := T4.stepB hB5 hc5
  have hu5 := T4.B.ints hu4 hc5
  clear hB5 hc5 T4 hu4
  (refine Ga ?_)
  (apply Lst_call; (focus rfl); (focus rfl))
  refine (h_Place k 40 _ (by decide) (by decide)).mono ?_
  rintro v w' ⟨rfl, rfl⟩
  obtain ⟨N, hN⟩ : ∃ N : Nat, k % 40 = (N : Int) := ⟨(k % 40).toNat, by omega⟩
  have hN4 : N < 40 := by omega
  rw [hN]
  (refine Ga ?_)
  refine W_loop (α := Nat) (fun i => [(0, .int .u64 L), (2, .int .i64 m), (3, .bool leaves), (9, .pointer (some ⟨p, 0, none⟩)), (10, .pointer (some ⟨p2, 0, none⟩)), (11, .slice u1 (nums (wrL [lx])).length u2), (13, .int .i64 (N : Int)), (14, .int .i64 (i : Int))])
    (fun i A => i ≤ N ∧ Two w1 A p mb p2 mb2 ((⟨1, L, 0, 0, []⟩ : Awr).say here false) (lb L lx 0 i) ∧ Ints A .u8 (.slice u1 (nums (wrL [lx])).length u2) (nums (wrL [lx]))) (fun i _ => N - i) 0
    ⟨Nat.zero_le _, T5, hu5⟩ ⟨rfl, rfl, rfl, rfl, rfl, rfl, rfl, rfl, trivial⟩ ?_
  clear T5 hu5
  rintro J i A ⟨hi, T, hu⟩
  by_cases hiN : i < N
  · have hwi : IntKind.u64.wrap (i : Int) = (i : Int) := wu64 (by omega) (by omega)
    have hinc : Value.int .i64 ((i : Int) + 1) = Value.int .i64 ((i + 1 : Nat) : Int) := by
      rw [Int.natCast_add]
      rfl
    have htk := l_tick L lx 0 i (by omega) (by omega)
    by_cases hiL : (i : Int) < L
    · have hs1 : ((lb L lx 0 i).seen.length : Int) = 1 := by
        rw [l_seen L lx 0 i (by omega), show lx.g = false from rfl, decide_eq_true hiL]
        rfl
      (refine Ga ?_)
      (apply Lst_call; (focus rfl); (focus rfl))
      refine (c_Seen p2 mb2 (lb L lx 0 i) (by show 1 ≤ 1000000; omega) A T.B).mono ?_
      rintro v A1 ⟨hs, hb1⟩
      obtain ⟨x1, x2, rfl⟩ := hs.form
      have T1 := T.below hb1
      have hu1 := Ints.below hu hb1 (Nat.le_refl _)
      (refine Ga ?_)
      (apply Lst_call; (focus rfl); (focus rfl))
      refine (c_Tick p2 mb2 _ A1 T1.B).mono ?_
      rintro v A2 ⟨rfl, hB2, hc2⟩
      have hc2' : Chg [p2, mb2] A1 A2 := hc2.mono (by simp)
      rw [htk] at hB2
      have T2 := T1.stepB hB2 hc2'
      have hu2 := T1.B.ints hu1 hc2'
      (refine Ga ?_)
      (apply Lst_call; (focus rfl); (focus rfl))
      refine (c_TakeE p2 mb2 _ _ _ (l_t2 L (i + 1)) (by omega) A2 T2.B hu2).mono ?_
      rintro v A3 ⟨rfl, hB3, hc3⟩
      (refine Ga ?_)
      exact rndQ_n (i + 1) ⟨by omega, T2.stepB hB3 hc3, T2.B.ints hu2 hc3⟩ ⟨rfl, rfl, rfl, rfl, rfl, rfl, rfl, hinc, trivial⟩ (by omega)
    · have hs1 : ((lb L lx 0 i).seen.length : Int) = 0 := by
        rw [l_seen L lx 0 i (by omega), show lx.g = false from rfl, decide_eq_false hiL]
        rfl
      (refine Ga ?_)
      (apply Lst_call; (focus rfl); (focus rfl))
      refine (c_Seen p2 mb2 (lb L lx 0 i) (by show 1 ≤ 1000000; omega) A T.B).mono ?_
      rintro v A1 ⟨hs, hb1⟩
      obtain ⟨x1, x2, rfl⟩ := hs.form
      have T1 := T.below hb1
      have hu1 := Ints.below hu hb1 (Nat.le_refl _)
      (refine Ga ?_)
      (apply Lst_call; (focus rfl); (focus rfl))
      refine (c_Tick p2 mb2 _ A1 T1.B).mono ?_
      rintro v A2 ⟨rfl, hB2, hc2⟩
      have hc2' : Chg [p2, mb2] A1 A2 := hc2.mono (by simp)
      rw [htk] at hB2
      have T2 := T1.stepB hB2 hc2'
      have hu2 := T1.B.ints hu1 hc2'
      (refine Ga ?_)
      (apply Lst_call; (focus rfl); (focus rfl))
      refine (c_TakeE p2 mb2 _ _ _ (l_t2 L (i + 1)) (by omega) A2 T2.B hu2).mono ?_
      rintro v A3 ⟨rfl, hB3, hc3⟩
      (refine Ga ?_)
      exact rndQ_n (i + 1) ⟨by omega, T2.stepB hB3 hc3, T2.B.ints hu2 hc3⟩ ⟨rfl, rfl, rfl, rfl, rfl, rfl, rfl, hinc, trivial⟩ (by omega)
  · obtain rfl : i = N := by omega
    clear hN hi
    (refine Ga ?_)
    (apply Lst_call; (focus rfl); (focus rfl))
    refine (c_Tell p mb _ still (by show 1 < _; omega) (by decide) (by show 0 + 1 < _; omega) A T.A).mono ?_
    rintro v A1 ⟨⟨y, rfl, hy⟩, hA1, hc1⟩
    have hy1 : Ints A1 .u8 y (nums (wrL [ly false])) := hy
    have T1 := T.stepA hA1 hc1
    have hu1 := T.A.ints hu hc1
    obtain ⟨y1, y2, rfl⟩ := hy.form
    clear hA1 hc1
    (refine Ga ?_)
    refine W_cutS (α := Value) (fun y => [(0, .int .u64 L), (2, .int .i64 m), (3, .bool leaves), (10, .pointer (some ⟨p2, 0, none⟩)), (11, .slice u1 (nums (wrL [lx])).length u2), (15, y), (17, .int .u64 ((ly leaves).k : Int))])
      (fun y A => (∃ a, Two w1 A p mb p2 mb2 a (lb L lx 0 i)) ∧ Ints A .u8 (.slice u1 (nums (wrL [lx])).length u2) (nums (wrL [lx])) ∧ Ints A .u8 y (nums (wrL [ly leaves]))) ?_ ?_
    · cases leaves with
      | false =>
        (refine Ga ?_)
        exact cutQ_n _ ⟨⟨_, T1⟩, hu1, hy1⟩ ⟨rfl, rfl, rfl, rfl, rfl, rfl, rfl, trivial⟩
      | true =>
        (refine Ga ?_)
        (apply Lst_call; (focus rfl); (focus rfl))
        refine (c_Leave p mb _ (by show 1 < _; omega) (by show 0 + 1 + 1 < _; omega) A1 T1.A).mono ?_
        rintro v A2 ⟨hy2, hA2, hc2⟩
        have hy2' : Ints A2 .u8 v (nums (wrL [ly true])) := hy2
        have T2 := T1.stepA hA2 hc2
        have hu2 := T1.A.ints hu1 hc2
        obtain ⟨z1, z2, rfl⟩ := hy2.form
        (refine Ga ?_)
        exact cutQ_n _ ⟨⟨_, T2⟩, hu2, hy2'⟩ ⟨rfl, rfl, rfl, rfl, rfl, rfl, rfl, trivial⟩
    clear T T1 hu hu1 hy1
    rintro J y A2 ⟨⟨a, T⟩, hu, hy⟩
    obtain ⟨y3, y4, rfl⟩ := hy.form
    have hly := wrL_one_len _ (ly_ok leaves)
    (refine Ga ?_)
    (apply Lst_call; (focus rfl); (focus rfl))
    refine (c_TakeE p2 mb2 _ _ _ (l_t3 L i leaves) (by omega) A2 T.B hy).mono ?_
    rintro v A3 ⟨rfl, hB3, hc3⟩
    have T3 := T.stepB hB3 hc3
    have hu3 := T.B.ints hu hc3
    clear hB3 hc3 T hu hy
    (refine Ga ?_)
    (apply Lst_call; (focus rfl); (focus rfl))
    refine (h_Place m 40 _ (by decide) (by decide)).mono ?_
    rintro v w' ⟨rfl, rfl⟩
    obtain ⟨M, hM⟩ : ∃ M : Nat, m % 40 = (M : Int) := ⟨(m % 40).toNat, by omega⟩
    have hM4 : M < 40 := by omega
    rw [hM]
    (refine Ga ?_)
    refine W_loop (α := Nat) (fun j => [(0, .int .u64 L), (3, .bool leaves), (10, .pointer (some ⟨p2, 0, none⟩)), (11, .slice u1 (nums (wrL [lx])).length u2), (17, .int .u64 ((ly leaves).k : Int)), (20, .int .i64 (M : Int)), (21, .int .i64 (j : Int))])
      (fun j B => j ≤ M ∧ Two w1 B p mb p2 mb2 a (lb L (ly leaves) i j) ∧ Ints B .u8 (.slice u1 (nums (wrL [lx])).length u2) (nums (wrL [lx]))) (fun j _ => M - j) 0
      ⟨Nat.zero_le _, T3, hu3⟩ ⟨rfl, rfl, rfl, rfl, rfl, rfl, rfl, trivial⟩ ?_
    clear T3 hu3
    rintro J j B ⟨hj, T, hu⟩
    have hwj : IntKind.u64.wrap (j : Int) = (j : Int) := wu64 (by omega) (by omega)
    have hinc : Value.int .i64 ((j : Int) + 1) = Value.int .i64 ((j + 1 : Nat) : Int) := by
      rw [Int.natCast_add]
      rfl
    by_cases hjM : j < M
    · cases leaves with
      | true =>
        have hs1 : ((lb L (ly true) i j).seen.length : Int) = 0 := by
          rw [l_seen L (ly true) i j (by omega), show (ly true).g = true from rfl]
          rfl
        (refine Ga ?_)
        (apply Lst_call; (focus rfl); (focus rfl))
        refine (c_Seen p2 mb2 (lb L (ly true) i j) (by show 1 ≤ 1000000; omega) B T.B).mono ?_
        rintro v B1 ⟨hs, hb1⟩
        obtain ⟨x1, x2, rfl⟩ := hs.form
        have T1 := T.below hb1
        have hu1 := Ints.below hu hb1 (Nat.le_refl _)
        (refine Ga ?_)
        (apply Lst_call; (focus rfl); (focus rfl))
        refine (c_Tick p2 mb2 _ B1 T1.B).mono ?_
        rintro v B2 ⟨rfl, hB2, hc2⟩
        have hc2' : Chg [p2, mb2] B1 B2 := hc2.mono (by simp)
        rw [l_tick L (ly true) i j (by omega) (by omega)] at hB2
        (refine Ga ?_)
        exact rndQ_n (j + 1) ⟨by omega, T1.stepB hB2 hc2', T1.B.ints hu1 hc2'⟩ ⟨rfl, rfl, rfl, rfl, rfl, rfl, hinc, trivial⟩ (by omega)
      | false =>
        by_cases hjL : (j : Int) < L
        · have hs1 : ((lb L (ly false) i j).seen.length : Int) = 1 := by
            rw [l_seen L (ly false) i j (by omega), show (ly false).g = false from rfl, decide_eq_true hjL]
            rfl
          (refine Ga ?_)
          (apply Lst_call; (focus rfl); (focus rfl))
          refine (c_Seen p2 mb2 (lb L (ly false) i j) (by show 1 ≤ 1000000; omega) B T.B).mono ?_
          rintro v B1 ⟨hs, hb1⟩
          obtain ⟨x1, x2, rfl⟩ := hs.form
          have T1 := T.below hb1
          have hu1 := Ints.below hu hb1 (Nat.le_refl _)
          (refine Ga ?_)
          (apply Lst_call; (focus rfl); (focus rfl))
          refine (c_Tick p2 mb2 _ B1 T1.B).mono ?_
          rintro v B2 ⟨rfl, hB2, hc2⟩
          have hc2' : Chg [p2, mb2] B1 B2 := hc2.mono (by simp)
          rw [l_tick L (ly false) i j (by omega) (by omega)] at hB2
          (refine Ga ?_)
          exact rndQ_n (j + 1) ⟨by omega, T1.stepB hB2 hc2', T1.B.ints hu1 hc2'⟩ ⟨rfl, rfl, rfl, rfl, rfl, rfl, hinc, trivial⟩ (by omega)
        · have hs1 : ((lb L (ly false) i j).seen.length : Int) = 0 := by
            rw [l_seen L (ly false) i j (by omega), show (ly false).g = false from rfl, decide_eq_false hjL]
            rfl
          (refine Ga ?_)
          (apply Lst_call; (focus rfl); (focus rfl))
          refine (c_Seen p2 mb2 (lb L (ly false) i j) (by show 1 ≤ 1000000; omega) B T.B).mono ?_
          rintro v B1 ⟨hs, hb1⟩
          obtain ⟨x1, x2, rfl⟩ := hs.form
          have T1 := T.below hb1
          have hu1 := Ints.below hu hb1 (Nat.le_refl _)
          (refine Ga ?_)
          (apply Lst_call; (focus rfl); (focus rfl))
          refine (c_Tick p2 mb2 _ B1 T1.B).mono ?_
          rintro v B2 ⟨rfl, hB2, hc2⟩
          have hc2' : Chg [p2, mb2] B1 B2 := hc2.mono (by simp)
          rw [l_tick L (ly false) i j (by omega) (by omega)] at hB2
          (refine Ga ?_)
          exact rndQ_n (j + 1) ⟨by omega, T1.stepB hB2 hc2', T1.B.ints hu1 hc2'⟩ ⟨rfl, rfl, rfl, rfl, rfl, rfl, hinc, trivial⟩ (by omega)
    · obtain rfl : j = M := by omega
      (refine Ga ?_)
      (apply Lst_call; (focus rfl); (focus rfl))
      refine (c_TakeE p2 mb2 _ _ _ (l_t4 L i j leaves) (by omega) B T.B hu).mono ?_
      rintro v B1 ⟨rfl, hB1, hc1⟩
      have T1 := T.stepB hB1 hc1
      clear hB1 hc1 T hu
      (refine Ga ?_)
      (apply Lst_call; (focus rfl); (focus rfl))
      refine (c_Clock p2 mb2 1 _ B1 T1.B).mono ?_
      rintro v w' ⟨rfl, rfl⟩
      have hck : ((lb L (ly leaves) i j).clock 1 : Int) = ((ly leaves).k : Int) := by cases leaves <;> rfl
      by_cases hj0 : 0 < j
      · (refine Ga ?_)
        (apply retQ1; (focus rfl))
        exact ⟨rfl, b1.trans (T1.bel.mono b1.size)⟩
      · obtain rfl : j = 0 := by omega
        have h0L : ((0 : Nat) : Int) < L := by omega
        cases leaves with
        | true =>
          have hs1 : ((lb L (ly true) i 0).seen.length : Int) = 0 := by
            rw [l_seen L (ly true) i 0 (by omega), show (ly true).g = true from rfl]
            rfl
          (refine Ga ?_)
          (apply Lst_call; (focus rfl); (focus rfl))
          refine (c_Seen p2 mb2 (lb L (ly true) i 0) (by show 1 ≤ 1000000; omega) B1 T1.B).mono ?_
          rintro v B2 ⟨hs, hb2⟩
          obtain ⟨x1, x2, rfl⟩ := hs.form
          have T2 := T1.below hb2
          (refine Ga ?_)
          (apply retQ1; (focus rfl))
          exact ⟨rfl, b1.trans (T2.bel.mono b1.size)⟩
        | false =>
          have hs1 : ((lb L (ly false) i 0).seen.length : Int) = 1 := by
            rw [l_seen L (ly false) i 0 (by omega), show (ly false).g = false from rfl, decide_eq_true h0L]
            rfl
          (refine Ga ?_)
          (apply Lst_call; (focus rfl); (focus rfl))
          refine (c_Seen p2 mb2 (lb L (ly false) i 0) (by show 1 ≤ 1000000; omega) B1 T1.B).mono ?_
          rintro v B2 ⟨hs, hb2⟩
          obtain ⟨x1, x2, rfl⟩ := hs.form
          have T2 := T1.below hb2
          (refine Ga ?_)
          (apply retQ1; (focus rfl))
          exact ⟨rfl, b1.trans (T2.bel.mono b1.size)⟩
end Aw
end Go.Proofs.Ytoljcnlmockpcaa
