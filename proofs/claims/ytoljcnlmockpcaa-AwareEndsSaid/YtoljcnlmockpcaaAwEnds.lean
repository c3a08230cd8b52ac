/- AwareEnds. -/
import Derived.Test.YtoljcnlmockpcaaAwK
import Derived.Test.YtoljcnlmockpcaaPlace
namespace Go.Proofs.Ytoljcnlmockpcaa
set_option maxRecDepth 100000
namespace Aw
open Go Go.RowKit Sx Wire
/-- What was told ahead. -/
def ep (m : Nat) : Pr := ⟨4, 9007199254740991 - m, bx, false⟩
/-- Behind i more. -/
def ea (m : Nat) (s : ByteArray) (i : Nat) : Awr := ⟨4, 9, 0, 9007199254740991 - m + i, if i = 0 then [] else [⟨⟨4, 9007199254740991 - m + i, s, false⟩, 0⟩]⟩
theorem ep_ok (m : Nat) (h : m < 4) : (ep m).Ok := ⟨by show 4 ≤ _; omega, by show 0 < 9007199254740991 - m; omega, by show 9007199254740991 - m ≤ _; omega, by show bx.size ≤ _; decide, fun h => by cases h⟩
theorem e_take (m : Nat) (s : ByteArray) (h : m < 4) : (⟨4, max 9 1, 0, 0, []⟩ : Awr).take (wrL [ep m]) = (ea m s 0, true, 0) := by
  have h0 : ¬ (ep m).k ≤ (⟨4, max 9 1, 0, 0, []⟩ : Awr).clock (ep m).c := by
    show ¬ (9007199254740991 - m) ≤ 0
    omega
  rw [take_one _ _ (ep_ok m h) (by show 0 < 4; omega), take1_own h0 rfl]
  rfl
theorem e_say (m : Nat) (s : ByteArray) (i : Nat) : (ea m s i).say s false = ea m s (i + 1) := by
  unfold Awr.say ea Awr.mine
  dsimp only
  rw [if_neg (Nat.succ_ne_zero i)]
  congr 1
  by_cases hi : i = 0
  · rw [if_pos hi]
    rfl
  · rw [if_neg hi]
    rfl
theorem e_seen (m : Nat) (s : ByteArray) (i : Nat) : (ea m s i).seen.length = if i = 0 then 0 else 1 := by
  unfold ea
  by_cases hi : i = 0
  · rw [if_pos hi, if_pos hi]
    rfl
  · rw [if_neg hi, if_neg hi]
    rfl
theorem e_fit (m : Nat) (s : ByteArray) (i : Nat) (hm : m < 4) (hi : i ≤ m) (hs : s.size ≤ 256) : ∀ e ∈ (ea m s i).es, e.p.Ok := by
  intro e he
  unfold ea at he
  dsimp only at he
  by_cases h : i = 0
  · rw [if_pos h] at he; cases he
  · rw [if_neg h] at he
    rw [List.mem_singleton.1 he]
    exact ⟨by show 4 ≤ _; omega, by show 0 < 9007199254740991 - m + i; omega, by show 9007199254740991 - m + i ≤ _; omega, hs, fun h => by cases h⟩
theorem e_len (m : Nat) (s : ByteArray) (i : Nat) (hm : m < 4) (hi : i ≤ m) (hs : s.size ≤ 256) : (wrL ((ea m s i).es.map (·.p))).length ≤ 1000000 := by
  have hf := e_fit m s i hm hi hs
  unfold ea at hf ⊢
  dsimp only at hf ⊢
  by_cases h : i = 0
  · rw [if_pos h]
    show (Lib.uvarint 0 ++ wrs []).length ≤ _
    rw [Lib.uvarint_small (by omega)]
    decide
  · rw [if_neg h] at hf ⊢
    have := wrL_one_len _ (hf _ (List.mem_singleton.2 rfl))
    exact Nat.le_trans this (by omega)
theorem e_es (m : Nat) (s : ByteArray) (i : Nat) : (ea m s i).es.length ≤ 1000000 := by
  unfold ea
  dsimp only
  split
  · exact Nat.zero_le _
  · show 1 ≤ 1000000
    omega
theorem e_clock (m : Nat) (s : ByteArray) (i : Nat) : (ea m s i).clock 4 = 9007199254740991 - m + i := if_pos rfl
attribute [local irreducible] W Lst Qst Pu seqQ blkQ rndQ cutQ retQ Does Enters IntKind.wrap bits sb World.alloc World.putObj Blk
set_option maxHeartbeats 2000000 in
theorem law_AwareEnds (k : Int) (s : ByteArray) (w : World) : Does Try.prog 9 #[.int .i64 k, .string s] w fun v w' => v = .bool true ∧ Below w.heap.size w w' := by
  refine Does_of (args := [.int .i64 k, .string s]) Try.func9 (by kernel_rfl) rfl rfl rfl rfl rfl ?_
  (refine Ga ?_)
  (apply Lst_call; (focus rfl); (focus rfl))
  refine (c_known20 w).mono ?_
  rintro v w1 ⟨rfl, b1⟩
  have s1 := b1.size
  by_cases hs : 256 < s.size
  · (refine Ga ?_)
    (apply retQ1; (focus rfl))
    exact ⟨rfl, b1⟩
  (refine Ga ?_)
  (apply Lst_call; (focus rfl); (focus rfl))
  refine (h_Place k 4 _ (by decide) (by decide)).mono ?_
  rintro v w' ⟨rfl, rfl⟩
  obtain ⟨m, hm⟩ : ∃ m : Nat, k % 4 = (m : Int) := ⟨(k % 4).toNat, by omega⟩
  have hm4 : m < 4 := by omega
  rw [hm]
  (refine Ga ?_)
  (apply Lst_call; (focus rfl); (focus rfl))
  refine (c_New 4 9 w1).mono ?_
  rintro v w2 ⟨p, mb, rfl, hp, hmb, hA, b2⟩
  have b2' := b1.trans (b2.mono s1)
  have hw : IntKind.u64.wrap (m : Int) = (m : Int) := wu64 (by omega) (by omega)
  have hw2 : arith .sub .u64 9007199254740991 (m : Int) = ((9007199254740991 - m : Nat) : Int) := by
    show IntKind.u64.wrap (9007199254740991 - (m : Int)) = _
    rw [wu64 (by omega) (by omega)]
    omega
  (refine Ga ?_)
  (apply Lst_lit1; (focus constructor); (focus rfl); (focus rfl); (focus rfl); (focus rfl); (focus rfl); (focus rfl); (focus rfl); (focus rfl); (focus ((try simp only [Sx.sizes]); first | done | rfl)); (focus rfl))
  (refine Ga ?_)
  have bX : Below w2.heap.size w2 (w2.alloc (.cells [.int .u64 4, .int .u64 ((9007199254740991 - m : Nat) : Int), .string ⟨#[120]⟩, .bool false].toArray 37)) := Bel
  have hP : Prs (w2.alloc (.cells [.int .u64 4, .int .u64 ((9007199254740991 - m : Nat) : Int), .string ⟨#[120]⟩, .bool false].toArray 37)) (.slice (some ⟨w2.heap.size, 0, none⟩) 1 1) [ep m] := Prs.one (p := ep m) (Blk.newE rfl _ _) 1
  have hA2 := hA.below bX
  have b3 := b2'.trans (bX.mono b2'.size)
  generalize w2.alloc (.cells [.int .u64 4, .int .u64 ((9007199254740991 - m : Nat) : Int), .string ⟨#[120]⟩, .bool false].toArray 37) = w3 at *
  have hok := ep_ok m hm4
  have hlp := wrL_one_len _ hok
  clear hA b2 b2' bX
  (apply Lst_call; (focus rfl); (focus rfl))
  refine (r_Write _ [ep m] (fun q hq => by rw [List.mem_singleton.1 hq]; exact hok.fit) (by omega) w3 hP).mono ?_
  rintro v w4 ⟨hu, hb4⟩
  have hu' := hu.ints
  obtain ⟨u1, u2, u3, rfl⟩ := own_slice hu
  have hA4 := hA2.below hb4
  have b4 := b3.trans (hb4.mono b3.size)
  clear hA2 b3 hb4 hP hu
  (refine Ga ?_)
  (apply Lst_call; (focus rfl); (focus rfl))
  refine (c_TakeE p mb _ _ (wrL [ep m]) (e_take m s hm4) (by omega) w4 hA4 hu').mono ?_
  rintro v w5 ⟨rfl, hA5, hc5⟩
  have b5 := b4.trans (hc5.below (by simp; omega) b4.size)
  clear hA4 b4 hc5 hu'
  (refine Ga ?_)
  refine W_loop (α := Nat) (fun i => [(0, .int .i64 (m : Int)), (1, .string s), (5, .pointer (some ⟨p, 0, none⟩)), (6, .int .i64 (i : Int))])
    (fun i A => i ≤ m ∧ AwAt A p mb (ea m s i) ∧ Below w.heap.size w A) (fun i _ => m - i) 0
    ⟨Nat.zero_le _, hA5, b5⟩ ⟨rfl, rfl, rfl, rfl, trivial⟩ ?_
  clear hA5 b5 w5 w4 w3 w2
  rintro J i A ⟨hi, hA, bA⟩
  by_cases him : i < m
  · (refine Ga ?_)
    (apply Lst_call; (focus rfl); (focus rfl))
    refine (c_Tell p mb (ea m s i) s (by show 4 < _; omega) (by omega) (by show 9007199254740991 - m + i < _; omega) A hA).mono ?_
    rintro v A1 ⟨⟨u, rfl, hu⟩, hA1, hc1⟩
    obtain ⟨x1, x2, rfl⟩ := hu.form
    (refine Ga ?_)
    refine rndQ_n (i + 1) ⟨by omega, by rw [← e_say]; exact hA1, bA.trans (hc1.below (by simp; omega) bA.size)⟩ ⟨rfl, rfl, rfl, ?_, trivial⟩ (by omega)
    show Value.int .i64 ((i : Int) + 1) = Value.int .i64 ((i + 1 : Nat) : Int)
    rw [Int.natCast_add]
    rfl
  · obtain rfl : i = m := by omega
    have hM : 9007199254740991 ≤ (ea i s i).own := by show _ ≤ 9007199254740991 - i + i; omega
    (refine Ga ?_)
    (apply Lst_call; (focus rfl); (focus rfl))
    refine (c_Tell_no p mb (ea i s i) s A hA (.inr hM)).mono ?_
    rintro v w' ⟨rfl, rfl⟩
    (refine Ga ?_)
    (apply Lst_call; (focus rfl); (focus rfl))
    refine (c_All p mb (ea i s i) (fun e he => (e_fit i s i hm4 (Nat.le_refl _) (by omega) e he).fit) (e_len i s i hm4 (Nat.le_refl _) (by omega)) A hA).mono ?_
    rintro v A1 ⟨hu, hb1⟩
    obtain ⟨u1, u2, rfl⟩ := hu.form
    have hA1 := hA.below hb1
    have bA1 := bA.trans (hb1.mono bA.size)
    (refine Ga ?_)
    (apply Lst_call; (focus rfl); (focus rfl))
    refine (c_Leave_no p mb (ea i s i) A1 hA1 hM).mono ?_
    rintro v w' ⟨rfl, rfl⟩
    (refine Ga ?_)
    (apply Lst_call; (focus rfl); (focus rfl))
    refine (c_Clock p mb 4 (ea i s i) A1 hA1).mono ?_
    rintro v w' ⟨rfl, rfl⟩
    have hck : ((ea i s i).clock 4 : Int) = 9007199254740991 := by rw [e_clock]; omega
    (refine Ga ?_)
    (apply Lst_call; (focus rfl); (focus rfl))
    refine (c_All p mb (ea i s i) (fun e he => (e_fit i s i hm4 (Nat.le_refl _) (by omega) e he).fit) (e_len i s i hm4 (Nat.le_refl _) (by omega)) A1 hA1).mono ?_
    rintro v A2 ⟨hu2, hb2⟩
    obtain ⟨y1, y2, rfl⟩ := hu2.form
    have hA2 := hA1.below hb2
    have bA2 := bA1.trans (hb2.mono bA1.size)
    have hu' := Ints.below hu hb2 (Nat.le_refl _)
    (refine Ga ?_)
    (apply Lst_call; (focus rfl); (focus rfl))
    refine (h_Bytes _ _ _ _ A2 hu2 hu').mono ?_
    rintro v w' ⟨rfl, rfl⟩
    rw [decide_eq_true rfl]
    (refine Ga ?_)
    (apply Lst_call; (focus rfl); (focus rfl))
    refine (c_Seen p mb (ea i s i) (e_es i s i) A2 hA2).mono ?_
    rintro v A3 ⟨hs3, hb3⟩
    obtain ⟨z1, z2, rfl⟩ := hs3.form
    have hsl : (((ea i s i).seen.length : Nat) : Int) = min (i : Int) 1 := by rw [e_seen]; split <;> omega
    (refine Ga ?_)
    (apply retQ1; (focus rfl))
    exact ⟨rfl, bA2.trans (hb3.mono bA2.size)⟩
end Aw
end Go.Proofs.Ytoljcnlmockpcaa
