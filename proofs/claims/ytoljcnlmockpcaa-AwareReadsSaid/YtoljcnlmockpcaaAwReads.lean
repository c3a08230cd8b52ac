/- AwareReads. -/
import Derived.Test.YtoljcnlmockpcaaRwC
namespace Go.Proofs.Ytoljcnlmockpcaa
set_option maxRecDepth 100000
namespace Aw
open Go Go.RowKit Sx Wire
open So (cutQ_p rndQ_p W_cutS)
def me : ByteArray := ⟨#[109, 101]⟩
def z0 : Awr := ⟨2, 9, 0, 0, []⟩
theorem z_sm (t : Bool) : (if t then z0.say me false else z0).Sm ∧ (if t then z0.say me false else z0).es.length ≤ 1 := by
  cases t with
  | false => exact ⟨fun e he => (by cases he), Nat.zero_le _⟩
  | true =>
    refine ⟨fun e he => ?_, Nat.le_refl _⟩
    have he' : e ∈ [(⟨⟨2, 1, me, false⟩, 0⟩ : En)] := he
    obtain rfl := List.mem_singleton.1 he'
    exact ⟨by show 2 ≤ _; omega, by show 1 ≤ _; omega, by show 2 ≤ 256; omega⟩
attribute [local irreducible] W Lst Qst Pu seqQ blkQ rndQ cutQ retQ Does Enters IntKind.wrap bits sb World.alloc World.putObj Blk
set_option maxHeartbeats 2000000 in
theorem law_AwareReads (v : Value) (b : List UInt8) (tell : Bool) (hbl : b.length ≤ 281474976710656) (w : World) (hv : Ints w .u8 v (nums b)) (hvc : ∃ x m c, v = .slice x m c ∧ m ≤ c) : Does Try.prog 4 #[v, .bool tell] w fun v w' => v = .bool true ∧ Below w.heap.size w w' := by
  obtain ⟨x1, c1, rfl⟩ := hv.form
  rw [nums_length] at *
  have hc1 : b.length ≤ c1 := by
    obtain ⟨_, _, _, e, hle⟩ := hvc
    cases e
    exact hle
  clear hvc
  refine Does_of (args := [.slice x1 b.length c1, .bool tell]) Try.func4 (by kernel_rfl) rfl rfl rfl rfl rfl ?_
  (refine Ga ?_)
  (apply Lst_call; (focus rfl); (focus rfl))
  refine (c_known20 w).mono ?_
  rintro v w1 ⟨rfl, b1⟩
  have s1 := b1.size
  by_cases h3 : 3000 < b.length
  · (refine Ga ?_)
    (apply retQ1; (focus rfl))
    exact ⟨rfl, b1⟩
  (refine Ga ?_)
  (apply Lst_call; (focus rfl); (focus rfl))
  refine (c_New 2 9 w1).mono ?_
  rintro v w2 ⟨p, mb, rfl, hp, hm, hA, b2⟩
  (refine Ga ?_)
  (apply Lst_call; (focus rfl); (focus rfl))
  refine (r_New 2 9 w2).mono ?_
  rintro v w3 ⟨q, rfl, hq, hR, b3⟩
  have hAl := hA.lt
  have P3 : Pair w1 w3 p mb q z0 := ⟨hA.below b3, hR, by omega, by omega, ⟨hp, hm, by have := b2.size; omega⟩, b2.trans (b3.mono b2.size)⟩
  clear hA hR b2 b3 hp hm hq hAl
  (refine Ga ?_)
  refine W_cutS (α := Unit) (fun _ => [(0, .slice x1 b.length c1), (5, .pointer (some ⟨p, 0, none⟩)), (6, .pointer (some ⟨q, 0, none⟩))]) (fun _ A => Pair w1 A p mb q (if tell then z0.say me false else z0)) ?_ ?_
  · cases tell with
    | false =>
      (refine Ga ?_)
      exact cutQ_n () P3 ⟨rfl, rfl, rfl, trivial⟩
    | true =>
      (refine Ga ?_)
      (apply Lst_call; (focus rfl); (focus rfl))
      refine (c_TellO p mb z0 me (by show 2 < _; omega) (by show 2 ≤ 256; omega) (by show 0 < _; omega) w3 P3.A).mono ?_
      rintro v w4 ⟨⟨u, rfl, hu⟩, hA4, hc4⟩
      have hR4 := P3.rchg hc4
      (refine Ga ?_)
      (apply Lst_call; (focus rfl); (focus rfl))
      refine (r_Tell q z0 me (by show 2 ≤ 256; omega) (by show 2 < _; omega) (by show 0 < _; omega) (by show 0 ≤ _; omega) w4 hR4).mono ?_
      rintro v w5 ⟨⟨u, rfl, _⟩, hR5, hc5⟩
      (refine Ga ?_)
      exact cutQ_n () (P3.step hA4 hc4 hR5 hc5) ⟨rfl, rfl, rfl, trivial⟩
  clear P3
  rintro J _ A P
  obtain ⟨hsm, hsl⟩ := z_sm tell
  generalize (if tell then z0.say me false else z0) = a at *
  obtain ⟨hsm2, hsl2⟩ := take_sm hsm b
  have hbA := b1.trans (P.bel.mono s1)
  have sPA := P.bel.size
  have hvA := hv.below hbA (Nat.le_refl _)
  (refine Ga ?_)
  (apply Lst_call; (focus rfl); (focus rfl))
  refine (h_Copy _ b (by omega) A hvA).mono ?_
  rintro v w4 ⟨ho4, b4⟩
  have P4 := P.below b4
  have hlo4 : p < A.heap.size ∧ mb < A.heap.size ∧ q < A.heap.size := ⟨P.A.lt.1, P.A.lt.2, P.R.lt⟩
  have hv4 := hvA.below b4 (Nat.le_refl _)
  have hi4 := ho4.ints
  obtain ⟨y1, y2, rfl, hyc⟩ := own_form ho4
  clear P hvA
  (refine Ga ?_)
  (apply Lst_call; (focus rfl); (focus rfl))
  refine (c_Take p mb a _ b (by omega) w4 P4.A hi4).mono ?_
  rintro v w5 ⟨rfl, hA5, hc5⟩
  have hR5 := P4.rchg hc5
  have hv5 := P4.A.ints hv4 hc5
  have ho5 := own_chg ho4 hc5 (by simp; omega)
  generalize hT : a.take b = T at *
  obtain ⟨a', nw, e⟩ := T
  dsimp only at hA5 hsm2 hsl2 ⊢
  (refine Ga ?_)
  (apply Lst_call; (focus rfl); (focus rfl))
  refine (r_Take q a _ b (by omega) (by omega) w5 hR5 hv5 ⟨_, _, rfl, hc1⟩).mono ?_
  rw [hT]
  rintro v w6 ⟨rfl, hR6, hc6⟩
  have P6 := P4.step hA5 hc5 hR6 hc6
  have ho6 := own_chg ho5 hc6 (by simp; omega)
  (refine Ga ?_)
  (apply Lst_call; (focus rfl); (focus rfl))
  refine (h_Spoil A.heap.size b.length _ _ w6 ho6 (by omega) (fun x hx => by
    obtain ⟨c, _, rfl⟩ := List.mem_map.1 hx
    exact ⟨_, rfl⟩)).mono ?_
  rintro v w7 ⟨rfl, hb7, hk7⟩
  have P7 : Pair w1 w7 p mb q a' := ⟨P6.A.belowB hb7 hlo4.1 hlo4.2.1, P6.R.keep hlo4.2.2 hb7 hk7, P6.n1, P6.n2, P6.lo, P6.bel.trans (hb7.mono sPA)⟩
  clear P6 P4 hA5 hR5 hR6 ho4 ho5 ho6 hb7 hk7 hi4 hv4 hv5
  have hall := wrL_sm hsm2.all (by rw [List.length_map]; omega)
  have hfit : ∀ x ∈ a'.es, x.p.Fit := fun x hx => (hsm2 x hx).fit
  cases nw
  all_goals
    (refine Ga ?_)
    (apply Lst_call; (focus rfl); (focus rfl))
    refine (c_All p mb a' hfit hall w7 P7.A).mono ?_
    rintro u w8 ⟨hu, b8⟩
    have P8 := P7.below b8
    obtain ⟨u1, u2, rfl⟩ := hu.form
    (refine Ga ?_)
    (apply Lst_call; (focus rfl); (focus rfl))
    refine (r_All q a' hfit hall w8 P8.R).mono ?_
    rintro u w9 ⟨hu9, hR9, b9⟩
    have P9 := P8.below b9
    have hu := hu.below b9 (Nat.le_refl _)
    obtain ⟨u3, u4, rfl⟩ := hu9.form
    (refine Ga ?_)
    (apply Lst_call; (focus rfl); (focus rfl))
    refine (h_Bytes _ _ _ _ w9 hu hu9).mono ?_
    rintro r w10 ⟨rfl, rfl⟩
    rw [decide_eq_true rfl]
    (refine Ga ?_)
    (apply Lst_call; (focus rfl); (focus rfl))
    refine (c_Clock p mb 2 a' w9 P9.A).mono ?_
    rintro r w10 ⟨rfl, rfl⟩
    (refine Ga ?_)
    (apply Lst_call; (focus rfl); (focus rfl))
    refine (r_Clock q 2 a' (by omega) w9 P9.R).mono ?_
    rintro r w11 ⟨rfl, hR11, b11⟩
    have P11 := P9.below b11
    (refine Ga ?_)
    (apply retQ1; (focus rfl))
    exact ⟨rfl, b1.trans (P11.bel.mono s1)⟩
end Aw
end Go.Proofs.Ytoljcnlmockpcaa
