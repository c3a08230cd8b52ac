/- WalLives: the walk. -/
import Derived.Test.YtfocnbmihcnaoaaGreatDoorWaZ
namespace Go.Proofs.YtfocnbmihcnaoaaGreatDoor
set_option maxRecDepth 100000
namespace Wa
open Go Go.RowKit Sx Wire Dk
theorem used_one {es : List (ByteArray × Fl)} {n : ByteArray} {f : Fl} (hn : (keys es).Nodup) (h : Sx.look es n = some f) (ho : ∀ x, x ≠ n → Sx.look es x = none) : used es = f.b.length := by
  have h1 := used_del n es
  rw [h] at h1
  have h2 : Sx.del es n = [] := by
    cases e : Sx.del es n with
    | nil => rfl
    | cons q r =>
      exfalso
      have hq : q.1 ∈ keys (Sx.del es n) := by rw [e]; exact List.mem_cons_self
      obtain ⟨f2, hf2⟩ := look_some hq
      rw [look_del hn] at hf2
      split at hf2
      · cases hf2
      · rename_i h9
        rw [ho _ (Ne.symm h9)] at hf2
        cases hf2
  rw [h2] at h1
  have h3 : used ([] : List (ByteArray × Fl)) = 0 := rfl
  simp only [Option.getD_some] at h1
  omega
def LivI (w A : World) (lb p mb : Nat) (b : List UInt8) (e : Nat) (R : Int) (i : Nat) : Prop :=
  ∃ fv dv g d k r u c, Lv w A lb p mb fv dv g d k (List.replicate r b) u c ∧ g.name = logN ∧ g.age ≤ i ∧ r ≤ i % e + 1 ∧ (i = 0 ∨ 1 ≤ r) ∧ used d.es ≤ r * (20 + b.length) ∧ u ≤ i * 1040 ∧ c ≤ 3 * i ∧ d.room = R ∧ ∀ n, ¬ own logN n → Sx.look d.es n = none
section
attribute [local irreducible] RnS RnT
attribute [local irreducible] W Lst Qst Pu seqQ blkQ rndQ cutQ retQ Does Enters IntKind.wrap bits sb World.alloc World.putObj Blk
theorem law_WalLives (n every : Int) (v : Value) (b : List UInt8) (w : World) (hEnv : Env w) (hv : Ints w .u8 v (nums b)) :
    Does Tryz.prog 3 #[.int .i64 n, v, .int .i64 every] w fun r w' => r = .bool true ∧ Below w.heap.size w w' := by
  have hlb : (nums b).length = b.length := by unfold nums; rw [List.length_map]
  obtain ⟨va, vc, rfl⟩ := (show By w v b from .inl hv).form
  refine Does_of (args := [.int .i64 n, .slice va b.length vc, .int .i64 every]) Tryz.func3 (by kernel_rfl) rfl rfl rfl rfl rfl ?_
  (refine Ga ?_)
  (apply Lst_call; (focus rfl); (focus rfl))
  refine (c_known _ (hEnv.below Bel)).mono ?_
  rintro v w1 ⟨rfl, hb1⟩
  have hE1 : Base w w1 := ⟨hEnv, Sx.Below.after Bel hb1⟩
  by_cases hbl : 500 < b.length
  · (refine Ga ?_)
    (apply retQ1; (focus rfl))
    exact ⟨rfl, hE1.low⟩
  · (refine Ga ?_)
    (apply Lst_call; (focus rfl); (focus rfl))
    refine (h_Place n 200 _ (by decide) (by decide)).mono ?_
    rintro v w2 ⟨rfl, rfl⟩
    obtain ⟨N, hN⟩ : ∃ N : Nat, n % 200 = (N : Int) := ⟨(n % 200).toNat, by omega⟩
    have hN2 : N < 200 := by omega
    rw [hN]
    (refine Ga ?_)
    (apply Lst_call; (focus rfl); (focus rfl))
    refine (h_Place every 5 _ (by decide) (by decide)).mono ?_
    rintro v w3 ⟨rfl, rfl⟩
    obtain ⟨e, he⟩ : ∃ e : Nat, every % 5 = (e : Int) := ⟨(every % 5).toNat, by omega⟩
    have he5 : e < 5 := by omega
    rw [he]
    clear hN he
    obtain ⟨R, hR⟩ : ∃ R : Int, 4 * ((b.length : Int) + 200) * (1 + (e : Int)) = R := ⟨_, rfl⟩
    have hRb : 0 ≤ R ∧ R ≤ 20000 ∧ ((e + 3) * (20 + b.length) : Int) ≤ R + 4000 := by
      rcases (by omega : e = 0 ∨ e = 1 ∨ e = 2 ∨ e = 3 ∨ e = 4) with rfl | rfl | rfl | rfl | rfl <;> omega
    have hmul : arith .mul .i64 (4 * ((b.length : Int) + 200)) (1 + (e : Int)) = R := by
      rw [← hR]
      exact wi64 (by rw [hR]; omega) (by rw [hR]; omega)
    (refine Ga ?_)
    (apply Lst_call; (focus rfl); (focus rfl))
    refine (c_New (R + 4000) _).mono ?_
    rintro v w4 ⟨p, mb, rfl, hp, hmb, hd, hb4⟩
    have hs1 := hE1.low.size
    have hs4 := hb4.size
    have hmax : max (R + 4000) 0 = R + 4000 := by omega
    rw [hmax] at hd
    have hE4 := hE1.below hb4
    have hpw : w.heap.size ≤ p := by omega
    have hmw : w.heap.size ≤ mb := by omega
    have hf4 : Free (⟨[], R + 4000, -1, false⟩ : Dsk) := ⟨rfl, by show (-1 : Int) ≤ 0; decide, List.nodup_nil⟩
    (refine Ga ?_)
    (apply Lst_call; (focus rfl); (focus rfl))
    refine (s_Open 300 (fresh_sg ⟨[], R + 4000, -1, false⟩ rfl) (by omega) (by simp) nice_log hf4 (fresh_gd _ hf4 rfl) (by omega) (by omega) w w4 hE4 hpw hmw hd).mono ?_
    rintro v w5 ⟨lb, fv, ov, g, d, rfl, hL, hn, ha, hdi, hsg, hroom, hus, hoth, hob, hc5, hlb5, hfv5⟩
    obtain ⟨oa, oc, rfl, _⟩ := hob.form
    have hI0 : LivI w w5 lb p mb b (e + 1) (R + 4000) 0 := ⟨fv, _, g, d, 0, 0, 0, 0, hL, hn, by omega, by omega, .inl rfl, by
      have h0 : used (⟨[], R + 4000, -1, false⟩ : Dsk).es = 0 := rfl
      rw [Nat.zero_mul]
      omega, by omega, by omega, hroom, fun n hn => by rw [hoth n hn]; rfl⟩
    (refine Ga ?_)
    refine Tl.W_cutB (α := Unit) (fun _ => [(0, .int .i64 (N : Int)), (1, .slice va b.length vc), (2, .int .i64 (1 + (e : Int))), (7, .pointer (some ⟨p, 0, none⟩))])
      (fun _ A => LivI w A lb p mb b (e + 1) (R + 4000) N) ?_ ?_
    · refine W_loop (α := Nat) (fun i => [(0, .int .i64 (N : Int)), (1, .slice va b.length vc), (2, .int .i64 (1 + (e : Int))), (7, .pointer (some ⟨p, 0, none⟩)), (8, .pointer (some ⟨lb, 0, none⟩)), (11, .int .i64 (i : Int))])
        (fun i A => i ≤ N ∧ LivI w A lb p mb b (e + 1) (R + 4000) i) (fun i _ => N - i) 0 ⟨Nat.zero_le _, hI0⟩ ⟨rfl, rfl, rfl, rfl, rfl, rfl, trivial⟩ ?_
      clear hI0 hL hoth hob hc5 hlb5 hfv5
      rintro J i A ⟨hi, fv, dv, g, d, k, r, u, c, hL, hn, ha, hr, hr1, hus, hu, hc, hroom, hoth⟩
      by_cases hiN : i < N
      · have hm9 : i % (e + 1) < e + 1 := Nat.mod_lt _ (by omega)
        have hrs : r * (20 + b.length) ≤ (e + 1) * (20 + b.length) := Nat.mul_le_mul_right _ (by omega)
        have hes1 : (e + 2) * (20 + b.length) = (e + 1) * (20 + b.length) + (20 + b.length) := by rw [show e + 2 = e + 1 + 1 by omega, Nat.succ_mul]
        have hes2 : (e + 3) * (20 + b.length) = (e + 2) * (20 + b.length) + (20 + b.length) := by rw [show e + 3 = e + 2 + 1 by omega, Nat.succ_mul]
        have hRc : (((e + 3) * (20 + b.length) : Nat) : Int) ≤ R + 4000 := by have := hRb.2.2; simpa using this
        have hbv : By A (.slice va b.length vc) b := .inl (Ints.below hv hL.mem.base.low (Nat.le_refl _))
        (refine Ga ?_)
        (apply Lst_call; (focus rfl); (focus rfl))
        refine (s_Append hL (by rw [hn]; exact nice_log) (by omega) (by rw [List.length_replicate]; omega) (by omega) _ b (by omega) hbv (by rw [hroom]; omega) (by omega)).mono ?_
        rintro v A2 ⟨rfl, fv2, dv2, g2, d2, i2, hL2, hN2, hA2, hc2, hr2⟩
        (refine Ga ?_)
        (apply Lst_call; (focus rfl); (focus rfl))
        refine (s_Sync hL2 (by rw [hN2.name, hn]; exact nice_log) (by rw [hA2.age]; omega) (by rw [List.length_append, List.length_replicate, List.length_singleton]; omega)).mono ?_
        rintro v A3 ⟨rfl, fv3, dv3, g3, d3, hL3, hN3, ha3, hdi3, hus3, hc3, hr3⟩
        rw [← List.replicate_succ'] at hL3
        have hn3 : g3.name = logN := by rw [hN3.name, hN2.name, hn]
        have ha3' : g3.age ≤ i := by rw [ha3, hA2.age]; exact ha
        have hroom3 : d3.room = R + 4000 := by rw [hN3.room, hN2.room, hroom]
        have hu3 : used d3.es ≤ (r + 1) * (20 + b.length) := by
          have := hA2.used
          rw [Nat.succ_mul]
          omega
        have hoth3 : ∀ x, ¬ own logN x → Sx.look d3.es x = none := fun x hx => by
          rw [hN3.others x (by rw [hN2.name, hn]; exact hx), hN2.others x (by rw [hn]; exact hx)]
          exact hoth x hx
        have hr9 : (r + 1) * (20 + b.length) ≤ (e + 2) * (20 + b.length) := Nat.mul_le_mul_right _ (by omega)
        have ht : Int.tmod (i : Int) (1 + (e : Int)) = ((i % (e + 1) : Nat) : Int) := by
          rw [show (1 + (e : Int)) = ((e + 1 : Nat) : Int) by omega]
          rfl
        have hbv3 : By A3 (.slice va b.length vc) b := .inl (Ints.below hv hL3.mem.base.low (Nat.le_refl _))
        by_cases hm : i % (e + 1) = e
        · (refine Ga ?_)
          (apply Lst_call; (focus rfl); (focus rfl))
          refine (s_Restart hL3 (by rw [hn3]; exact nice_log) (by omega) (by rw [List.length_replicate]; omega) (by omega) _ b (by omega) hbv3 (by rw [hroom3]; omega) (by omega)).mono ?_
          rintro v A4 ⟨rfl, fv4, dv4, g4, d4, hL4, hN4, ha4, hlk4, hno4, hc4, hr4⟩
          rw [hn3] at hlk4 hno4
          have hoth4 : ∀ x, ¬ own logN x → Sx.look d4.es x = none := fun x hx => by
            rw [hN4.others x (by rw [hn3]; exact hx)]
            exact hoth3 x hx
          have hu4 := used_one hL4.gd.nodup hlk4 (fun x hx => by
            by_cases hox : own logN x
            · exact hno4 x hox hx
            · exact hoth4 x hox)
          dsimp only at hu4
          rw [rec_len] at hu4
          (refine Ga ?_)
          refine rndQ_n (α := Nat) (i + 1) ⟨hiN, fv4, dv4, g4, d4, 1, 1, _, _, hL4, by rw [hN4.name, hn3], by omega, by omega, .inr (Nat.le_refl _), by omega, by omega, by omega, by rw [hN4.room, hroom3], hoth4⟩ ⟨rfl, rfl, rfl, rfl, rfl, ?_, trivial⟩ (by omega)
          exact congrArg (Value.int .i64) (by omega)
        · (refine Ga ?_)
          have hmod : (i + 1) % (e + 1) = i % (e + 1) + 1 := by
            rw [Nat.add_mod, Nat.mod_eq_of_lt (show 1 < e + 1 by omega), Nat.mod_eq_of_lt (by omega)]
          refine rndQ_n (α := Nat) (i + 1) ⟨hiN, fv3, dv3, g3, d3, _, r + 1, _, _, hL3, hn3, by omega, by omega, .inr (by omega), hu3, by omega, by omega, hroom3, hoth3⟩ ⟨rfl, rfl, rfl, rfl, rfl, ?_, trivial⟩ (by omega)
          exact congrArg (Value.int .i64) (by omega)
      · (refine Ga ?_)
        obtain rfl : i = N := by omega
        exact cutQ_n (α := Unit) () ⟨fv, dv, g, d, k, r, u, c, hL, hn, ha, hr, hr1, hus, hu, hc, hroom, hoth⟩ ⟨rfl, rfl, rfl, rfl, trivial⟩
    · rintro J _ A ⟨fv, dv, g, d, k, r, u, c, hL, hn, ha, hr, hr1, hus, hu, hc, hroom, hoth⟩
      have hS := hL.ok.sg
      rw [hn] at hS
      have hm9 : N % (e + 1) < e + 1 := Nat.mod_lt _ (by omega)
      have hlr : (List.replicate r b).length = r := List.length_replicate
      have hdk := hL.mem.dk
      (refine Ga ?_)
      (apply Lst_call; (focus rfl); (focus rfl))
      refine (s_Open 300 hS (by omega) (by omega) nice_log hL.free hL.gd (by omega) (by omega) w A hL.mem.base hpw hmw hdk).mono ?_
      rintro v A2 ⟨lb2, fv2, ov2, g2, d2, rfl, hL2, _, _, _, _, _, _, _, hob2, _, _, _⟩
      obtain ⟨oa2, oc2, e2, hrd⟩ := hob2.reads
      rw [hlr] at e2
      subst e2
      have hrN : N = 0 ∨ 1 ≤ r := hr1
      have hbE := hL2.mem.base.low
      by_cases hN0 : 0 < N
      · (refine Ga ?_)
        refine W_loop (α := Nat) (fun j => [(1, .slice va b.length vc), (13, .slice oa2 r oc2), (15, .int .i64 (j : Int))]) (fun j A => j ≤ r ∧ Below A2.heap.size A2 A) (fun j _ => r - j) 0 ⟨Nat.zero_le _, Below.refl _ _⟩ ⟨rfl, rfl, rfl, trivial⟩ ?_
        rintro J j A ⟨hj, hbA⟩
        by_cases hjr : j < r
        · obtain ⟨q, o, u, e3, hc3, hq3, hu3⟩ := hrd j (by rw [hlr]; exact hjr)
          rw [List.getElem_replicate] at hu3
          cases e3
          have hc4 : A.cell? ⟨q, o + j, none⟩ = some u := (World.cell?_of_block (a := ⟨q, _, none⟩) (hbA.block _ hq3)).trans hc3
          have hu4 := By.below hu3 hbA (Nat.le_refl _)
          have hb4 : By A (.slice va b.length vc) b := .inl (Ints.below hv (Sx.Below.after hbE hbA) (Nat.le_refl _))
          obtain ⟨u1, u2, rfl⟩ := By.form hu4
          clear hrd
          (refine Ga ?_)
          (apply Lst_call; (focus rfl); (focus rfl))
          refine (h_BytesB _ _ b b _ hu4 hb4).mono ?_
          rintro v A3 ⟨rfl, hb5⟩
          rw [decide_eq_true rfl]
          (refine Ga ?_)
          refine rndQ_n (α := Nat) (j + 1) ⟨hjr, Sx.Below.after hbA hb5⟩ ⟨rfl, rfl, ?_, trivial⟩ (by omega)
          exact congrArg (Value.int .i64) (by omega)
        · (refine Ga ?_)
          (apply retQ1; (focus rfl))
          exact ⟨rfl, Sx.Below.after hbE hbA⟩
      · (refine Ga ?_)
        refine W_loop (α := Nat) (fun j => [(1, .slice va b.length vc), (13, .slice oa2 r oc2), (15, .int .i64 (j : Int))]) (fun j A => j ≤ r ∧ Below A2.heap.size A2 A) (fun j _ => r - j) 0 ⟨Nat.zero_le _, Below.refl _ _⟩ ⟨rfl, rfl, rfl, trivial⟩ ?_
        rintro J j A ⟨hj, hbA⟩
        by_cases hjr : j < r
        · obtain ⟨q, o, u, e3, hc3, hq3, hu3⟩ := hrd j (by rw [hlr]; exact hjr)
          rw [List.getElem_replicate] at hu3
          cases e3
          have hc4 : A.cell? ⟨q, o + j, none⟩ = some u := (World.cell?_of_block (a := ⟨q, _, none⟩) (hbA.block _ hq3)).trans hc3
          have hu4 := By.below hu3 hbA (Nat.le_refl _)
          have hb4 : By A (.slice va b.length vc) b := .inl (Ints.below hv (Sx.Below.after hbE hbA) (Nat.le_refl _))
          obtain ⟨u1, u2, rfl⟩ := By.form hu4
          clear hrd
          (refine Ga ?_)
          (apply Lst_call; (focus rfl); (focus rfl))
          refine (h_BytesB _ _ b b _ hu4 hb4).mono ?_
          rintro v A3 ⟨rfl, hb5⟩
          rw [decide_eq_true rfl]
          (refine Ga ?_)
          refine rndQ_n (α := Nat) (j + 1) ⟨hjr, Sx.Below.after hbA hb5⟩ ⟨rfl, rfl, ?_, trivial⟩ (by omega)
          exact congrArg (Value.int .i64) (by omega)
        · (refine Ga ?_)
          (apply retQ1; (focus rfl))
          exact ⟨rfl, Sx.Below.after hbE hbA⟩
end
end Wa
end Go.Proofs.YtfocnbmihcnaoaaGreatDoor
