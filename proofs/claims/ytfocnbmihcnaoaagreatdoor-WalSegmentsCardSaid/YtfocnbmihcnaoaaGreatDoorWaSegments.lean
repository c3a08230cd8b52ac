/- WalSegments: the walk. -/
import Derived.Test.YtfocnbmihcnaoaaGreatDoorWaZ
namespace Go.Proofs.YtfocnbmihcnaoaaGreatDoor
set_option maxRecDepth 100000
namespace Wa
open Go Go.RowKit Sx Wire Dk
def nX : List UInt8 := [120]
def nY : List UInt8 := [121]
theorem nice_x : Nice nX := ⟨by decide, by decide⟩
theorem nice_y : Nice nY := ⟨by decide, by decide⟩
/-- A log stays where another one's disk turns. -/
theorem Lv.turn {W0 w w' : World} {lb p mb : Nat} {fv dv : Value} {g : Lg} {d : Dsk} {k : Nat} {L : List (List UInt8)} {u c : Nat} (h : Lv W0 w lb p mb fv dv g d k L u c) {d' : Dsk} {u' c' : Nat} {bs : List Nat} {m : List UInt8} (hb : Base W0 w') (hD : DkAt w' p mb d') (hf : Free d') (hg : Gd d' u' c') (hc : Chg bs w w') (hap : ∀ j ∈ lb :: rowsOf fv dv, j ∉ bs) (ho : ∀ n, ¬ own m n → Sx.look d'.es n = Sx.look d.es n) (hm : Nice m) (hm2 : Nice g.name) (hne : m ≠ g.name) (ha : g.age < 10000000) (hL : L.length < 10000000) : Lv W0 w' lb p mb fv dv g d' k L u' c' :=
  ⟨⟨hb, h.mem.log.chg hc (hap lb List.mem_cons_self) (fun j hj => hap j (List.mem_cons_of_mem _ hj)), hD, h.mem.low⟩, h.ok.keep (fun n hn => ho n (own_apart hm2.dot hm.dot (Ne.symm hne) hn)) hm2 ha hL, hf, hg⟩
theorem apart_step {W0 w : World} {lx ly p mb : Nat} {fx dx fx' dx' fy dy : Value} {gy : Lg} {d : Dsk} (hy : LogM W0 w ly p mb fy dy gy d) (h1 : ∀ j ∈ ly :: rowsOf fy dy, j ∉ foot lx p mb fx dx) (h2 : ∀ j ∈ lx :: rowsOf fx dx, j ∉ foot ly p mb fy dy) (hr : ∀ j ∈ rowsOf fx' dx', j ∈ rowsOf fx dx ∨ w.heap.size ≤ j) :
    (∀ j ∈ ly :: rowsOf fy dy, j ∉ foot lx p mb fx' dx') ∧ ∀ j ∈ lx :: rowsOf fx' dx', j ∉ foot ly p mb fy dy := by
  have hly := hy.log.blk.lt
  have hlt : ∀ j ∈ ly :: rowsOf fy dy, j < w.heap.size := fun j hj => by
    rcases List.mem_cons.1 hj with rfl | hj
    · exact hly
    · exact hy.log.rows_lt j hj
  refine ⟨fun j hj => foot_out (h1 j hj) hr (hlt j hj), fun j hj => ?_⟩
  rcases List.mem_cons.1 hj with rfl | hj
  · exact h2 _ List.mem_cons_self
  · rcases hr j hj with h | h
    · exact h2 j (List.mem_cons_of_mem _ h)
    · intro h9
      have hp := hy.dk.1.lt
      have hm := hy.dk.2.lt
      rcases foot_mem.1 h9 with e | e | e | e
      · omega
      · omega
      · omega
      · have := hy.log.rows_lt j e
        omega
def TwoI (w A : World) (p mb lx ly : Nat) (L : List (List UInt8)) (i : Nat) : Prop :=
  ∃ fx dx gx kx fy dy gy ky d u c, Lv w A lx p mb fx dx gx d kx (L.take i) u c ∧ Lv w A ly p mb fy dy gy d ky (L.take i) u c ∧ gx.name = nX ∧ gy.name = nY ∧ gx.age = 0 ∧ gy.age = 0 ∧ d.room = 4194304 ∧ u ≤ i * 1040 ∧ c ≤ i * 2 ∧ (∀ j ∈ ly :: rowsOf fy dy, j ∉ foot lx p mb fx dx) ∧ ∀ j ∈ lx :: rowsOf fx dx, j ∉ foot ly p mb fy dy
section
attribute [local irreducible] RnS RnT
attribute [local irreducible] W Lst Qst Pu seqQ blkQ rndQ cutQ retQ Does Enters IntKind.wrap bits sb World.alloc World.putObj Blk
theorem law_WalSegments (v : Value) (L : List (List UInt8)) (a b : Int) (w : World) (hEnv : Env w) (hv : BsS w v L) :
    Does Tryz.prog 4 #[v, .int .i64 a, .int .i64 b] w fun r w' => r = .bool true ∧ Below w.heap.size w w' := by
  obtain ⟨va, vc, rfl, hrd⟩ := id hv
  refine Does_of (args := [.slice va L.length vc, .int .i64 a, .int .i64 b]) Tryz.func4 (by kernel_rfl) rfl rfl rfl rfl rfl ?_
  (refine Ga ?_)
  (apply Lst_call; (focus rfl); (focus rfl))
  refine (c_known _ (hEnv.below Bel)).mono ?_
  rintro v w1 ⟨rfl, hb1⟩
  have hE1 : Base w w1 := ⟨hEnv, Sx.Below.after Bel hb1⟩
  by_cases hll : 60 < L.length
  · (refine Ga ?_)
    (apply retQ1; (focus rfl))
    exact ⟨rfl, hE1.low⟩
  · (refine Ga ?_)
    (apply Lst_call; (focus rfl); (focus rfl))
    refine (h_Place a 200 _ (by decide) (by decide)).mono ?_
    rintro v w2 ⟨rfl, rfl⟩
    have ha0 : 0 ≤ a % 200 ∧ a % 200 < 200 := by omega
    generalize a % 200 = a1 at ha0 ⊢
    (refine Ga ?_)
    (apply Lst_call; (focus rfl); (focus rfl))
    refine (h_Place b 100000 _ (by decide) (by decide)).mono ?_
    rintro v w3 ⟨rfl, rfl⟩
    have hb0 : 0 ≤ b % 100000 ∧ b % 100000 < 100000 := by omega
    generalize b % 100000 = b9 at hb0 ⊢
    (refine Ga ?_)
    (apply Lst_call; (focus rfl); (focus rfl))
    refine (c_New 4194304 _).mono ?_
    rintro v w4 ⟨p, mb, rfl, hp, hmb, hd, hb4⟩
    have hs1 := hE1.low.size
    have hs4 := hb4.size
    have hE4 := hE1.below hb4
    have hpw : w.heap.size ≤ p := by omega
    have hmw : w.heap.size ≤ mb := by omega
    have hf4 : Free (⟨[], max 4194304 0, -1, false⟩ : Dsk) := ⟨rfl, by show (-1 : Int) ≤ 0; decide, List.nodup_nil⟩
    (refine Ga ?_)
    (apply Lst_call; (focus rfl); (focus rfl))
    refine (s_Open (64 + a1) (fresh_sg ⟨[], max 4194304 0, -1, false⟩ rfl) (by omega) (by simp) nice_x hf4 (fresh_gd _ hf4 rfl) (by omega) (by omega) w w4 hE4 hpw hmw hd).mono ?_
    rintro v w5 ⟨lx, fx, ov, gx, d, rfl, hx, hxn, hxa, hdi, hsg, hroom, hus, hoth, hob, hc5, hlb5, hfx5⟩
    obtain ⟨oa, oc, rfl, _⟩ := hob.form
    have hnone : ∀ n, Sx.look d.es n = none := fun n => by
      by_cases h : own nX n
      · exact hx.ok.sg.only n (by rw [hxn]; exact h) (by rw [hxn, hxa]; exact List.not_mem_nil)
      · rw [hoth n h]
        rfl
    have hSy : Sg d nY 0 0 [] 0 := ⟨.nil, fun n _ _ => hnone n, fun _ => rfl⟩
    (refine Ga ?_)
    (apply Lst_call; (focus rfl); (focus rfl))
    refine (s_Open (64 + b9) hSy (by omega) (by simp) nice_y hx.free hx.gd (by omega) (by omega) w w5 hx.mem.base hpw hmw hx.mem.dk).mono ?_
    rintro v w6 ⟨ly, fy, ov2, gy, d6, rfl, hy, hyn, hya, hdi6, hsg6, hroom6, hus6, hoth6, hob6, hc6, hlb6, hfy6⟩
    obtain ⟨oa6, oc6, rfl, _⟩ := hob6.form
    have hdx := hx.mem.log.disk hx.mem.dk
    have hx6 : Lv w w6 lx p mb fx (.slice none 0 0) gx d6 0 [] 0 0 := hx.turn hy.mem.base hy.mem.dk hy.free hy.gd hc6 (fun j hj => by
      rcases List.mem_cons.1 hj with rfl | hj
      · exact hdx.1
      · exact hdx.2 j hj) hoth6 nice_y (by rw [hxn]; exact nice_x) (by rw [hxn]; decide) (by omega) (by simp)
    have hxlt : ∀ j ∈ lx :: rowsOf fx (.slice none 0 0), j < w5.heap.size := fun j hj => by
      rcases List.mem_cons.1 hj with rfl | hj
      · exact hx.mem.log.blk.lt
      · exact hx.mem.log.rows_lt j hj
    have hylt : ∀ j ∈ ly :: rowsOf fy (.slice none 0 0), w5.heap.size ≤ j := fun j hj => by
      rcases List.mem_cons.1 hj with rfl | hj
      · exact hlb6
      · unfold rowsOf at hj
        rcases List.mem_append.1 hj with hj | hj
        · exact hfy6 j (by simpa using hj)
        · cases hj
    have hp5 := hx.mem.dk.1.lt
    have hm5 := hx.mem.dk.2.lt
    have hI0 : TwoI w w6 p mb lx ly L 0 := ⟨fx, _, gx, 0, fy, _, gy, 0, d6, 0, 0, hx6, hy, hxn, hyn, hxa, hya, by rw [hroom6, hroom]; rfl, by omega, by omega, fun j hj h9 => by
      have h1 := hylt j hj
      rcases foot_mem.1 h9 with e | e | e | e
      · have := hxlt lx List.mem_cons_self
        omega
      · omega
      · omega
      · have := hxlt j (List.mem_cons_of_mem _ e)
        omega, fun j hj h9 => by
      have h1 := hxlt j hj
      rcases foot_mem.1 h9 with e | e | e | e
      · have := hylt ly List.mem_cons_self
        omega
      · rcases List.mem_cons.1 hj with h | h
        · exact hdx.1 (by simp [← h, e])
        · exact hdx.2 j h (by simp [e])
      · rcases List.mem_cons.1 hj with h | h
        · exact hdx.1 (by simp [← h, e])
        · exact hdx.2 j h (by simp [e])
      · have := hylt j (List.mem_cons_of_mem _ e)
        omega⟩
    (refine Ga ?_)
    refine Tl.W_cutB (α := Unit) (fun _ => [(0, .slice va L.length vc), (1, .int .i64 (64 + a1)), (2, .int .i64 (64 + b9)), (7, .pointer (some ⟨p, 0, none⟩)), (8, .pointer (some ⟨lx, 0, none⟩))])
      (fun _ A => TwoI w A p mb lx ly L L.length) ?_ ?_
    · refine W_loop (α := Nat) (fun i => [(0, .slice va L.length vc), (1, .int .i64 (64 + a1)), (2, .int .i64 (64 + b9)), (7, .pointer (some ⟨p, 0, none⟩)), (8, .pointer (some ⟨lx, 0, none⟩)), (11, .pointer (some ⟨ly, 0, none⟩)), (14, .int .i64 (i : Int))])
        (fun i A => i ≤ L.length ∧ TwoI w A p mb lx ly L i) (fun i _ => L.length - i) 0 ⟨Nat.zero_le _, hI0⟩ ⟨rfl, rfl, rfl, rfl, rfl, rfl, rfl, trivial⟩ ?_
      clear hI0 hx6 hy hx hob hob6 hnone hSy hoth hoth6 hxn hyn hxa hya hdx hxlt hylt hroom hroom6 hus hus6 hdi hdi6 hsg hsg6 hfx5 hfy6 hlb5 hlb6
      rintro J i A ⟨hi, fx, dx, gx, kx, fy, dy, gy, ky, d, u, c, hx, hy, hxn, hyn, hxa, hya, hrm, hu, hc, hap1, hap2⟩
      by_cases hil : i < L.length
      · obtain ⟨q, o, u0, e3, hc3, hq3, hu3⟩ := hrd i hil
        cases e3
        obtain ⟨u1, u2, rfl⟩ := By.form hu3
        have hc4 : A.cell? ⟨q, o + i, none⟩ = some (.slice u1 L[i].length u2) := (World.cell?_of_block (a := ⟨q, _, none⟩) (hx.mem.base.low.block _ hq3)).trans hc3
        have hu4 := By.below hu3 hx.mem.base.low (Nat.le_refl _)
        by_cases hlen : 500 < L[i].length
        · (refine Ga ?_)
          (apply retQ1; (focus rfl))
          exact ⟨rfl, hx.mem.base.low⟩
        · (refine Ga ?_)
          have hud := hx.gd.fine.used
          refine W_calm ?_
          refine W_drawS 14 (fun A => A.cell? ⟨q, o + i, none⟩ = some (.slice u1 L[i].length u2)) rfl rfl ?_
          have hS : A.drew.cell? ⟨q, o + i, none⟩ = some (.slice u1 L[i].length u2) := hc4
          refine S_takeV 0 13 rfl (by kernel_rfl) calm_no hS ?_
          (refine Qb ?_)
          refine S_takeV 1 12 rfl (by kernel_rfl) calm_no hS ?_
          (refine Qb ?_)
          refine S_takeV 2 11 rfl (by kernel_rfl) calm_no hS ?_
          (refine Qb ?_)
          refine S_takeV 3 10 rfl (by kernel_rfl) calm_no hS ?_
          (refine Qb ?_)
          refine S_takeV 4 9 rfl (by kernel_rfl) calm_no hS ?_
          apply Qst_loadc
          focus rfl
          focus rfl
          focus rfl
          focus exact fun A9 hA9 => hA9
          focus rfl
          (refine Qb ?_)
          refine S_takeV 6 8 rfl (by kernel_rfl) calm_no hS ?_
          (refine Qb ?_)
          refine S_takeV 7 7 rfl (by kernel_rfl) calm_no hS ?_
          (refine Qb ?_)
          refine S_takeV 8 6 rfl (by kernel_rfl) calm_no hS ?_
          (refine Qb ?_)
          refine S_takeV 9 5 rfl (by kernel_rfl) calm_no hS ?_
          (refine Qb ?_)
          refine S_takeV 10 4 rfl (by kernel_rfl) calm_no hS ?_
          apply Qst_loadc
          focus rfl
          focus rfl
          focus rfl
          focus exact fun A9 hA9 => hA9
          focus rfl
          (refine Qb ?_)
          refine S_any [5] 3 rfl (by kernel_rfl) (all1 ?_)
          (apply Lst_call; (focus rfl); (focus rfl))
          refine (s_Append (hx.below (Below.drew (Below.refl _ _))) (by rw [hxn]; exact nice_x) (by omega) (by rw [List.length_take]; omega) (by omega) _ L[i] (by omega) hu4 (by rw [hrm]; omega) (by omega)).mono ?_
          rintro v A2 ⟨rfl, fx2, dx2, gx2, d2, ix2, hx2, hNx2, hAx2, hcx2, hrx2⟩
          have hy2 := (hy.below (w' := A.drew) (Below.drew (Below.refl _ _))).turn hx2.mem.base hx2.mem.dk hx2.free hx2.gd hcx2 hap1 hNx2.others (by rw [hxn]; exact nice_x) (by rw [hyn]; exact nice_y) (by rw [hxn, hyn]; decide) (by omega) (by rw [List.length_take]; omega)
          obtain ⟨hap3, hap4⟩ := apart_step (hy.below (w' := A.drew) (Below.drew (Below.refl _ _))).mem hap1 hap2 hrx2
          have hu5 := By.below hu3 hx2.mem.base.low (Nat.le_refl _)
          have hS2 : A2.cell? ⟨q, o + i, none⟩ = some (.slice u1 L[i].length u2) := (World.cell?_of_block (a := ⟨q, _, none⟩) (hx2.mem.base.low.block _ hq3)).trans hc3
          try apply Lst_nil
          apply rnQ_n
          refine ⟨hS2, ?_⟩
          clear hS
          have hS := hS2
          clear hS2
          refine S_any [11] 2 rfl (by kernel_rfl) (all1 ?_)
          (apply Lst_call; (focus rfl); (focus rfl))
          refine (s_Append hy2 (by rw [hyn]; exact nice_y) (by omega) (by rw [List.length_take]; omega) (by omega) _ L[i] (by omega) hu5 (by rw [hNx2.room, hrm]; have := hx2.gd.fine.used; omega) (by have := hx2.gd.fine.used; omega)).mono ?_
          rintro v A3 ⟨rfl, fy3, dy3, gy3, d3, iy3, hy3, hNy3, hAy3, hcy3, hry3⟩
          have hx3 := hx2.turn hy3.mem.base hy3.mem.dk hy3.free hy3.gd hcy3 hap4 hNy3.others (by rw [hyn]; exact nice_y) (by rw [hNx2.name, hxn]; exact nice_x) (by rw [hNx2.name, hxn, hyn]; decide) (by rw [hAx2.age]; omega) (by rw [List.length_append, List.length_take, List.length_singleton]; omega)
          obtain ⟨hap6, hap5⟩ := apart_step hx2.mem hap4 hap3 hry3
          have hS2 : A3.cell? ⟨q, o + i, none⟩ = some (.slice u1 L[i].length u2) := (World.cell?_of_block (a := ⟨q, _, none⟩) (hy3.mem.base.low.block _ hq3)).trans hc3
          try apply Lst_nil
          apply rnQ_n
          refine ⟨hS2, ?_⟩
          clear hS
          have hS := hS2
          clear hS2
          refine S_takeV 12 1 rfl (by kernel_rfl) calm_no hS ?_
          (refine Qb ?_)
          refine S_takeV 13 0 rfl (by kernel_rfl) calm_no hS ?_
          (refine Qb ?_)
          refine S_done (by kernel_rfl) ?_
          refine calm_n ?_
          have htk : L.take i ++ [L[i]] = L.take (i + 1) := (List.take_succ_eq_append_getElem hil).symm
          rw [htk] at hx3 hy3
          have hxn3 : gx2.name = nX := by rw [hNx2.name, hxn]
          have hyn3 : gy3.name = nY := by rw [hNy3.name, hyn]
          have hxa3 : gx2.age = 0 := by rw [hAx2.age, hxa]
          have hya3 : gy3.age = 0 := by rw [hAy3.age, hya]
          have hrm3 : d3.room = 4194304 := by rw [hNy3.room, hNx2.room, hrm]
          have htl : (L.take (i + 1)).length ≤ 60 := by rw [List.length_take]; omega
          have ht : Int.tmod (i : Int) 3 = ((i % 3 : Nat) : Int) := rfl
          by_cases hm : i % 3 = 0
          · (refine Ga ?_)
            (apply Lst_call; (focus rfl); (focus rfl))
            refine (s_Sync hx3 (by rw [hxn3]; exact nice_x) (by omega) (by omega)).mono ?_
            rintro v A4 ⟨rfl, fx4, dx4, gx4, d4, hx4, hNx4, hax4, hdx4, hus4, hcx4, hrx4⟩
            have hy4 := hy3.turn hx4.mem.base hx4.mem.dk hx4.free hx4.gd hcx4 hap5 hNx4.others (by rw [hxn3]; exact nice_x) (by rw [hyn3]; exact nice_y) (by rw [hxn3, hyn3]; decide) (by omega) (by omega)
            obtain ⟨hap7, hap8⟩ := apart_step hy3.mem hap5 hap6 hrx4
            (refine Ga ?_)
            (apply Lst_call; (focus rfl); (focus rfl))
            refine (s_Sync hy4 (by rw [hyn3]; exact nice_y) (by omega) (by omega)).mono ?_
            rintro v A5 ⟨rfl, fy5, dy5, gy5, d5, hy5, hNy5, hay5, hdy5, hus5, hcy5, hry5⟩
            have hx5 := hx4.turn hy5.mem.base hy5.mem.dk hy5.free hy5.gd hcy5 hap8 hNy5.others (by rw [hyn3]; exact nice_y) (by rw [hNx4.name, hxn3]; exact nice_x) (by rw [hNx4.name, hxn3, hyn3]; decide) (by omega) (by omega)
            obtain ⟨hap9, hap10⟩ := apart_step hx4.mem hap8 hap7 hry5
            (refine Ga ?_)
            refine rndQ_n (α := Nat) (i + 1) ⟨hil, fx4, dx4, gx4, _, fy5, dy5, gy5, _, d5, _, _, hx5, hy5, by rw [hNx4.name, hxn3], by rw [hNy5.name, hyn3], by omega, by omega, by rw [hNy5.room, hNx4.room, hrm3], by omega, by omega, hap10, hap9⟩ ⟨rfl, rfl, rfl, rfl, rfl, rfl, ?_, trivial⟩ (by omega)
            exact congrArg (Value.int .i64) (by omega)
          · (refine Ga ?_)
            refine rndQ_n (α := Nat) (i + 1) ⟨hil, fx2, dx2, gx2, _, fy3, dy3, gy3, _, d3, _, _, hx3, hy3, hxn3, hyn3, hxa3, hya3, hrm3, by omega, by omega, hap5, hap6⟩ ⟨rfl, rfl, rfl, rfl, rfl, rfl, ?_, trivial⟩ (by omega)
            exact congrArg (Value.int .i64) (by omega)
      · (refine Ga ?_)
        obtain rfl : i = L.length := by omega
        exact cutQ_n (α := Unit) () ⟨fx, dx, gx, kx, fy, dy, gy, ky, d, u, c, hx, hy, hxn, hyn, hxa, hya, hrm, hu, hc, hap1, hap2⟩ ⟨rfl, rfl, rfl, rfl, rfl, trivial⟩
    · rintro J _ A ⟨fx, dx, gx, kx, fy, dy, gy, ky, d, u, c, hx, hy, hxn, hyn, hxa, hya, hrm, hu, hc, hap1, hap2⟩
      rw [List.take_length] at hx hy
      have hSx := hx.ok.sg
      rw [hxn, hxa] at hSx
      (refine Ga ?_)
      (apply Lst_call; (focus rfl); (focus rfl))
      refine (s_Open (64 + a1) hSx (by omega) (by omega) nice_x hx.free hx.gd (by omega) (by omega) w A hx.mem.base hpw hmw hx.mem.dk).mono ?_
      rintro v A2 ⟨lb2, fv2, ov2, g2, d2, rfl, hL2, hn2, ha2, _, _, _, _, hoth2, hob2, hc2, hlb2, _⟩
      obtain ⟨oa2, oc2, rfl, _⟩ := hob2.form
      have hdx := hx.mem.log.disk hx.mem.dk
      have hSy := (hy.ok.sg.keep (d' := d2) (fun n hn => hoth2 n (own_apart (by rw [hyn]; exact nice_y.dot) nice_x.dot (by rw [hyn]; decide) hn)) (by rw [hyn]; exact nice_y) (by omega) (by omega))
      rw [hyn, hya] at hSy
      (refine Ga ?_)
      (apply Lst_call; (focus rfl); (focus rfl))
      refine (s_Open (64 + b9) hSy (by omega) (by omega) nice_y hL2.free hL2.gd (by omega) (by omega) w A2 hL2.mem.base hpw hmw hL2.mem.dk).mono ?_
      rintro v A3 ⟨lb3, fv3, ov3, g3, d3, rfl, hL3, hn3, ha3, _, _, _, _, hoth3, hob3, hc3, hlb3, _⟩
      obtain ⟨oa3, oc3, rfl, _⟩ := hob3.form
      have hob2' := hob2.chg hc3 (fun j hj => by
        have h1 := hx.mem.dk.1.lt
        have h2 := hx.mem.dk.2.lt
        simp only [List.mem_cons, List.not_mem_nil, or_false] at hj
        omega)
      have hvA := hv.below hL3.mem.base.low
      have hlog := (hx.mem.log.chg hc2 hdx.1 hdx.2).chg hc3 hdx.1 hdx.2
      (refine Ga ?_)
      (apply Lst_call; (focus rfl); (focus rfl))
      refine (c_same _ _ L L (by omega) A3 hob2'.reads hvA).mono ?_
      rintro v A4 ⟨rfl, hb4⟩
      rw [decide_eq_true rfl]
      (refine Ga ?_)
      (apply Lst_call; (focus rfl); (focus rfl))
      refine (c_same _ _ L L (by omega) A4 (hob3.reads.below hb4) (hvA.below hb4)).mono ?_
      rintro v A5 ⟨rfl, hb5⟩
      rw [decide_eq_true rfl]
      (refine Ga ?_)
      (apply Lst_call; (focus rfl); (focus rfl))
      refine (c_Records lx p fx dx gx A5 ((hlog.below hb4).below hb5)).mono ?_
      rintro v A6 ⟨rfl, rfl⟩
      have hrec : gx.recs = L.length := hx.ok.recs
      rw [hrec]
      (refine Ga ?_)
      (apply retQ1; (focus rfl))
      exact ⟨rfl, Sx.Below.after (Sx.Below.after hL3.mem.base.low hb4) hb5⟩
end
end Wa
end Go.Proofs.YtfocnbmihcnaoaaGreatDoor
