/- WalEvery: the walk. -/
import Derived.Test.YtfocnbmihcnaoaaGreatDoorWaE
namespace Go.Proofs.YtfocnbmihcnaoaaGreatDoor
set_option maxRecDepth 100000
namespace Wa
open Go Go.RowKit Sx Wire Dk
def EvI (w A : World) (lb p mb : Nat) (Ah : List (List UInt8)) (i : Nat) : Prop :=
  ∃ fv dv g d k u c, Lv w A lb p mb fv dv g d k (Ah.take i) u c ∧ g.name = logN ∧ g.age = 0 ∧ d.room = 1048576 ∧ u ≤ i * 420 ∧ c ≤ i ∧ (i = 0 → g.dirty = [])
def EvS (w A : World) (lb p mb : Nat) (Ah : List (List UInt8)) : Prop :=
  ∃ fv dv g d k u c, Lv w A lb p mb fv dv g d k Ah u c ∧ g.name = logN ∧ g.age = 0 ∧ d.room = 1048576 ∧ u ≤ 6000 ∧ c ≤ 13 ∧ g.dirty = []
def EvE (w A : World) (p mb : Nat) (Ah full : List (List UInt8)) (keep : List Int) (f : Int) : Prop :=
  ∃ d u c a k L z, Base w A ∧ DkAt A p mb d ∧ Gd d u c ∧ u ≤ 1000000 ∧ c ≤ 1000000 ∧ Opens (d.crash keep) logN a k L z ∧ (f = 0 ∨ f = 43) ∧ (d.dead = false → f = 0) ∧ (L = full ∨ (f = 43 ∧ L = Ah))
def fullL (anew : Bool) (Ah : List (List UInt8)) (b : List UInt8) : List (List UInt8) := if anew = true then [b] else Ah ++ [b]
section
attribute [local irreducible] RnS RnT
attribute [local irreducible] W Lst Qst Pu seqQ blkQ rndQ cutQ retQ Does Enters IntKind.wrap bits sb World.alloc World.putObj Blk
theorem law_WalEvery (seg : Int) (va : Value) (Ah : List (List UInt8)) (vb : Value) (b : List UInt8) (anew : Bool) (vk : Value) (keep : List Int) (w : World) (hEnv : Env w) (ha : BsS w va Ah) (hfa : ∀ a c, va = .slice a Ah.length c → (∃ b off, a = some ⟨b, off, none⟩) ∨ (a = none ∧ Ah = [] ∧ c = 0)) (hb : Ints w .u8 vb (nums b)) (hk : Ints w .i64 vk keep) (hkb : ∀ k ∈ keep, -9223372036854775808 ≤ k ∧ k < 9223372036854775808) :
    Does Tryz.prog 5 #[.int .i64 seg, va, vb, .bool anew, vk] w fun r w' => r = .bool true ∧ Below w.heap.size w w' := by
  obtain ⟨aa, ac, rfl, hrd⟩ := id ha
  obtain ⟨ba, bc, rfl⟩ := By.form (.inl hb)
  obtain ⟨ka, kc, rfl⟩ := hk.form
  have hfa := hfa aa ac rfl
  refine Does_of (args := [.int .i64 seg, .slice aa Ah.length ac, .slice ba b.length bc, .bool anew, .slice ka keep.length kc]) Tryz.func5 (by kernel_rfl) rfl rfl rfl rfl rfl ?_
  (refine Ga ?_)
  (apply Lst_call; (focus rfl); (focus rfl))
  refine (c_known _ (hEnv.below Bel)).mono ?_
  rintro v w1 ⟨rfl, hb1⟩
  have hE1 : Base w w1 := ⟨hEnv, Sx.Below.after Bel hb1⟩
  by_cases h1 : 12 < Ah.length
  · (refine Ga ?_)
    (apply retQ1; (focus rfl))
    exact ⟨rfl, hE1.low⟩
  by_cases h2 : 400 < b.length
  · (refine Ga ?_)
    (apply retQ1; (focus rfl))
    exact ⟨rfl, hE1.low⟩
  by_cases h3 : 100 < keep.length
  · (refine Ga ?_)
    (apply retQ1; (focus rfl))
    exact ⟨rfl, hE1.low⟩
  (refine Ga ?_)
  refine W_loop (α := Nat) (fun n => [(0, .int .i64 seg), (1, .slice aa Ah.length ac), (2, .slice ba b.length bc), (3, .bool anew), (4, .slice ka keep.length kc), (11, .int .i64 (n : Int))]) (fun n A => n ≤ 40 ∧ Base w A) (fun n _ => 40 - n) 0 ⟨Nat.zero_le _, hE1⟩ ⟨rfl, rfl, rfl, rfl, rfl, rfl, trivial⟩ ?_
  clear hE1 hb1 w1
  rintro J n A0 ⟨hn40, hE0⟩
  by_cases hn : n < 40
  · (refine Ga ?_)
    (apply Lst_call; (focus rfl); (focus rfl))
    refine (c_New 1048576 _).mono ?_
    rintro v w4 ⟨p, mb, rfl, hp, hmb, hd, hb4⟩
    have hs0 := hE0.low.size
    have hE4 := hE0.below hb4
    have hpw : w.heap.size ≤ p := by omega
    have hmw : w.heap.size ≤ mb := by omega
    have hf4 : Free (⟨[], max 1048576 0, -1, false⟩ : Dsk) := ⟨rfl, by show (-1 : Int) ≤ 0; decide, List.nodup_nil⟩
    (refine Ga ?_)
    (apply Lst_call; (focus rfl); (focus rfl))
    refine (s_Open seg (fresh_sg ⟨[], max 1048576 0, -1, false⟩ rfl) (by omega) (by simp) nice_log hf4 (fresh_gd _ hf4 rfl) (by omega) (by omega) w w4 hE4 hpw hmw hd).mono ?_
    rintro v w5 ⟨lb, fv, ov, g, d, rfl, hL, hnm, hag, hdi, hsg, hroom, hus, hoth, hob, hc5, hlb5, hfv5⟩
    obtain ⟨oa, oc, rfl, _⟩ := hob.form
    have hI0 : EvI w w5 lb p mb Ah 0 := ⟨fv, _, g, d, 0, 0, 0, hL, hnm, hag, by rw [hroom]; rfl, by omega, by omega, fun _ => hdi⟩
    (refine Ga ?_)
    refine Tl.W_cutB (α := Unit) (fun _ => [(0, .int .i64 seg), (1, .slice aa Ah.length ac), (2, .slice ba b.length bc), (3, .bool anew), (4, .slice ka keep.length kc), (11, .int .i64 (n : Int)), (12, .pointer (some ⟨p, 0, none⟩)), (13, .pointer (some ⟨lb, 0, none⟩))])
      (fun _ A => EvI w A lb p mb Ah Ah.length) ?_ ?_
    · refine W_loop (α := Nat) (fun i => [(0, .int .i64 seg), (1, .slice aa Ah.length ac), (2, .slice ba b.length bc), (3, .bool anew), (4, .slice ka keep.length kc), (11, .int .i64 (n : Int)), (12, .pointer (some ⟨p, 0, none⟩)), (13, .pointer (some ⟨lb, 0, none⟩)), (16, .int .i64 (i : Int))])
        (fun i A => i ≤ Ah.length ∧ EvI w A lb p mb Ah i) (fun i _ => Ah.length - i) 0 ⟨Nat.zero_le _, hI0⟩ ⟨rfl, rfl, rfl, rfl, rfl, rfl, rfl, rfl, rfl, trivial⟩ ?_
      clear hI0 hL hoth hob hc5 hfv5 hlb5 hus hroom hsg hdi hag hnm
      rintro J i A ⟨hi, fv, dv, g, d, k, u, c, hL, hnm, hag, hroom, hu, hc, hd0⟩
      by_cases hil : i < Ah.length
      · obtain ⟨q, o, u0, e3, hc3, hq3, hu3⟩ := hrd i hil
        cases e3
        obtain ⟨u1, u2, rfl⟩ := By.form hu3
        have hc4 : A.cell? ⟨q, o + i, none⟩ = some (.slice u1 Ah[i].length u2) := (World.cell?_of_block (a := ⟨q, _, none⟩) (hL.mem.base.low.block _ hq3)).trans hc3
        have hu4 := By.below hu3 hL.mem.base.low (Nat.le_refl _)
        by_cases hlen : 400 < Ah[i].length
        · (refine Ga ?_)
          (apply retQ1; (focus rfl))
          exact ⟨rfl, hL.mem.base.low⟩
        · (refine Ga ?_)
          have hud := hL.gd.fine.used
          (apply Lst_call; (focus rfl); (focus rfl))
          refine (s_Append hL (by rw [hnm]; exact nice_log) (by omega) (by rw [List.length_take]; omega) (by omega) _ Ah[i] (by omega) hu4 (by rw [hroom]; omega) (by omega)).mono ?_
          rintro v A2 ⟨rfl, fv2, dv2, g2, d2, i2, hL2, hN2, hA2, hc2, hr2⟩
          rw [(List.take_succ_eq_append_getElem hil).symm] at hL2
          (refine Ga ?_)
          refine rndQ_n (α := Nat) (i + 1) ⟨hil, fv2, dv2, g2, d2, _, _, _, hL2, by rw [hN2.name, hnm], by rw [hA2.age, hag], by rw [hN2.room, hroom], by omega, by omega, fun e => by omega⟩ ⟨rfl, rfl, rfl, rfl, rfl, rfl, rfl, rfl, ?_, trivial⟩ (by omega)
          exact congrArg (Value.int .i64) (by omega)
      · (refine Ga ?_)
        obtain rfl : i = Ah.length := by omega
        exact cutQ_n (α := Unit) () ⟨fv, dv, g, d, k, u, c, hL, hnm, hag, hroom, hu, hc, hd0⟩ ⟨rfl, rfl, rfl, rfl, rfl, rfl, rfl, rfl, trivial⟩
    · clear hI0 hL hoth hob hc5 hfv5 hlb5 hus hroom hsg hdi hag hnm
      rintro J _ A ⟨fv, dv, g, d, k, u, c, hL, hnm, hag, hroom, hu, hc, hd0⟩
      rw [List.take_length] at hL
      refine W_cut (α := Unit) (fun _ => [(0, .int .i64 seg), (1, .slice aa Ah.length ac), (2, .slice ba b.length bc), (3, .bool anew), (4, .slice ka keep.length kc), (11, .int .i64 (n : Int)), (12, .pointer (some ⟨p, 0, none⟩)), (13, .pointer (some ⟨lb, 0, none⟩))])
        (fun _ A => EvS w A lb p mb Ah) ?_ ?_
      · by_cases hz : 0 < Ah.length
        · (refine Ga ?_)
          (apply Lst_call; (focus rfl); (focus rfl))
          refine (s_Sync hL (by rw [hnm]; exact nice_log) (by omega) (by omega)).mono ?_
          rintro v A2 ⟨rfl, fv2, dv2, g2, d2, hL2, hN2, ha2, hdi2, hus2, hc2, hr2⟩
          (refine Ga ?_)
          exact cutQ_n (α := Unit) () ⟨fv2, dv2, g2, d2, _, _, _, hL2, by rw [hN2.name, hnm], by omega, by rw [hN2.room, hroom], by omega, by omega, hdi2⟩ ⟨rfl, rfl, rfl, rfl, rfl, rfl, rfl, rfl, trivial⟩
        · (refine Ga ?_)
          exact cutQ_n (α := Unit) () ⟨fv, dv, g, d, _, _, _, hL, hnm, hag, hroom, by omega, by omega, hd0 (by omega)⟩ ⟨rfl, rfl, rfl, rfl, rfl, rfl, rfl, rfl, trivial⟩
      · clear hL hnm hag hroom hu hc hd0 g d k u c fv dv A J
        rintro J _ A ⟨fv, dv, g, d, k, u, c, hL, hnm, hag, hroom, hu, hc, hdi⟩
        (refine Ga ?_)
        (apply Lst_call; (focus rfl); (focus rfl))
        refine (c_Cut p mb d n _ hL.mem.dk).mono ?_
        rintro v A2 ⟨rfl, hD2, hc2⟩
        have hdd := hL.free.dead
        have hmx : max (n : Int) (-1) = (n : Int) := by omega
        rw [hmx, hdd, Bool.false_or] at hD2
        have hdk := hL.mem.log.disk hL.mem.dk
        have hM2 : LogM w A2 lb p mb fv dv g { d with cut := (n : Int), dead := decide ((n : Int) = 0) } :=
          ⟨hL.mem.base.chg hc2 (fun j hj => by rw [List.mem_singleton.1 hj]; exact hpw), hL.mem.log.chg hc2 (fun h9 => hdk.1 (by rw [List.mem_singleton.1 h9]; simp)) (fun j hj h9 => hdk.2 j hj (by rw [List.mem_singleton.1 h9]; simp)), hD2, hL.mem.low⟩
        have hokC : Ok { d with cut := (n : Int), dead := decide ((n : Int) = 0) } g k Ah := hL.ok.keep (fun _ _ => rfl) (by rw [hnm]; exact nice_log) (by omega) (by omega)
        have hgC : Gd { d with cut := (n : Int), dead := decide ((n : Int) = 0) } u c := ⟨⟨by show (n : Int) < _; omega, hL.gd.fine.used, hL.gd.fine.len, hL.gd.fine.names⟩, hL.gd.nodup, hL.gd.kn⟩
        have hrC : ({ d with cut := (n : Int), dead := decide ((n : Int) = 0) } : Dsk).room = 1048576 := hroom
        have hcC : ({ d with cut := (n : Int), dead := decide ((n : Int) = 0) } : Dsk).cut < 9223372036854775808 := by show (n : Int) < _; omega
        generalize ({ d with cut := (n : Int), dead := decide ((n : Int) = 0) } : Dsk) = e at hM2 hokC hgC hrC hcC
        clear hD2 hmx hdd hdk hc2 hL hroom
        have hue := hgC.fine.used
        have hbv : By A2 (.slice ba b.length bc) b := .inl (Ints.below hb hM2.base.low (Nat.le_refl _))
        have hnice : Nice g.name := by rw [hnm]; exact nice_log
        have hrr : ((used e.es + (20 + b.length) : Nat) : Int) ≤ e.room := by rw [hrC]; omega
        apply Lst_nil
        apply seqQ_n
        apply W_seq
        apply W_region
        apply Lst_pu
        · apply P_assign
          focus constructor
        focus rfl
        apply Lst_nil
        apply seqQ_n
        refine W_cut (α := Int) (fun f => [(0, .int .i64 seg), (1, .slice aa Ah.length ac), (2, .slice ba b.length bc), (3, .bool anew), (4, .slice ka keep.length kc), (11, .int .i64 (n : Int)), (12, .pointer (some ⟨p, 0, none⟩)), (17, .int .i64 f)])
          (fun f A => EvE w A p mb Ah (fullL anew Ah b) keep f) ?_ ?_
        · cases anew with
          | true =>
            (refine Ga ?_)
            (apply Lst_call; (focus rfl); (focus rfl))
            refine (c_LRestart lb p mb fv dv g e _ b (by omega) hcC (by omega) (by have := hnice.len; omega) (by omega) (by rw [hokC.files, segs_len]; have := run_len hokC.sg.run; omega) w A2 hM2.base (hM2.low _ (foot_mem.2 (.inl rfl))) hM2.log hM2.dk hbv).mono ?_
            rintro v A3 ⟨rfl, fv3, dv3, hl3, hd3, hc3, _⟩
            obtain ⟨a, k', L, z, k1, k2, k3, k4⟩ := ev_restart hokC hgC hnice hag (by omega) hdi (by omega) hrr (by omega) keep
            have hg3 := hgC.restart (g := g) hnice.fresh.2 (hnice.nm (a := g.age + 1) (i := 0) (by omega) (by omega)).2 b
            rw [hnm] at k1
            have hE3 : Base w A3 := hM2.base.chg hc3 (fun j hj => hM2.low j (foot_sub j hj))
            generalize (g.restart e b).1 = f at k2 k3 k4 ⊢
            (refine Ga ?_)
            exact cutQ_n (α := Int) f ⟨_, _, _, a, k', L, z, hE3, hd3, hg3, by omega, by omega, k1, k2, k3, k4⟩ ⟨rfl, rfl, rfl, rfl, rfl, rfl, rfl, rfl, trivial⟩
          | false =>
            (refine Ga ?_)
            (apply Lst_call; (focus rfl); (focus rfl))
            refine (m_Append hM2 hokC (by omega) hcC hnice (by omega) (by omega) hgC (by omega) _ b (by omega) hbv).mono ?_
            rintro v A3 ⟨rfl, fv3, dv3, hl3, hd3, hc3, hr3⟩
            cases hed : e.dead with
            | true =>
              have hres : g.append e b = (43, g.fell e, e) := by
                unfold Lg.append
                have hfell : (g.fell e).dead = true := by
                  unfold Lg.fell
                  dsimp only
                  rw [hed, Bool.or_true]
                rw [if_pos hfell]
              rw [hres] at hl3 hd3 ⊢
              have hE3 : Base w A3 := hM2.base.chg hc3 hM2.low
              have k1 := open_same hokC hnice (by omega) (by omega) hdi (d' := e) (fun _ _ => rfl) keep
              rw [hnm] at k1
              (refine Ga ?_)
              exact cutQ_n (α := Int) 43 ⟨_, _, _, _, _, _, _, hE3, hd3, hgC, by omega, by omega, k1, .inr rfl, fun h => Bool.noConfusion ((show e.dead = false from h).symm.trans hed), .inr ⟨rfl, rfl⟩⟩ ⟨rfl, rfl, rfl, rfl, rfl, rfl, rfl, rfl, trivial⟩
            | false =>
              obtain ⟨i, g1, d1, he, hA⟩ := append_gen hed hokC hnice (by omega) (by omega) (by omega) hrr (by omega)
              have hkl := run_len hokC.sg.run
              have hg1 := hgC.lappend (g := g) (b := b) (by rw [hA.last]; exact (hnice.nm (by omega) (by have := hA.num; omega)).2)
              have hM3 := hM2.step hl3 hd3 hc3 hr3
              rw [he] at hM3 hg1 ⊢
              have hdl := hA.ok.dlen
              rw [List.length_append, List.length_singleton] at hdl
              (refine Ga ?_)
              (apply Lst_call; (focus rfl); (focus rfl))
              refine (c_LSync lb p mb fv3 dv3 g1 d1 (by have := hA.cut; omega) (by omega) A3 hM3.log hM3.dk).mono ?_
              rintro v A4 ⟨rfl, dv4, hl4, hd4, hc4, hown⟩
              obtain ⟨a, k', L, z, k1, k2, k3, k4⟩ := ev_sync hokC hA hnice hag (by omega) hdi (by omega) (dk_safe hM3.dk) keep
              rw [hnm] at k1
              have hg4 := hg1.sync (g := g1)
              have hE4 : Base w A4 := hM3.base.chg hc4 (fun j hj => hM3.low j (foot_sub j hj))
              generalize (g1.sync d1).1 = f at k2 k3 k4 ⊢
              (refine Ga ?_)
              exact cutQ_n (α := Int) f ⟨_, _, _, a, k', L, z, hE4, hd4, hg4, by omega, by omega, k1, k2, k3, k4⟩ ⟨rfl, rfl, rfl, rfl, rfl, rfl, rfl, rfl, trivial⟩
        · clear hM2 hokC hgC hrC hcC hue hrr e hbv hnice A2 hnm hag hu hc hdi g d k u c fv dv A J
          rintro J f A ⟨d, u, c, a, k, L, z, hE, hD, hG, hu, hc, hO, hf, hal, hL⟩
          (refine Ga ?_)
          (apply Lst_call; (focus rfl); (focus rfl))
          refine (c_Dead p mb d _ hD).mono ?_
          rintro v A2 ⟨rfl, rfl⟩
          (refine Ga ?_)
          (apply Lst_call; (focus rfl); (focus rfl))
          refine (c_Crash p mb d (hG.names (by omega)) (fun n f hf => Nat.le_trans (hG.size hu n f hf) (by decide)) _ keep (by omega) hkb A hD (Ints.below hk hE.low (Nat.le_refl _))).mono ?_
          rintro v A3 ⟨rfl, hD3, hc3⟩
          have hE3 : Base w A3 := hE.chg hc3 (fun j hj => by
            simp only [List.mem_cons, List.not_mem_nil, or_false] at hj
            omega)
          obtain ⟨hG3, hF3⟩ := hG.crash keep
          (refine Ga ?_)
          (apply Lst_call; (focus rfl); (focus rfl))
          refine (m_Open seg hO nice_log hF3 hG3 hu hc w A3 hE3 hpw hmw hD3).mono ?_
          rintro v A4 ⟨lb4, fv4, ov, rfl, hM4, hob, hc4, hlb4, hfv4⟩
          obtain ⟨oa, oc, rfl, hoc⟩ := hob.form
          have hlL : L.length ≤ 999 := hO.few
          clear hD3 hc3 hG3 hF3 hD hE3 hc4 hlb4 hfv4
          apply Lst_pu
          · apply P_move
            focus constructor
          focus rfl
          apply Lst_pu
          · apply P_extract
            focus rfl
            focus rfl
          focus rfl
          apply Lst_pu
          · apply P_extract
            focus rfl
            focus rfl
          focus rfl
          apply Lst_pu
          · apply P_extract
            focus rfl
            focus rfl
          focus rfl
          apply Lst_pu
          · apply P_assign
            focus constructor
          focus rfl
          apply Lst_pu
          · apply P_assign
            focus constructor
          focus rfl
          apply Lst_pu
          · apply P_assign
            focus constructor
          focus rfl
          apply Lst_nil
          apply seqQ_n
          refine W_cut (α := Unit) (fun _ => [(0, .int .i64 seg), (1, .slice aa Ah.length ac), (2, .slice ba b.length bc), (3, .bool anew), (4, .slice ka keep.length kc), (11, .int .i64 (n : Int)), (17, .int .i64 f), (18, .bool (!d.dead)), (20, .slice oa L.length oc)]) (fun _ X => X = A4) ?_ ?_
          · rcases hf with rfl | rfl
            · (refine Ga ?_)
              exact cutQ_n (α := Unit) () rfl ⟨rfl, rfl, rfl, rfl, rfl, rfl, rfl, rfl, rfl, trivial⟩
            · (refine Ga ?_)
              exact cutQ_n (α := Unit) () rfl ⟨rfl, rfl, rfl, rfl, rfl, rfl, rfl, rfl, rfl, trivial⟩
          · rintro J _ X rfl
            have hbs := hob.reads
            (refine Ga ?_)
            (apply Lst_call; (focus rfl); (focus rfl))
            refine (c_same _ _ L Ah (by omega) X hbs (ha.below hM4.base.low)).mono ?_
            rintro v X5 ⟨rfl, hb5⟩
            (refine Ga ?_)
            have hW5 : Base w X5 := hM4.base.below hb5
            obtain ⟨us, hus1, hus2, hus3⟩ := bs_vals (ha.below hW5.low) hfa
            apply Lst_appendN (B := X5.heap.size) (hy := hus2) (hone := ints_one hus3)
            focus omega
            focus exact Nat.le_refl _
            focus rfl
            focus rfl
            focus rfl
            intro v6 w6 ho6 hb6
            obtain ⟨a6, c6, rfl, _⟩ := own_form ho6
            have hs6 := hb6.size
            (refine Ga ?_)
            apply Lst_push (hown := ho6) (bytes := 24)
            ((focus constructor); (focus rfl); (focus rfl); (focus rfl); (focus rfl); (focus rfl); (focus rfl); (focus rfl); (focus rfl); (focus rfl); (focus rfl); (focus simp [Value.oneCell']); (focus rfl); (focus rfl); (focus rfl); (focus rfl); (focus omega); (focus omega); (focus omega))
            intro v7 w7 ho7 hg7 _
            have hb7 : Below X5.heap.size w6 w7 := Below.own (Below.refl _ _) ho6 hg7 (Nat.le_refl _) hb6.size
            have hb57 : Below X5.heap.size X5 w7 := hb6.trans hb7
            have hW7 : Base w w7 := hW5.below hb57
            have hall : All2 (fun u x => By w7 u x) (us ++ [.slice ba b.length bc]) (Ah ++ [b]) := all2_snoc (r := fun u x => By w7 u x) (.inl (Ints.below hb hW7.low (Nat.le_refl _))) (All2.mono (fun _ _ hh => By.below hh hb57 (Nat.le_refl _)) hus3)
            have hbs7 : BsS w7 v7 (Ah ++ [b]) := bs_own (B := X5.heap.size) (by rw [List.length_append]; exact ho7) hall
            obtain ⟨a7, c7, rfl, _⟩ := own_form ho7
            have hbs57 := (hbs.below hb5).below hb57
            (refine Ga ?_)
            (apply Lst_call; (focus rfl); (focus rfl))
            refine (c_same _ _ L (Ah ++ [b]) (by omega) w7 hbs57 hbs7).mono ?_
            rintro v w8 ⟨rfl, hb8⟩
            have hW8 : Base w w8 := hW7.below hb8
            have hbs8 := hbs57.below hb8
            clear hbs57 hbs7 hall hb57 hb7 hb6 ho6 ho7 hg7 hus3 hus2 hus1 hbs
            apply Lst_pu
            · apply P_assign
              focus constructor
            focus rfl
            apply Lst_nil
            apply seqQ_n
            refine W_cut (α := Unit) (fun _ => [(0, .int .i64 seg), (1, .slice aa Ah.length ac), (2, .slice ba b.length bc), (3, .bool anew), (4, .slice ka keep.length kc), (11, .int .i64 (n : Int)), (17, .int .i64 f), (18, .bool (!d.dead)), (22, .bool (decide (L = Ah))), (23, .bool (decide (L = fullL anew Ah b)))]) (fun _ X => Base w X) ?_ ?_
            · cases anew with
              | true =>
                (refine Ga ?_)
                (apply Lst_lit1; (focus constructor); (focus rfl); (focus rfl); (focus rfl); (focus rfl); (focus rfl); (focus rfl); (focus rfl); (focus rfl); (focus ((try simp only [Sx.sizes]); first | done | rfl)); (focus rfl))
                have hbx : Below w8.heap.size w8 (w8.alloc (.cells [.slice ba b.length bc].toArray 22)) := Bel
                have hBx : Blk (w8.alloc (.cells [.slice ba b.length bc].toArray 22)) w8.heap.size [.slice ba b.length bc] 22 := Blk.newE rfl _ _
                generalize w8.alloc (.cells [.slice ba b.length bc].toArray 22) = wx at hbx hBx ⊢
                have hWx : Base w wx := hW8.below hbx
                have hbsx : BsS wx (.slice (some ⟨w8.heap.size, 0, none⟩) 1 1) [b] := ⟨_, _, rfl, fun j hj => by
                  obtain rfl : j = 0 := by
                    have : j < 1 := hj
                    omega
                  exact ⟨_, _, _, rfl, hBx.cell 0, hBx.lt, .inl (Ints.below hb hWx.low (Nat.le_refl _))⟩⟩
                (apply Lst_call; (focus rfl); (focus rfl))
                refine (c_same _ _ L [b] (by omega) wx (hbs8.below hbx) hbsx).mono ?_
                rintro v w9 ⟨rfl, hb9⟩
                (refine Ga ?_)
                exact cutQ_n (α := Unit) () (hWx.below hb9) ⟨rfl, rfl, rfl, rfl, rfl, rfl, rfl, rfl, rfl, rfl, trivial⟩
              | false =>
                (refine Ga ?_)
                exact cutQ_n (α := Unit) () hW8 ⟨rfl, rfl, rfl, rfl, rfl, rfl, rfl, rfl, rfl, rfl, trivial⟩
            · rintro J _ A hA
              have hfu : decide (L = fullL anew Ah b) = true ∨ (f = 43 ∧ decide (L = Ah) = true) := by
                rcases hL with h | ⟨h1, h2⟩
                · exact .inl (decide_eq_true h)
                · exact .inr ⟨h1, decide_eq_true h2⟩
              generalize decide (L = fullL anew Ah b) = fu at hfu ⊢
              generalize decide (L = Ah) = ol at hfu ⊢
              have hnx : ((n : Int) + 1) = ((n + 1 : Nat) : Int) := by omega
              clear hL hob hbs8 hW8 hb8 hW5 hb5 hM4 hO hG
              cases hdd : d.dead with
              | true =>
                cases fu with
                | true =>
                  (refine Ga ?_)
                  rw [hnx]
                  exact rndQ_n (α := Nat) (n + 1) ⟨hn, hA⟩ ⟨rfl, rfl, rfl, rfl, rfl, rfl, trivial⟩ (by omega)
                | false =>
                  rcases hfu with h | ⟨rfl, rfl⟩
                  · cases h
                  · (refine Ga ?_)
                    rw [hnx]
                    exact rndQ_n (α := Nat) (n + 1) ⟨hn, hA⟩ ⟨rfl, rfl, rfl, rfl, rfl, rfl, trivial⟩ (by omega)
              | false =>
                obtain rfl := hal hdd
                cases fu with
                | true =>
                  (refine Ga ?_)
                  (apply retQ1; (focus rfl))
                  exact ⟨rfl, hA.low⟩
                | false =>
                  rcases hfu with h | ⟨h, _⟩
                  · cases h
                  · omega
  · (refine Ga ?_)
    (apply retQ1; (focus rfl))
    exact ⟨rfl, hE0.low⟩
end
end Wa
end Go.Proofs.YtfocnbmihcnaoaaGreatDoor
