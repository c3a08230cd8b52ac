/- SeqRuns' walk. -/
import Derived.Test.YtmammcgdjjldbaaSqTwo
namespace Go.Proofs.Ytmammcgdjjldbaa
set_option maxRecDepth 100000
namespace Sq
open Go Go.RowKit Sx Tl
def topU : Un := ⟨(5, 9007199254740990), (0, 0), (0, 0)⟩
theorem top_no (t : Fo) : runOk t topU 3 = false := by
  unfold runOk topU
  simp
theorem top_ok {t : Fo} (hg : Fo.Good t) (h1 : ((5, 9007199254740990) : Id) ∉ t.ids) (h2 : ((5, 9007199254740991) : Id) ∉ t.ids) : runOk t topU 2 = true ∧ (runR t topU 2).sz = t.sz + 2 ∧ ∀ k ∈ t.ids, k ∈ (runR t topU 2).ids := by
  have hM : Fo.May t topU := ⟨⟨by decide, h1, .inl rfl, .inl rfl⟩, .inl rfl⟩
  have hok : runOk t topU 2 = true := by
    have hf : freeTo t topU 2 = true := free_iff.2 fun i hi => by
      rcases (show i = 0 ∨ i = 1 by omega) with rfl | rfl
      · exact h1
      · exact h2
    unfold runOk
    rw [Fo.may_iff.2 hM, show ((2 : Int).toNat) = 2 from rfl, hf]
    decide
  have hg1 := hg.put hM.toCan
  refine ⟨hok, ?_, fun k hk => ?_⟩
  · unfold runR
    rw [hok, if_pos rfl]
    show (Fo.put (Fo.put t topU) (nx topU)).sz = _
    rw [Fo.put_sz hg1.nd, Fo.put_sz hg.nd]
  · unfold runR
    rw [hok, if_pos rfl]
    show k ∈ (Fo.put (Fo.put t topU) (nx topU)).ids
    exact (Fo.put_ids hg1.nd k).2 (.inr ((Fo.put_ids hg.nd k).2 (.inr hk)))
attribute [local irreducible] W Lst Qst Pu seqQ blkQ rndQ cutQ retQ Does Enters IntKind.wrap bits sb World.alloc World.putObj Blk
set_option maxHeartbeats 4000000 in
theorem law_SeqRuns (zs : List Int) (a : Option Addr) (c : Nat) (hz : ∀ z ∈ zs, 0 ≤ z ∧ z < 65536) (y1 y2 : Int) (y3 : Int) (hy3 : 0 ≤ y3 ∧ y3 < 18446744073709551616) (w : World) (h : Ints w .u16 (.slice a zs.length c) zs) :
    Does Try.prog 6 #[.slice a zs.length c, .int .i64 y1, .int .i64 y2, .int .u64 y3] w fun v w' => v = .bool true ∧ Below w.heap.size w w' := by
  refine Does_of (args := [.slice a zs.length c, .int .i64 y1, .int .i64 y2, .int .u64 y3]) Try.func6 (by kernel_rfl) rfl rfl rfl rfl rfl ?_
  (refine Ga ?_)
  (apply Lst_call; (focus rfl); (focus rfl))
  refine (c_known w).mono ?_
  rintro v w1 ⟨rfl, hb1⟩
  by_cases hl : zs.length ≤ 40
  · have h1 := h.below hb1 (Nat.le_refl _)
    (refine Ga ?_)
    (apply Lst_call; (focus rfl); (focus rfl))
    refine (c_grown zs a c hz (by omega) w1 h1).mono ?_
    rintro v w2 ⟨us, hO, hul, hok, hsm, hb2⟩
    have b2 := hb1.trans (hb2.mono hb1.size)
    obtain ⟨v1, v2, v3, rfl⟩ := own_slice hO
    have hrow := hO.rows
    obtain ⟨_, _, hform⟩ := own_form hO
    obtain ⟨hfe, _⟩ := hform
    injection hfe with e1 e2 e3
    subst e2
    (refine Ga ?_)
    (apply Lst_call; (focus rfl); (focus rfl))
    refine (c_New w2).mono ?_
    rintro v wa ⟨pa, Fa0, rfl, hSa, hla, hbA0⟩
    (refine Ga ?_)
    (apply Lst_call; (focus rfl); (focus rfl))
    refine (c_New wa).mono ?_
    rintro v wb ⟨pb, Fb0, rfl, hSb, hlb, hbb⟩
    have hTwo : Two w2 wb pa Fa0 .nil pb Fb0 .nil := ⟨hSa.below hbb, hSb, fun g hg hf => by have := hSa.lt hg; have := hlb g hf; omega, hla, fun g hg => Nat.le_trans hbA0.size (hlb g hg), hbA0.trans (hbb.mono hbA0.size)⟩
    clear hSa hSb hla hlb hbb hbA0
    (refine Ga ?_)
    refine W_loop (α := Nat × (Nat → Prop) × (Nat → Prop)) (fun x => [(1, .int .i64 y1), (2, .int .i64 y2), (3, .int .u64 y3), (9, .slice v1 us.length v3), (10, .pointer (some ⟨pa, 0, none⟩)), (11, .pointer (some ⟨pb, 0, none⟩)), (12, .int .i64 (x.1 : Int))])
      (fun x A => x.1 ≤ us.length ∧ Two w2 A pa x.2.1 (Fo.putL .nil (us.take x.1)) pb x.2.2 (Fo.putL .nil (us.take x.1))) (fun x _ => us.length - x.1) (0, Fa0, Fb0) ⟨Nat.zero_le _, hTwo⟩ ⟨rfl, rfl, rfl, rfl, rfl, rfl, rfl, trivial⟩ ?_
    clear hTwo
    rintro J ⟨k, Fa, Fb⟩ A ⟨hk, hT⟩
    dsimp only at hk hT ⊢
    by_cases hkl : k < us.length
    · obtain ⟨g, off, rfl, hc⟩ := unit_at hrow hkl
      obtain ⟨hmay, hins⟩ := take_put hkl hok
      have hsz : (Fo.putL .nil (us.take k)).sz ≤ 60 := by
        have := Fo.putL_sz Fo.Good.nil (take_ok k hok)
        rw [nil_sz, List.length_take] at this
        omega
      (refine Ga ?_)
      apply Lst_pu
      · apply P_idxm (j := k)
        focus rfl
        focus rfl
        focus rfl
        focus rfl
        focus rfl
        focus exact hkl
      focus rfl
      (refine Ga ?_)
      apply Lst_loadS' (cs := ucs us[k])
      focus rfl
      focus rfl
      focus rfl
      focus rfl
      focus rfl
      focus exact hc A hT.bel
      focus rfl
      (refine Ga ?_)
      (apply Lst_call; (focus rfl); (focus rfl))
      refine (c_Insert us[k] pa Fa _ A (by omega) hT.sa).mono ?_
      rintro v D ⟨rfl, Fa', hSD, hTD⟩
      rw [hins] at hSD
      have hT2 := hT.a hSD hTD
      (refine Ga ?_)
      apply Lst_pu
      · apply P_idxm (j := k)
        focus rfl
        focus rfl
        focus rfl
        focus rfl
        focus rfl
        focus exact hkl
      focus rfl
      (refine Ga ?_)
      apply Lst_loadS' (cs := ucs us[k])
      focus rfl
      focus rfl
      focus rfl
      focus rfl
      focus rfl
      focus exact hc D hT2.bel
      focus rfl
      (refine Ga ?_)
      (apply Lst_call; (focus rfl); (focus rfl))
      refine (c_Insert us[k] pb Fb _ D (by omega) hT2.sb).mono ?_
      rintro v D2 ⟨rfl, Fb', hSD2, hTD2⟩
      rw [hins] at hSD2
      have hT3 := hT2.b hSD2 hTD2
      (refine Ga ?_)
      refine rndQ_n (α := Nat × (Nat → Prop) × (Nat → Prop)) (k + 1, Fa', Fb') ⟨hkl, hT3⟩ ⟨rfl, rfl, rfl, rfl, rfl, rfl, ?_, trivial⟩ (by dsimp only; omega)
      exact congrArg (Value.int .i64) (by dsimp only; omega)
    · obtain rfl : k = us.length := by omega
      rw [List.take_length] at hT
      have hT0 := hT.sa.good
      have hfit := hT.sa.fits
      have hsz : (Fo.putL .nil us).sz = us.length := by
        have := Fo.putL_sz Fo.Good.nil hok
        rw [nil_sz] at this
        omega
      have hids : ∀ k, k ∈ (Fo.putL .nil us).ids → k.2 ≤ 100 := fun k hk => by
        rcases (Fo.putL_ids Fo.Good.nil hok k).1 hk with h | ⟨u, hu, rfl⟩
        · cases h
        · exact (hsm u hu).2.2.2
      generalize Fo.putL .nil us = T at *
      (refine Ga ?_)
      (apply Lst_call; (focus rfl); (focus rfl))
      refine (s_Len hT.sa).mono ?_
      rintro v A' ⟨rfl, rfl⟩
      (refine Ga ?_)
      (apply Lst_call; (focus rfl); (focus rfl))
      refine (Wire.h_Place y1 ((T.sz : Int) + 1) A (by omega) (by omega)).mono ?_
      rintro v A' ⟨rfl, rfl⟩
      obtain ⟨n, hn⟩ : ∃ n : Nat, y1 % ((T.sz : Int) + 1) = (n : Int) := ⟨(y1 % ((T.sz : Int) + 1)).toNat, by have := Int.emod_nonneg y1 (show (T.sz : Int) + 1 ≠ 0 by omega); omega⟩
      have hnT : n ≤ T.sz := by have := Int.emod_lt_of_pos y1 (show 0 < (T.sz : Int) + 1 by omega); omega
      rw [hn]
      (refine Ga ?_)
      (apply Lst_call; (focus rfl); (focus rfl))
      refine (Wire.h_Place y2 20 A (by omega) (by omega)).mono ?_
      rintro v A' ⟨rfl, rfl⟩
      obtain ⟨m', hm'⟩ : ∃ m : Nat, y2 % 20 = (m : Int) := ⟨(y2 % 20).toNat, by omega⟩
      have hm20 : m' < 20 := by omega
      rw [hm']
      obtain ⟨m, hm⟩ : ∃ m, m = 1 + m' := ⟨_, rfl⟩
      have hmi : (1 : Int) + (m' : Int) = (m : Int) := by omega
      obtain ⟨q, hq⟩ : ∃ q : Nat, y3.tmod 1000 = (q : Int) := ⟨(y3.tmod 1000).toNat, by have := Int.tmod_nonneg 1000 hy3.1; omega⟩
      have hq2 : q < 1000 := by have := Int.tmod_lt_of_pos y3 (show (0 : Int) < 1000 by omega); omega
      (first | (apply W_seq) | (apply W_region) | (apply W_block) | (apply W_skip) | (apply W_ret) | (apply W_exit) | (apply W_cond_t; (focus rfl)) | (apply W_cond_f; (focus rfl)) | (apply Lst_nil) | (apply seqQ_n) | (apply seqQ_r) | (apply seqQ_e) | (apply blkQ_n) | (apply blkQ_r) | (apply blkQ_e) | (apply blkQ_o; (focus rfl)) | (apply rndQ_r) | (apply rndQ_e) | (apply cutQ_r) | (apply cutQ_e) | (apply Lst_guard_t; (focus rfl); (focus rfl)) | (apply Lst_guard_f; (focus rfl); (focus rfl); (focus rfl); (focus rfl)) | (apply Lst_guard_u; (focus rfl); (focus rfl); (focus rfl)) | (apply Lst_rangeS; (focus rfl); (focus rfl); (focus ((try simp only [Sx.sizes]); first | done | rfl)); (focus rfl)) | (apply Lst_alloc; (focus rfl); (focus rfl); (focus rfl); (focus ((try simp only [Sx.sizes]); first | done | rfl)); (focus rfl)) | (apply Lst_box; (focus constructor); (focus rfl); (focus ((try simp only [Sx.sizes]); first | done | rfl)); (focus rfl)) | (apply Lst_load; (focus rfl); (focus rfl); (focus rfl); (focus ((repeat (first | assumption | (apply Blk.below (hb := hb1); rotate_left; (focus ((try simp only [Sx.sizes]); omega)); rotate_right) | (apply Blk.below (hb := hb2); rotate_left; (focus ((try simp only [Sx.sizes]); omega)); rotate_right) | (apply Blk.below (hb := hb3); rotate_left; (focus ((try simp only [Sx.sizes]); omega)); rotate_right) | (apply Blk.below (hb := hb4); rotate_left; (focus ((try simp only [Sx.sizes]); omega)); rotate_right) | (apply Blk.below (hb := hb5); rotate_left; (focus ((try simp only [Sx.sizes]); omega)); rotate_right) | (apply Blk.below (hb := hb6); rotate_left; (focus ((try simp only [Sx.sizes]); omega)); rotate_right) | (apply Blk.below (hb := hb7); rotate_left; (focus ((try simp only [Sx.sizes]); omega)); rotate_right) | (apply Blk.below (hb := hb8); rotate_left; (focus ((try simp only [Sx.sizes]); omega)); rotate_right) | (apply Blk.below (hb := hb9); rotate_left; (focus ((try simp only [Sx.sizes]); omega)); rotate_right) | exact Blk.newE (by first | rfl | ((try simp only [Sx.sizes]); first | done | omega)) _ _ | exact Blk.put_same (by (try simp only [Sx.sizes]); first | done | omega) _ _ | (apply Blk.put_ne; (focus omega)) | apply Blk.alloc | apply Blk.drew)); done)); (focus rfl); (focus rfl)) | (apply Lst_loadc; (focus rfl); (focus rfl); (focus rfl); (focus assumption); (focus rfl)) | (apply Lst_store; (focus rfl); (focus constructor); (focus rfl); (focus rfl); (focus rfl); (focus rfl); (focus ((repeat (first | assumption | (apply Blk.below (hb := hb1); rotate_left; (focus ((try simp only [Sx.sizes]); omega)); rotate_right) | (apply Blk.below (hb := hb2); rotate_left; (focus ((try simp only [Sx.sizes]); omega)); rotate_right) | (apply Blk.below (hb := hb3); rotate_left; (focus ((try simp only [Sx.sizes]); omega)); rotate_right) | (apply Blk.below (hb := hb4); rotate_left; (focus ((try simp only [Sx.sizes]); omega)); rotate_right) | (apply Blk.below (hb := hb5); rotate_left; (focus ((try simp only [Sx.sizes]); omega)); rotate_right) | (apply Blk.below (hb := hb6); rotate_left; (focus ((try simp only [Sx.sizes]); omega)); rotate_right) | (apply Blk.below (hb := hb7); rotate_left; (focus ((try simp only [Sx.sizes]); omega)); rotate_right) | (apply Blk.below (hb := hb8); rotate_left; (focus ((try simp only [Sx.sizes]); omega)); rotate_right) | (apply Blk.below (hb := hb9); rotate_left; (focus ((try simp only [Sx.sizes]); omega)); rotate_right) | exact Blk.newE (by first | rfl | ((try simp only [Sx.sizes]); first | done | omega)) _ _ | exact Blk.put_same (by (try simp only [Sx.sizes]); first | done | omega) _ _ | (apply Blk.put_ne; (focus omega)) | apply Blk.alloc | apply Blk.drew)); done)); (focus ((repeat constructor); done))) | (apply Lst_pu; (focus (first | (apply P_neg; (focus rfl); (focus (first | assumption | exact wi64 (by omega) (by omega) | exact wu64 (by omega) (by omega) | exact wi32 (by omega) (by omega) | exact wu8 (by omega) (by omega) | rfl))) | (apply P_move; (focus constructor)) | (apply P_assign; (focus constructor)) | (apply P_ar; (focus rfl); (focus rfl); (focus rfl); (focus (first | assumption | exact wi64 (by omega) (by omega) | exact wu64 (by omega) (by omega) | exact wi32 (by omega) (by omega) | exact wu8 (by omega) (by omega) | rfl))) | (apply P_ct; (focus rfl); (focus rfl); (focus rfl); (focus (dsimp only [cmpP]; first | done | omega))) | (apply P_cf; (focus rfl); (focus rfl); (focus rfl); (focus (dsimp only [cmpP]; first | done | omega))) | (apply P_pick_t; (focus rfl); (focus constructor)) | (apply P_pick_f; (focus rfl); (focus constructor)) | (apply P_extract; (focus rfl); (focus rfl)) | (apply P_not; (focus rfl); (focus rfl)) | (apply P_slen; (focus rfl); (focus rfl)) | (apply P_llen; (focus rfl); (focus rfl)) | (apply P_beq; (focus rfl); (focus rfl); (focus rfl); (focus (first | exact beq_self_eq_true _ | rfl))) | (apply P_bne; (focus rfl); (focus rfl); (focus rfl); (focus (first | exact bne_self_eq_false _ | rfl))) | (apply P_sadd; (focus rfl); (focus rfl); (focus omega)) | (apply P_max; (focus rfl); (focus rfl)) | (apply P_min; (focus rfl); (focus rfl)) | (apply P_idx1; (focus rfl); (focus rfl); (focus rfl); (focus rfl); (focus rfl); (focus omega)) | (apply P_nilCheck; (focus rfl)) | (apply P_conv; (focus rfl); (focus rfl); (focus rfl); (focus (first | assumption | exact wi64 (by omega) (by omega) | exact wu64 (by omega) (by omega) | exact wi32 (by omega) (by omega) | exact wu8 (by omega) (by omega) | rfl))) | (apply P_sindex0; (focus rfl); (focus rfl); (focus rfl); (focus omega)) | (apply P_sindexN; (focus rfl); (focus rfl); (focus rfl); (focus omega)) | (apply P_sindex; (focus rfl); (focus rfl); (focus rfl); (focus omega); (focus omega)) | (apply P_makeFunc; (focus (repeat constructor)); (focus (repeat constructor))) | (apply P_seq_t; (focus rfl); (focus rfl); (focus (first | assumption | rfl))) | (apply P_seq_f; (focus rfl); (focus rfl); (focus assumption)) | (apply P_sne_t; (focus rfl); (focus rfl); (focus assumption)) | (apply P_sne_f; (focus rfl); (focus rfl); (focus (first | assumption | rfl))) | (apply P_lslice; (focus rfl); (focus rfl); (focus rfl); (focus rfl); (focus rfl); (focus rfl); (focus omega); (focus omega); (focus omega)) | (apply P_lslice_hi; (focus rfl); (focus rfl); (focus rfl); (focus rfl); (focus rfl); (focus omega); (focus omega)) | (apply P_lslice_lo; (focus rfl); (focus rfl); (focus rfl); (focus rfl); (focus rfl); (focus omega); (focus omega)) | (apply P_sslice_lo; (focus rfl); (focus rfl); (focus rfl); (focus omega); (focus omega)) | (apply P_sslice_hi; (focus rfl); (focus rfl); (focus rfl); (focus omega); (focus omega)) | (apply P_sslice; (focus rfl); (focus rfl); (focus rfl); (focus rfl); (focus omega); (focus omega); (focus omega)) | (apply P_quo; (focus rfl); (focus rfl); (focus omega); (focus rfl)) | (apply P_rem; (focus rfl); (focus rfl); (focus omega); (focus rfl)) | (apply P_and; (focus rfl); (focus rfl); (focus (first | assumption | exact u8_and63 _ (by omega) (by omega) | exact u8_and31 _ (by omega) (by omega) | exact u8_and15 _ (by omega) (by omega) | exact u8_and7 _ (by omega) (by omega) | exact and192 (by omega) (by omega) | rfl))) | (apply P_or; (focus rfl); (focus rfl); (focus (first | assumption | exact i32_or6 _ _ (by omega) (by omega) (by omega) (by omega) (by omega) | rfl))) | (apply P_xor; (focus rfl); (focus rfl); (focus rfl)) | (apply P_shl_1; (focus rfl); (focus rfl); (focus rfl); (focus (first | assumption | exact wi64 (by omega) (by omega) | exact wu64 (by omega) (by omega) | exact wi32 (by omega) (by omega) | exact wu8 (by omega) (by omega) | rfl))) | (apply P_shl_2; (focus rfl); (focus rfl); (focus rfl); (focus (first | assumption | exact wi64 (by omega) (by omega) | exact wu64 (by omega) (by omega) | exact wi32 (by omega) (by omega) | exact wu8 (by omega) (by omega) | rfl))) | (apply P_shl_3; (focus rfl); (focus rfl); (focus rfl); (focus (first | assumption | exact wi64 (by omega) (by omega) | exact wu64 (by omega) (by omega) | exact wi32 (by omega) (by omega) | exact wu8 (by omega) (by omega) | rfl))) | (apply P_shl_4; (focus rfl); (focus rfl); (focus rfl); (focus (first | assumption | exact wi64 (by omega) (by omega) | exact wu64 (by omega) (by omega) | exact wi32 (by omega) (by omega) | exact wu8 (by omega) (by omega) | rfl))) | (apply P_shl_5; (focus rfl); (focus rfl); (focus rfl); (focus (first | assumption | exact wi64 (by omega) (by omega) | exact wu64 (by omega) (by omega) | exact wi32 (by omega) (by omega) | exact wu8 (by omega) (by omega) | rfl))) | (apply P_shl_6; (focus rfl); (focus rfl); (focus rfl); (focus (first | assumption | exact wi64 (by omega) (by omega) | exact wu64 (by omega) (by omega) | exact wi32 (by omega) (by omega) | exact wu8 (by omega) (by omega) | rfl))) | (apply P_shl_7; (focus rfl); (focus rfl); (focus rfl); (focus (first | assumption | exact wi64 (by omega) (by omega) | exact wu64 (by omega) (by omega) | exact wi32 (by omega) (by omega) | exact wu8 (by omega) (by omega) | rfl))) | (apply P_shl_8; (focus rfl); (focus rfl); (focus rfl); (focus (first | assumption | exact wi64 (by omega) (by omega) | exact wu64 (by omega) (by omega) | exact wi32 (by omega) (by omega) | exact wu8 (by omega) (by omega) | rfl))) | (apply P_shl_16; (focus rfl); (focus rfl); (focus rfl); (focus (first | assumption | exact wi64 (by omega) (by omega) | exact wu64 (by omega) (by omega) | exact wi32 (by omega) (by omega) | exact wu8 (by omega) (by omega) | rfl))) | (apply P_shl_24; (focus rfl); (focus rfl); (focus rfl); (focus (first | assumption | exact wi64 (by omega) (by omega) | exact wu64 (by omega) (by omega) | exact wi32 (by omega) (by omega) | exact wu8 (by omega) (by omega) | rfl))) | (apply P_shl_32; (focus rfl); (focus rfl); (focus rfl); (focus (first | assumption | exact wi64 (by omega) (by omega) | exact wu64 (by omega) (by omega) | exact wi32 (by omega) (by omega) | exact wu8 (by omega) (by omega) | rfl))) | (apply P_shl_40; (focus rfl); (focus rfl); (focus rfl); (focus (first | assumption | exact wi64 (by omega) (by omega) | exact wu64 (by omega) (by omega) | exact wi32 (by omega) (by omega) | exact wu8 (by omega) (by omega) | rfl))) | (apply P_shl_48; (focus rfl); (focus rfl); (focus rfl); (focus (first | assumption | exact wi64 (by omega) (by omega) | exact wu64 (by omega) (by omega) | exact wi32 (by omega) (by omega) | exact wu8 (by omega) (by omega) | rfl))) | (apply P_shl_56; (focus rfl); (focus rfl); (focus rfl); (focus (first | assumption | exact wi64 (by omega) (by omega) | exact wu64 (by omega) (by omega) | exact wi32 (by omega) (by omega) | exact wu8 (by omega) (by omega) | rfl))) | (apply P_shr_1; (focus rfl); (focus rfl); (focus rfl)) | (apply P_shr_2; (focus rfl); (focus rfl); (focus rfl)) | (apply P_shr_3; (focus rfl); (focus rfl); (focus rfl)) | (apply P_shr_4; (focus rfl); (focus rfl); (focus rfl)) | (apply P_shr_5; (focus rfl); (focus rfl); (focus rfl)) | (apply P_shr_6; (focus rfl); (focus rfl); (focus rfl)) | (apply P_shr_7; (focus rfl); (focus rfl); (focus rfl)) | (apply P_shr_8; (focus rfl); (focus rfl); (focus rfl)) | (apply P_shr_16; (focus rfl); (focus rfl); (focus rfl)) | (apply P_shr_24; (focus rfl); (focus rfl); (focus rfl)) | (apply P_shr_32; (focus rfl); (focus rfl); (focus rfl)) | (apply P_shr_40; (focus rfl); (focus rfl); (focus rfl)) | (apply P_shr_48; (focus rfl); (focus rfl); (focus rfl)) | (apply P_shr_56; (focus rfl); (focus rfl); (focus rfl)))); (focus rfl)))
      rw [hmi]
      (first | (apply W_seq) | (apply W_region) | (apply W_block) | (apply W_skip) | (apply W_ret) | (apply W_exit) | (apply W_cond_t; (focus rfl)) | (apply W_cond_f; (focus rfl)) | (apply Lst_nil) | (apply seqQ_n) | (apply seqQ_r) | (apply seqQ_e) | (apply blkQ_n) | (apply blkQ_r) | (apply blkQ_e) | (apply blkQ_o; (focus rfl)) | (apply rndQ_r) | (apply rndQ_e) | (apply cutQ_r) | (apply cutQ_e) | (apply Lst_guard_t; (focus rfl); (focus rfl)) | (apply Lst_guard_f; (focus rfl); (focus rfl); (focus rfl); (focus rfl)) | (apply Lst_guard_u; (focus rfl); (focus rfl); (focus rfl)) | (apply Lst_rangeS; (focus rfl); (focus rfl); (focus ((try simp only [Sx.sizes]); first | done | rfl)); (focus rfl)) | (apply Lst_alloc; (focus rfl); (focus rfl); (focus rfl); (focus ((try simp only [Sx.sizes]); first | done | rfl)); (focus rfl)) | (apply Lst_box; (focus constructor); (focus rfl); (focus ((try simp only [Sx.sizes]); first | done | rfl)); (focus rfl)) | (apply Lst_load; (focus rfl); (focus rfl); (focus rfl); (focus ((repeat (first | assumption | (apply Blk.below (hb := hb1); rotate_left; (focus ((try simp only [Sx.sizes]); omega)); rotate_right) | (apply Blk.below (hb := hb2); rotate_left; (focus ((try simp only [Sx.sizes]); omega)); rotate_right) | (apply Blk.below (hb := hb3); rotate_left; (focus ((try simp only [Sx.sizes]); omega)); rotate_right) | (apply Blk.below (hb := hb4); rotate_left; (focus ((try simp only [Sx.sizes]); omega)); rotate_right) | (apply Blk.below (hb := hb5); rotate_left; (focus ((try simp only [Sx.sizes]); omega)); rotate_right) | (apply Blk.below (hb := hb6); rotate_left; (focus ((try simp only [Sx.sizes]); omega)); rotate_right) | (apply Blk.below (hb := hb7); rotate_left; (focus ((try simp only [Sx.sizes]); omega)); rotate_right) | (apply Blk.below (hb := hb8); rotate_left; (focus ((try simp only [Sx.sizes]); omega)); rotate_right) | (apply Blk.below (hb := hb9); rotate_left; (focus ((try simp only [Sx.sizes]); omega)); rotate_right) | exact Blk.newE (by first | rfl | ((try simp only [Sx.sizes]); first | done | omega)) _ _ | exact Blk.put_same (by (try simp only [Sx.sizes]); first | done | omega) _ _ | (apply Blk.put_ne; (focus omega)) | apply Blk.alloc | apply Blk.drew)); done)); (focus rfl); (focus rfl)) | (apply Lst_loadc; (focus rfl); (focus rfl); (focus rfl); (focus assumption); (focus rfl)) | (apply Lst_store; (focus rfl); (focus constructor); (focus rfl); (focus rfl); (focus rfl); (focus rfl); (focus ((repeat (first | assumption | (apply Blk.below (hb := hb1); rotate_left; (focus ((try simp only [Sx.sizes]); omega)); rotate_right) | (apply Blk.below (hb := hb2); rotate_left; (focus ((try simp only [Sx.sizes]); omega)); rotate_right) | (apply Blk.below (hb := hb3); rotate_left; (focus ((try simp only [Sx.sizes]); omega)); rotate_right) | (apply Blk.below (hb := hb4); rotate_left; (focus ((try simp only [Sx.sizes]); omega)); rotate_right) | (apply Blk.below (hb := hb5); rotate_left; (focus ((try simp only [Sx.sizes]); omega)); rotate_right) | (apply Blk.below (hb := hb6); rotate_left; (focus ((try simp only [Sx.sizes]); omega)); rotate_right) | (apply Blk.below (hb := hb7); rotate_left; (focus ((try simp only [Sx.sizes]); omega)); rotate_right) | (apply Blk.below (hb := hb8); rotate_left; (focus ((try simp only [Sx.sizes]); omega)); rotate_right) | (apply Blk.below (hb := hb9); rotate_left; (focus ((try simp only [Sx.sizes]); omega)); rotate_right) | exact Blk.newE (by first | rfl | ((try simp only [Sx.sizes]); first | done | omega)) _ _ | exact Blk.put_same (by (try simp only [Sx.sizes]); first | done | omega) _ _ | (apply Blk.put_ne; (focus omega)) | apply Blk.alloc | apply Blk.drew)); done)); (focus ((repeat constructor); done))) | (apply Lst_pu; (focus (first | (apply P_neg; (focus rfl); (focus (first | assumption | exact wi64 (by omega) (by omega) | exact wu64 (by omega) (by omega) | exact wi32 (by omega) (by omega) | exact wu8 (by omega) (by omega) | rfl))) | (apply P_move; (focus constructor)) | (apply P_assign; (focus constructor)) | (apply P_ar; (focus rfl); (focus rfl); (focus rfl); (focus (first | assumption | exact wi64 (by omega) (by omega) | exact wu64 (by omega) (by omega) | exact wi32 (by omega) (by omega) | exact wu8 (by omega) (by omega) | rfl))) | (apply P_ct; (focus rfl); (focus rfl); (focus rfl); (focus (dsimp only [cmpP]; first | done | omega))) | (apply P_cf; (focus rfl); (focus rfl); (focus rfl); (focus (dsimp only [cmpP]; first | done | omega))) | (apply P_pick_t; (focus rfl); (focus constructor)) | (apply P_pick_f; (focus rfl); (focus constructor)) | (apply P_extract; (focus rfl); (focus rfl)) | (apply P_not; (focus rfl); (focus rfl)) | (apply P_slen; (focus rfl); (focus rfl)) | (apply P_llen; (focus rfl); (focus rfl)) | (apply P_beq; (focus rfl); (focus rfl); (focus rfl); (focus (first | exact beq_self_eq_true _ | rfl))) | (apply P_bne; (focus rfl); (focus rfl); (focus rfl); (focus (first | exact bne_self_eq_false _ | rfl))) | (apply P_sadd; (focus rfl); (focus rfl); (focus omega)) | (apply P_max; (focus rfl); (focus rfl)) | (apply P_min; (focus rfl); (focus rfl)) | (apply P_idx1; (focus rfl); (focus rfl); (focus rfl); (focus rfl); (focus rfl); (focus omega)) | (apply P_nilCheck; (focus rfl)) | (apply P_conv; (focus rfl); (focus rfl); (focus rfl); (focus (first | assumption | exact wi64 (by omega) (by omega) | exact wu64 (by omega) (by omega) | exact wi32 (by omega) (by omega) | exact wu8 (by omega) (by omega) | rfl))) | (apply P_sindex0; (focus rfl); (focus rfl); (focus rfl); (focus omega)) | (apply P_sindexN; (focus rfl); (focus rfl); (focus rfl); (focus omega)) | (apply P_sindex; (focus rfl); (focus rfl); (focus rfl); (focus omega); (focus omega)) | (apply P_makeFunc; (focus (repeat constructor)); (focus (repeat constructor))) | (apply P_seq_t; (focus rfl); (focus rfl); (focus (first | assumption | rfl))) | (apply P_seq_f; (focus rfl); (focus rfl); (focus assumption)) | (apply P_sne_t; (focus rfl); (focus rfl); (focus assumption)) | (apply P_sne_f; (focus rfl); (focus rfl); (focus (first | assumption | rfl))) | (apply P_lslice; (focus rfl); (focus rfl); (focus rfl); (focus rfl); (focus rfl); (focus rfl); (focus omega); (focus omega); (focus omega)) | (apply P_lslice_hi; (focus rfl); (focus rfl); (focus rfl); (focus rfl); (focus rfl); (focus omega); (focus omega)) | (apply P_lslice_lo; (focus rfl); (focus rfl); (focus rfl); (focus rfl); (focus rfl); (focus omega); (focus omega)) | (apply P_sslice_lo; (focus rfl); (focus rfl); (focus rfl); (focus omega); (focus omega)) | (apply P_sslice_hi; (focus rfl); (focus rfl); (focus rfl); (focus omega); (focus omega)) | (apply P_sslice; (focus rfl); (focus rfl); (focus rfl); (focus rfl); (focus omega); (focus omega); (focus omega)) | (apply P_quo; (focus rfl); (focus rfl); (focus omega); (focus rfl)) | (apply P_rem; (focus rfl); (focus rfl); (focus omega); (focus rfl)) | (apply P_and; (focus rfl); (focus rfl); (focus (first | assumption | exact u8_and63 _ (by omega) (by omega) | exact u8_and31 _ (by omega) (by omega) | exact u8_and15 _ (by omega) (by omega) | exact u8_and7 _ (by omega) (by omega) | exact and192 (by omega) (by omega) | rfl))) | (apply P_or; (focus rfl); (focus rfl); (focus (first | assumption | exact i32_or6 _ _ (by omega) (by omega) (by omega) (by omega) (by omega) | rfl))) | (apply P_xor; (focus rfl); (focus rfl); (focus rfl)) | (apply P_shl_1; (focus rfl); (focus rfl); (focus rfl); (focus (first | assumption | exact wi64 (by omega) (by omega) | exact wu64 (by omega) (by omega) | exact wi32 (by omega) (by omega) | exact wu8 (by omega) (by omega) | rfl))) | (apply P_shl_2; (focus rfl); (focus rfl); (focus rfl); (focus (first | assumption | exact wi64 (by omega) (by omega) | exact wu64 (by omega) (by omega) | exact wi32 (by omega) (by omega) | exact wu8 (by omega) (by omega) | rfl))) | (apply P_shl_3; (focus rfl); (focus rfl); (focus rfl); (focus (first | assumption | exact wi64 (by omega) (by omega) | exact wu64 (by omega) (by omega) | exact wi32 (by omega) (by omega) | exact wu8 (by omega) (by omega) | rfl))) | (apply P_shl_4; (focus rfl); (focus rfl); (focus rfl); (focus (first | assumption | exact wi64 (by omega) (by omega) | exact wu64 (by omega) (by omega) | exact wi32 (by omega) (by omega) | exact wu8 (by omega) (by omega) | rfl))) | (apply P_shl_5; (focus rfl); (focus rfl); (focus rfl); (focus (first | assumption | exact wi64 (by omega) (by omega) | exact wu64 (by omega) (by omega) | exact wi32 (by omega) (by omega) | exact wu8 (by omega) (by omega) | rfl))) | (apply P_shl_6; (focus rfl); (focus rfl); (focus rfl); (focus (first | assumption | exact wi64 (by omega) (by omega) | exact wu64 (by omega) (by omega) | exact wi32 (by omega) (by omega) | exact wu8 (by omega) (by omega) | rfl))) | (apply P_shl_7; (focus rfl); (focus rfl); (focus rfl); (focus (first | assumption | exact wi64 (by omega) (by omega) | exact wu64 (by omega) (by omega) | exact wi32 (by omega) (by omega) | exact wu8 (by omega) (by omega) | rfl))) | (apply P_shl_8; (focus rfl); (focus rfl); (focus rfl); (focus (first | assumption | exact wi64 (by omega) (by omega) | exact wu64 (by omega) (by omega) | exact wi32 (by omega) (by omega) | exact wu8 (by omega) (by omega) | rfl))) | (apply P_shl_16; (focus rfl); (focus rfl); (focus rfl); (focus (first | assumption | exact wi64 (by omega) (by omega) | exact wu64 (by omega) (by omega) | exact wi32 (by omega) (by omega) | exact wu8 (by omega) (by omega) | rfl))) | (apply P_shl_24; (focus rfl); (focus rfl); (focus rfl); (focus (first | assumption | exact wi64 (by omega) (by omega) | exact wu64 (by omega) (by omega) | exact wi32 (by omega) (by omega) | exact wu8 (by omega) (by omega) | rfl))) | (apply P_shl_32; (focus rfl); (focus rfl); (focus rfl); (focus (first | assumption | exact wi64 (by omega) (by omega) | exact wu64 (by omega) (by omega) | exact wi32 (by omega) (by omega) | exact wu8 (by omega) (by omega) | rfl))) | (apply P_shl_40; (focus rfl); (focus rfl); (focus rfl); (focus (first | assumption | exact wi64 (by omega) (by omega) | exact wu64 (by omega) (by omega) | exact wi32 (by omega) (by omega) | exact wu8 (by omega) (by omega) | rfl))) | (apply P_shl_48; (focus rfl); (focus rfl); (focus rfl); (focus (first | assumption | exact wi64 (by omega) (by omega) | exact wu64 (by omega) (by omega) | exact wi32 (by omega) (by omega) | exact wu8 (by omega) (by omega) | rfl))) | (apply P_shl_56; (focus rfl); (focus rfl); (focus rfl); (focus (first | assumption | exact wi64 (by omega) (by omega) | exact wu64 (by omega) (by omega) | exact wi32 (by omega) (by omega) | exact wu8 (by omega) (by omega) | rfl))) | (apply P_shr_1; (focus rfl); (focus rfl); (focus rfl)) | (apply P_shr_2; (focus rfl); (focus rfl); (focus rfl)) | (apply P_shr_3; (focus rfl); (focus rfl); (focus rfl)) | (apply P_shr_4; (focus rfl); (focus rfl); (focus rfl)) | (apply P_shr_5; (focus rfl); (focus rfl); (focus rfl)) | (apply P_shr_6; (focus rfl); (focus rfl); (focus rfl)) | (apply P_shr_7; (focus rfl); (focus rfl); (focus rfl)) | (apply P_shr_8; (focus rfl); (focus rfl); (focus rfl)) | (apply P_shr_16; (focus rfl); (focus rfl); (focus rfl)) | (apply P_shr_24; (focus rfl); (focus rfl); (focus rfl)) | (apply P_shr_32; (focus rfl); (focus rfl); (focus rfl)) | (apply P_shr_40; (focus rfl); (focus rfl); (focus rfl)) | (apply P_shr_48; (focus rfl); (focus rfl); (focus rfl)) | (apply P_shr_56; (focus rfl); (focus rfl); (focus rfl)))); (focus rfl)))
      (first | (apply W_seq) | (apply W_region) | (apply W_block) | (apply W_skip) | (apply W_ret) | (apply W_exit) | (apply W_cond_t; (focus rfl)) | (apply W_cond_f; (focus rfl)) | (apply Lst_nil) | (apply seqQ_n) | (apply seqQ_r) | (apply seqQ_e) | (apply blkQ_n) | (apply blkQ_r) | (apply blkQ_e) | (apply blkQ_o; (focus rfl)) | (apply rndQ_r) | (apply rndQ_e) | (apply cutQ_r) | (apply cutQ_e) | (apply Lst_guard_t; (focus rfl); (focus rfl)) | (apply Lst_guard_f; (focus rfl); (focus rfl); (focus rfl); (focus rfl)) | (apply Lst_guard_u; (focus rfl); (focus rfl); (focus rfl)) | (apply Lst_rangeS; (focus rfl); (focus rfl); (focus ((try simp only [Sx.sizes]); first | done | rfl)); (focus rfl)) | (apply Lst_alloc; (focus rfl); (focus rfl); (focus rfl); (focus ((try simp only [Sx.sizes]); first | done | rfl)); (focus rfl)) | (apply Lst_box; (focus constructor); (focus rfl); (focus ((try simp only [Sx.sizes]); first | done | rfl)); (focus rfl)) | (apply Lst_load; (focus rfl); (focus rfl); (focus rfl); (focus ((repeat (first | assumption | (apply Blk.below (hb := hb1); rotate_left; (focus ((try simp only [Sx.sizes]); omega)); rotate_right) | (apply Blk.below (hb := hb2); rotate_left; (focus ((try simp only [Sx.sizes]); omega)); rotate_right) | (apply Blk.below (hb := hb3); rotate_left; (focus ((try simp only [Sx.sizes]); omega)); rotate_right) | (apply Blk.below (hb := hb4); rotate_left; (focus ((try simp only [Sx.sizes]); omega)); rotate_right) | (apply Blk.below (hb := hb5); rotate_left; (focus ((try simp only [Sx.sizes]); omega)); rotate_right) | (apply Blk.below (hb := hb6); rotate_left; (focus ((try simp only [Sx.sizes]); omega)); rotate_right) | (apply Blk.below (hb := hb7); rotate_left; (focus ((try simp only [Sx.sizes]); omega)); rotate_right) | (apply Blk.below (hb := hb8); rotate_left; (focus ((try simp only [Sx.sizes]); omega)); rotate_right) | (apply Blk.below (hb := hb9); rotate_left; (focus ((try simp only [Sx.sizes]); omega)); rotate_right) | exact Blk.newE (by first | rfl | ((try simp only [Sx.sizes]); first | done | omega)) _ _ | exact Blk.put_same (by (try simp only [Sx.sizes]); first | done | omega) _ _ | (apply Blk.put_ne; (focus omega)) | apply Blk.alloc | apply Blk.drew)); done)); (focus rfl); (focus rfl)) | (apply Lst_loadc; (focus rfl); (focus rfl); (focus rfl); (focus assumption); (focus rfl)) | (apply Lst_store; (focus rfl); (focus constructor); (focus rfl); (focus rfl); (focus rfl); (focus rfl); (focus ((repeat (first | assumption | (apply Blk.below (hb := hb1); rotate_left; (focus ((try simp only [Sx.sizes]); omega)); rotate_right) | (apply Blk.below (hb := hb2); rotate_left; (focus ((try simp only [Sx.sizes]); omega)); rotate_right) | (apply Blk.below (hb := hb3); rotate_left; (focus ((try simp only [Sx.sizes]); omega)); rotate_right) | (apply Blk.below (hb := hb4); rotate_left; (focus ((try simp only [Sx.sizes]); omega)); rotate_right) | (apply Blk.below (hb := hb5); rotate_left; (focus ((try simp only [Sx.sizes]); omega)); rotate_right) | (apply Blk.below (hb := hb6); rotate_left; (focus ((try simp only [Sx.sizes]); omega)); rotate_right) | (apply Blk.below (hb := hb7); rotate_left; (focus ((try simp only [Sx.sizes]); omega)); rotate_right) | (apply Blk.below (hb := hb8); rotate_left; (focus ((try simp only [Sx.sizes]); omega)); rotate_right) | (apply Blk.below (hb := hb9); rotate_left; (focus ((try simp only [Sx.sizes]); omega)); rotate_right) | exact Blk.newE (by first | rfl | ((try simp only [Sx.sizes]); first | done | omega)) _ _ | exact Blk.put_same (by (try simp only [Sx.sizes]); first | done | omega) _ _ | (apply Blk.put_ne; (focus omega)) | apply Blk.alloc | apply Blk.drew)); done)); (focus ((repeat constructor); done))) | (apply Lst_pu; (focus (first | (apply P_neg; (focus rfl); (focus (first | assumption | exact wi64 (by omega) (by omega) | exact wu64 (by omega) (by omega) | exact wi32 (by omega) (by omega) | exact wu8 (by omega) (by omega) | rfl))) | (apply P_move; (focus constructor)) | (apply P_assign; (focus constructor)) | (apply P_ar; (focus rfl); (focus rfl); (focus rfl); (focus (first | assumption | exact wi64 (by omega) (by omega) | exact wu64 (by omega) (by omega) | exact wi32 (by omega) (by omega) | exact wu8 (by omega) (by omega) | rfl))) | (apply P_ct; (focus rfl); (focus rfl); (focus rfl); (focus (dsimp only [cmpP]; first | done | omega))) | (apply P_cf; (focus rfl); (focus rfl); (focus rfl); (focus (dsimp only [cmpP]; first | done | omega))) | (apply P_pick_t; (focus rfl); (focus constructor)) | (apply P_pick_f; (focus rfl); (focus constructor)) | (apply P_extract; (focus rfl); (focus rfl)) | (apply P_not; (focus rfl); (focus rfl)) | (apply P_slen; (focus rfl); (focus rfl)) | (apply P_llen; (focus rfl); (focus rfl)) | (apply P_beq; (focus rfl); (focus rfl); (focus rfl); (focus (first | exact beq_self_eq_true _ | rfl))) | (apply P_bne; (focus rfl); (focus rfl); (focus rfl); (focus (first | exact bne_self_eq_false _ | rfl))) | (apply P_sadd; (focus rfl); (focus rfl); (focus omega)) | (apply P_max; (focus rfl); (focus rfl)) | (apply P_min; (focus rfl); (focus rfl)) | (apply P_idx1; (focus rfl); (focus rfl); (focus rfl); (focus rfl); (focus rfl); (focus omega)) | (apply P_nilCheck; (focus rfl)) | (apply P_conv; (focus rfl); (focus rfl); (focus rfl); (focus (first | assumption | exact wi64 (by omega) (by omega) | exact wu64 (by omega) (by omega) | exact wi32 (by omega) (by omega) | exact wu8 (by omega) (by omega) | rfl))) | (apply P_sindex0; (focus rfl); (focus rfl); (focus rfl); (focus omega)) | (apply P_sindexN; (focus rfl); (focus rfl); (focus rfl); (focus omega)) | (apply P_sindex; (focus rfl); (focus rfl); (focus rfl); (focus omega); (focus omega)) | (apply P_makeFunc; (focus (repeat constructor)); (focus (repeat constructor))) | (apply P_seq_t; (focus rfl); (focus rfl); (focus (first | assumption | rfl))) | (apply P_seq_f; (focus rfl); (focus rfl); (focus assumption)) | (apply P_sne_t; (focus rfl); (focus rfl); (focus assumption)) | (apply P_sne_f; (focus rfl); (focus rfl); (focus (first | assumption | rfl))) | (apply P_lslice; (focus rfl); (focus rfl); (focus rfl); (focus rfl); (focus rfl); (focus rfl); (focus omega); (focus omega); (focus omega)) | (apply P_lslice_hi; (focus rfl); (focus rfl); (focus rfl); (focus rfl); (focus rfl); (focus omega); (focus omega)) | (apply P_lslice_lo; (focus rfl); (focus rfl); (focus rfl); (focus rfl); (focus rfl); (focus omega); (focus omega)) | (apply P_sslice_lo; (focus rfl); (focus rfl); (focus rfl); (focus omega); (focus omega)) | (apply P_sslice_hi; (focus rfl); (focus rfl); (focus rfl); (focus omega); (focus omega)) | (apply P_sslice; (focus rfl); (focus rfl); (focus rfl); (focus rfl); (focus omega); (focus omega); (focus omega)) | (apply P_quo; (focus rfl); (focus rfl); (focus omega); (focus rfl)) | (apply P_rem; (focus rfl); (focus rfl); (focus omega); (focus rfl)) | (apply P_and; (focus rfl); (focus rfl); (focus (first | assumption | exact u8_and63 _ (by omega) (by omega) | exact u8_and31 _ (by omega) (by omega) | exact u8_and15 _ (by omega) (by omega) | exact u8_and7 _ (by omega) (by omega) | exact and192 (by omega) (by omega) | rfl))) | (apply P_or; (focus rfl); (focus rfl); (focus (first | assumption | exact i32_or6 _ _ (by omega) (by omega) (by omega) (by omega) (by omega) | rfl))) | (apply P_xor; (focus rfl); (focus rfl); (focus rfl)) | (apply P_shl_1; (focus rfl); (focus rfl); (focus rfl); (focus (first | assumption | exact wi64 (by omega) (by omega) | exact wu64 (by omega) (by omega) | exact wi32 (by omega) (by omega) | exact wu8 (by omega) (by omega) | rfl))) | (apply P_shl_2; (focus rfl); (focus rfl); (focus rfl); (focus (first | assumption | exact wi64 (by omega) (by omega) | exact wu64 (by omega) (by omega) | exact wi32 (by omega) (by omega) | exact wu8 (by omega) (by omega) | rfl))) | (apply P_shl_3; (focus rfl); (focus rfl); (focus rfl); (focus (first | assumption | exact wi64 (by omega) (by omega) | exact wu64 (by omega) (by omega) | exact wi32 (by omega) (by omega) | exact wu8 (by omega) (by omega) | rfl))) | (apply P_shl_4; (focus rfl); (focus rfl); (focus rfl); (focus (first | assumption | exact wi64 (by omega) (by omega) | exact wu64 (by omega) (by omega) | exact wi32 (by omega) (by omega) | exact wu8 (by omega) (by omega) | rfl))) | (apply P_shl_5; (focus rfl); (focus rfl); (focus rfl); (focus (first | assumption | exact wi64 (by omega) (by omega) | exact wu64 (by omega) (by omega) | exact wi32 (by omega) (by omega) | exact wu8 (by omega) (by omega) | rfl))) | (apply P_shl_6; (focus rfl); (focus rfl); (focus rfl); (focus (first | assumption | exact wi64 (by omega) (by omega) | exact wu64 (by omega) (by omega) | exact wi32 (by omega) (by omega) | exact wu8 (by omega) (by omega) | rfl))) | (apply P_shl_7; (focus rfl); (focus rfl); (focus rfl); (focus (first | assumption | exact wi64 (by omega) (by omega) | exact wu64 (by omega) (by omega) | exact wi32 (by omega) (by omega) | exact wu8 (by omega) (by omega) | rfl))) | (apply P_shl_8; (focus rfl); (focus rfl); (focus rfl); (focus (first | assumption | exact wi64 (by omega) (by omega) | exact wu64 (by omega) (by omega) | exact wi32 (by omega) (by omega) | exact wu8 (by omega) (by omega) | rfl))) | (apply P_shl_16; (focus rfl); (focus rfl); (focus rfl); (focus (first | assumption | exact wi64 (by omega) (by omega) | exact wu64 (by omega) (by omega) | exact wi32 (by omega) (by omega) | exact wu8 (by omega) (by omega) | rfl))) | (apply P_shl_24; (focus rfl); (focus rfl); (focus rfl); (focus (first | assumption | exact wi64 (by omega) (by omega) | exact wu64 (by omega) (by omega) | exact wi32 (by omega) (by omega) | exact wu8 (by omega) (by omega) | rfl))) | (apply P_shl_32; (focus rfl); (focus rfl); (focus rfl); (focus (first | assumption | exact wi64 (by omega) (by omega) | exact wu64 (by omega) (by omega) | exact wi32 (by omega) (by omega) | exact wu8 (by omega) (by omega) | rfl))) | (apply P_shl_40; (focus rfl); (focus rfl); (focus rfl); (focus (first | assumption | exact wi64 (by omega) (by omega) | exact wu64 (by omega) (by omega) | exact wi32 (by omega) (by omega) | exact wu8 (by omega) (by omega) | rfl))) | (apply P_shl_48; (focus rfl); (focus rfl); (focus rfl); (focus (first | assumption | exact wi64 (by omega) (by omega) | exact wu64 (by omega) (by omega) | exact wi32 (by omega) (by omega) | exact wu8 (by omega) (by omega) | rfl))) | (apply P_shl_56; (focus rfl); (focus rfl); (focus rfl); (focus (first | assumption | exact wi64 (by omega) (by omega) | exact wu64 (by omega) (by omega) | exact wi32 (by omega) (by omega) | exact wu8 (by omega) (by omega) | rfl))) | (apply P_shr_1; (focus rfl); (focus rfl); (focus rfl)) | (apply P_shr_2; (focus rfl); (focus rfl); (focus rfl)) | (apply P_shr_3; (focus rfl); (focus rfl); (focus rfl)) | (apply P_shr_4; (focus rfl); (focus rfl); (focus rfl)) | (apply P_shr_5; (focus rfl); (focus rfl); (focus rfl)) | (apply P_shr_6; (focus rfl); (focus rfl); (focus rfl)) | (apply P_shr_7; (focus rfl); (focus rfl); (focus rfl)) | (apply P_shr_8; (focus rfl); (focus rfl); (focus rfl)) | (apply P_shr_16; (focus rfl); (focus rfl); (focus rfl)) | (apply P_shr_24; (focus rfl); (focus rfl); (focus rfl)) | (apply P_shr_32; (focus rfl); (focus rfl); (focus rfl)) | (apply P_shr_40; (focus rfl); (focus rfl); (focus rfl)) | (apply P_shr_48; (focus rfl); (focus rfl); (focus rfl)) | (apply P_shr_56; (focus rfl); (focus rfl); (focus rfl)))); (focus rfl)))
      apply Lst_nil
      apply seqQ_n
      apply W_seq
      refine W_cut2 (α := Id × Nat) (fun y => [(1, .int .i64 (n : Int)), (2, .int .i64 (m : Int)), (10, .pointer (some ⟨pa, 0, none⟩)), (11, .pointer (some ⟨pb, 0, none⟩)), (13, .pointer (some ⟨y.2, 0, none⟩))]) (fun y Z => y.1 = (if n = 0 then (0, 0) else (T.flat.getD (n - 1) default).id) ∧ A.heap.size ≤ y.2 ∧ Below A.heap.size A Z ∧ Blk Z y.2 [.int .u64 (((1 + q : Nat) : Int)), .int .u64 1000, .int .u64 (y.1.1 : Int), .int .u64 (y.1.2 : Int), .int .u64 (((0, 0) : Id).1 : Int), .int .u64 (((0, 0) : Id).2 : Int)] 34) ?_ ?_
      · (refine Ga ?_)
        rw [hq]
        (apply Lst_call; (focus rfl); (focus rfl))
        refine (c_id (1 + q) 1000 A).mono ?_
        rintro v' A1 ⟨rfl, hb1'⟩
        unfold idv idcs
        obtain ⟨W1, hW1⟩ : ∃ W1, (A1.alloc (.cells [.int .u64 0, .int .u64 0, .int .u64 0, .int .u64 0, .int .u64 0, .int .u64 0].toArray 34)).putObj A1.heap.size (.cells [.int .u64 (((1 + q : Nat) : Int)), .int .u64 ((1000 : Nat) : Int), .int .u64 0, .int .u64 0, .int .u64 0, .int .u64 0].toArray 34) = W1 := ⟨_, rfl⟩
        have bW1 : Below A.heap.size A W1 := by rw [← hW1]; have := hb1'.size; exact Bel
        have kW1 : Blk W1 A1.heap.size [.int .u64 (((1 + q : Nat) : Int)), .int .u64 ((1000 : Nat) : Int), .int .u64 0, .int .u64 0, .int .u64 0, .int .u64 0] 34 := by rw [← hW1]; exact (by (repeat (first | assumption | (apply Blk.below (hb := hb1); rotate_left; (focus ((try simp only [Sx.sizes]); omega)); rotate_right) | (apply Blk.below (hb := hb2); rotate_left; (focus ((try simp only [Sx.sizes]); omega)); rotate_right) | (apply Blk.below (hb := hb3); rotate_left; (focus ((try simp only [Sx.sizes]); omega)); rotate_right) | (apply Blk.below (hb := hb4); rotate_left; (focus ((try simp only [Sx.sizes]); omega)); rotate_right) | (apply Blk.below (hb := hb5); rotate_left; (focus ((try simp only [Sx.sizes]); omega)); rotate_right) | (apply Blk.below (hb := hb6); rotate_left; (focus ((try simp only [Sx.sizes]); omega)); rotate_right) | (apply Blk.below (hb := hb7); rotate_left; (focus ((try simp only [Sx.sizes]); omega)); rotate_right) | (apply Blk.below (hb := hb8); rotate_left; (focus ((try simp only [Sx.sizes]); omega)); rotate_right) | (apply Blk.below (hb := hb9); rotate_left; (focus ((try simp only [Sx.sizes]); omega)); rotate_right) | exact Blk.newE (by first | rfl | ((try simp only [Sx.sizes]); first | done | omega)) _ _ | exact Blk.put_same (by (try simp only [Sx.sizes]); first | done | omega) _ _ | (apply Blk.put_ne; (focus omega)) | apply Blk.alloc | apply Blk.drew)); done)
        have hAB : A.heap.size ≤ A1.heap.size := hb1'.size
        have hSW := hT.sa.below bW1
        have lW1 := kW1.lt
        (refine Ga ?_)
        rw [hW1]
        clear hW1
        (apply Lst_call; (focus rfl); (focus rfl))
        refine (s_At ((n : Int) - 1) hSW).mono ?_
        rintro v B ⟨rfl, hbB⟩
        have kB := kW1.below hbB lW1
        have bB := bW1.trans (hbB.mono bW1.size)
        have lB := kB.lt
        have sB := hbB.size
        by_cases h0 : n = 0
        · rw [if_neg (show ¬ (0 ≤ (n : Int) - 1 ∧ (n : Int) - 1 < T.sz) by omega)]
          unfold ucs
          (refine Ga ?_)
          refine cutQ_n (α := Id × Nat) ((0, 0), A1.heap.size) ⟨(if_pos h0).symm, hAB, Bel, (by (repeat (first | assumption | (apply Blk.below (hb := hb1); rotate_left; (focus ((try simp only [Sx.sizes]); omega)); rotate_right) | (apply Blk.below (hb := hb2); rotate_left; (focus ((try simp only [Sx.sizes]); omega)); rotate_right) | (apply Blk.below (hb := hb3); rotate_left; (focus ((try simp only [Sx.sizes]); omega)); rotate_right) | (apply Blk.below (hb := hb4); rotate_left; (focus ((try simp only [Sx.sizes]); omega)); rotate_right) | (apply Blk.below (hb := hb5); rotate_left; (focus ((try simp only [Sx.sizes]); omega)); rotate_right) | (apply Blk.below (hb := hb6); rotate_left; (focus ((try simp only [Sx.sizes]); omega)); rotate_right) | (apply Blk.below (hb := hb7); rotate_left; (focus ((try simp only [Sx.sizes]); omega)); rotate_right) | (apply Blk.below (hb := hb8); rotate_left; (focus ((try simp only [Sx.sizes]); omega)); rotate_right) | (apply Blk.below (hb := hb9); rotate_left; (focus ((try simp only [Sx.sizes]); omega)); rotate_right) | exact Blk.newE (by first | rfl | ((try simp only [Sx.sizes]); first | done | omega)) _ _ | exact Blk.put_same (by (try simp only [Sx.sizes]); first | done | omega) _ _ | (apply Blk.put_ne; (focus omega)) | apply Blk.alloc | apply Blk.drew)); done)⟩ ⟨rfl, rfl, rfl, rfl, rfl, trivial⟩
        · rw [if_pos (show 0 ≤ (n : Int) - 1 ∧ (n : Int) - 1 < T.sz by omega), show ((n : Int) - 1).toNat = n - 1 by omega]
          obtain ⟨x, hx⟩ : ∃ x, T.flat.getD (n - 1) default = x := ⟨_, rfl⟩
          rw [hx]
          unfold ucs
          (refine Ga ?_)
          refine cutQ_n (α := Id × Nat) (x.id, A1.heap.size) ⟨by dsimp only; rw [if_neg h0], hAB, Bel, (by (repeat (first | assumption | (apply Blk.below (hb := hb1); rotate_left; (focus ((try simp only [Sx.sizes]); omega)); rotate_right) | (apply Blk.below (hb := hb2); rotate_left; (focus ((try simp only [Sx.sizes]); omega)); rotate_right) | (apply Blk.below (hb := hb3); rotate_left; (focus ((try simp only [Sx.sizes]); omega)); rotate_right) | (apply Blk.below (hb := hb4); rotate_left; (focus ((try simp only [Sx.sizes]); omega)); rotate_right) | (apply Blk.below (hb := hb5); rotate_left; (focus ((try simp only [Sx.sizes]); omega)); rotate_right) | (apply Blk.below (hb := hb6); rotate_left; (focus ((try simp only [Sx.sizes]); omega)); rotate_right) | (apply Blk.below (hb := hb7); rotate_left; (focus ((try simp only [Sx.sizes]); omega)); rotate_right) | (apply Blk.below (hb := hb8); rotate_left; (focus ((try simp only [Sx.sizes]); omega)); rotate_right) | (apply Blk.below (hb := hb9); rotate_left; (focus ((try simp only [Sx.sizes]); omega)); rotate_right) | exact Blk.newE (by first | rfl | ((try simp only [Sx.sizes]); first | done | omega)) _ _ | exact Blk.put_same (by (try simp only [Sx.sizes]); first | done | omega) _ _ | (apply Blk.put_ne; (focus omega)) | apply Blk.alloc | apply Blk.drew)); done)⟩ ⟨rfl, rfl, rfl, rfl, rfl, trivial⟩
      · rintro J ⟨l, B8⟩ Z ⟨hle, hAB, bZ, kZ⟩
        dsimp only at hle hAB kZ ⊢
        apply W_seq
        refine W_cutS (α := Id) (fun _ => [(1, .int .i64 (n : Int)), (2, .int .i64 (m : Int)), (10, .pointer (some ⟨pa, 0, none⟩)), (11, .pointer (some ⟨pb, 0, none⟩)), (13, .pointer (some ⟨B8, 0, none⟩))]) (fun r Z => r = (if n = T.sz then (0, 0) else (T.flat.getD n default).id) ∧ Below A.heap.size A Z ∧ Blk Z B8 [.int .u64 (((1 + q : Nat) : Int)), .int .u64 1000, .int .u64 (l.1 : Int), .int .u64 (l.2 : Int), .int .u64 (r.1 : Int), .int .u64 (r.2 : Int)] 34) ?_ ?_
        · have hSZ := hT.sa.below bZ
          have lZ := kZ.lt
          (refine Ga ?_)
          (apply Lst_call; (focus rfl); (focus rfl))
          refine (s_At (n : Int) hSZ).mono ?_
          rintro v B ⟨rfl, hbB⟩
          have kB := kZ.below hbB lZ
          have bB := bZ.trans (hbB.mono bZ.size)
          have lB := kB.lt
          have sB := hbB.size
          by_cases h0 : n = T.sz
          · rw [if_neg (show ¬ (0 ≤ (n : Int) ∧ (n : Int) < T.sz) by omega)]
            unfold ucs
            (refine Ga ?_)
            refine cutQ_n (α := Id) (0, 0) ⟨(if_pos h0).symm, Bel, (by (repeat (first | assumption | (apply Blk.below (hb := hb1); rotate_left; (focus ((try simp only [Sx.sizes]); omega)); rotate_right) | (apply Blk.below (hb := hb2); rotate_left; (focus ((try simp only [Sx.sizes]); omega)); rotate_right) | (apply Blk.below (hb := hb3); rotate_left; (focus ((try simp only [Sx.sizes]); omega)); rotate_right) | (apply Blk.below (hb := hb4); rotate_left; (focus ((try simp only [Sx.sizes]); omega)); rotate_right) | (apply Blk.below (hb := hb5); rotate_left; (focus ((try simp only [Sx.sizes]); omega)); rotate_right) | (apply Blk.below (hb := hb6); rotate_left; (focus ((try simp only [Sx.sizes]); omega)); rotate_right) | (apply Blk.below (hb := hb7); rotate_left; (focus ((try simp only [Sx.sizes]); omega)); rotate_right) | (apply Blk.below (hb := hb8); rotate_left; (focus ((try simp only [Sx.sizes]); omega)); rotate_right) | (apply Blk.below (hb := hb9); rotate_left; (focus ((try simp only [Sx.sizes]); omega)); rotate_right) | exact Blk.newE (by first | rfl | ((try simp only [Sx.sizes]); first | done | omega)) _ _ | exact Blk.put_same (by (try simp only [Sx.sizes]); first | done | omega) _ _ | (apply Blk.put_ne; (focus omega)) | apply Blk.alloc | apply Blk.drew)); done)⟩ ⟨rfl, rfl, rfl, rfl, rfl, trivial⟩
          · rw [if_pos (show 0 ≤ (n : Int) ∧ (n : Int) < T.sz by omega), Int.toNat_natCast]
            obtain ⟨x, hx⟩ : ∃ x, T.flat.getD n default = x := ⟨_, rfl⟩
            rw [hx]
            unfold ucs
            (refine Ga ?_)
            refine cutQ_n (α := Id) x.id ⟨by rw [if_neg h0], Bel, (by (repeat (first | assumption | (apply Blk.below (hb := hb1); rotate_left; (focus ((try simp only [Sx.sizes]); omega)); rotate_right) | (apply Blk.below (hb := hb2); rotate_left; (focus ((try simp only [Sx.sizes]); omega)); rotate_right) | (apply Blk.below (hb := hb3); rotate_left; (focus ((try simp only [Sx.sizes]); omega)); rotate_right) | (apply Blk.below (hb := hb4); rotate_left; (focus ((try simp only [Sx.sizes]); omega)); rotate_right) | (apply Blk.below (hb := hb5); rotate_left; (focus ((try simp only [Sx.sizes]); omega)); rotate_right) | (apply Blk.below (hb := hb6); rotate_left; (focus ((try simp only [Sx.sizes]); omega)); rotate_right) | (apply Blk.below (hb := hb7); rotate_left; (focus ((try simp only [Sx.sizes]); omega)); rotate_right) | (apply Blk.below (hb := hb8); rotate_left; (focus ((try simp only [Sx.sizes]); omega)); rotate_right) | (apply Blk.below (hb := hb9); rotate_left; (focus ((try simp only [Sx.sizes]); omega)); rotate_right) | exact Blk.newE (by first | rfl | ((try simp only [Sx.sizes]); first | done | omega)) _ _ | exact Blk.put_same (by (try simp only [Sx.sizes]); first | done | omega) _ _ | (apply Blk.put_ne; (focus omega)) | apply Blk.alloc | apply Blk.drew)); done)⟩ ⟨rfl, rfl, rfl, rfl, rfl, trivial⟩
        · clear kZ bZ
          rintro J r Z ⟨hre, bZ, kZ⟩
          have hTZ := hT.grown bZ
          obtain ⟨u, hue⟩ : ∃ u : Un, u = ⟨(1 + q, 1000), l, r⟩ := ⟨_, rfl⟩
          have kZ : Blk Z B8 (ucs u) 34 := by rw [hue]; exact kZ
          have hul : u.l = l := by rw [hue]
          have hur : u.r = r := by rw [hue]
          have hui : u.id = (1 + q, 1000) := by rw [hue]
          have hui1 : u.id.1 = 1 + q := by rw [hui]
          have hui2 : u.id.2 = 1000 := by rw [hui]
          have hna : ¬ Fa B8 := fun hf => by have := hT.sa.lt hf; omega
          have hnb : ¬ Fb B8 := fun hf => by have := hT.sb.lt hf; omega
          have hsite : Site T u (T.flat.take n) (T.flat.drop n) m := site_of hT0 hfit hnT (hul.trans hle) (hur.trans hre) (fun i _ hm => by
            have := hids _ hm
            rw [hui2] at this
            dsimp only at this
            omega) (by omega)
          have hAl : (T.flat.take n).length = n := by
            rw [List.length_take]
            exact Nat.min_eq_left hnT
          have hw2B : w2.heap.size ≤ B8 := Nat.le_trans hT.bel.size hAB
          clear hT hle hre hAB bZ hue
          generalize T.flat.take n = PA at *
          generalize T.flat.drop n = PB at *
          obtain ⟨⟨hgm, _, _⟩, _⟩ := site_run hsite m (Nat.le_refl _)
          have hmay0 : Fo.May T u := (site_run hsite 0 (Nat.zero_le _)).2 (by omega)
          have hfree : freeTo T u m = true := free_iff.2 fun i hi => hsite.free i hi
          have hok1 : runOk T u m = true := by
            unfold runOk
            have e1 : decide ((1 : Int) ≤ (m : Int)) = true := decide_eq_true (by omega)
            have e2 : decide ((m : Int) ≤ 9007199254740991 - (u.id.2 : Int) + 1) = true := decide_eq_true (by omega)
            rw [e1, e2, Int.toNat_natCast, hfree, hmay0.right, Fo.may_iff.2 hmay0]
            rfl
          have hrun1 : runR T u m = trun T u m := by
            unfold runR
            rw [hok1, if_pos rfl, Int.toNat_natCast]
            have := run_trun T u (m - 1) 0
            rw [trun_succ, trun_zero, nxs_zero] at this
            rw [this]
            congr 1
            omega
          have hszm : (trun T u m).sz = T.sz + m := by
            unfold Fo.sz
            obtain ⟨⟨_, _, hfl⟩, _⟩ := site_run hsite m (Nat.le_refl _)
            rw [hfl, hsite.flat]
            simp only [List.length_append, List.length_map, List.length_range]
            omega
          have hok0 : runOk T u 0 = false := by unfold runOk; simp
          have hokn : runOk T u (-1) = false := by unfold runOk; simp
          have hr0 : runR T u 0 = T := by unfold runR; rw [hok0]; rfl
          have hrn : runR T u (-1) = T := by unfold runR; rw [hokn]; rfl
          have hmu : u.id ∈ (trun T u m).ids := (site_pos hsite (i := 0) (by omega)).1
          have hok2 : runOk (trun T u m) u 1 = false := by
            have : Fo.may (trun T u m) u = false := by
              unfold Fo.may
              rw [decide_eq_true hmu]
              simp
            unfold runOk
            rw [this]
            simp
          have hr2 : runR (trun T u m) u 1 = trun T u m := by unfold runR; rw [hok2]; rfl
          have lZ := kZ.lt
          have kZ' := kZ
          unfold ucs at kZ'
          (refine Ga ?_)
          (apply Lst_call; (focus rfl); (focus rfl))
          refine (s_Len hTZ.sa).mono ?_
          rintro v A' ⟨rfl, rfl⟩
          have hn0 : hTZ = hTZ := rfl
          clear hn0
          (refine Ga ?_)
          obtain ⟨F0, hF0⟩ : ∃ F0, Fa = F0 := ⟨_, rfl⟩
          obtain ⟨W0, hW0⟩ : ∃ W0, Z = W0 := ⟨_, rfl⟩
          subst hF0 hW0
          have T0 := hTZ
          have k0 := kZ
          have k0' := kZ'
          have l0 := lZ
          have n0 := hna
          clear hTZ kZ kZ' lZ hna
          (apply Lst_call; (focus rfl); (focus rfl))
          refine (c_Run u (0) pa Fa _ Z (by omega) (by omega) T0.sa).mono ?_
          rintro v W1 ⟨rfl, F1, hSx, hTx⟩
          rw [hr0] at hSx
          rw [hok0]
          have T1 := T0.a hSx hTx
          have k1 := hTx.blk k0 n0
          have n1 : ¬ F1 B8 := fun hf => n0 ((hTx.own _ k0.lt).1 hf)
          have l1 := k1.lt
          have k1' := k1
          unfold ucs at k1'
          clear hSx hTx T0 k0 k0' l0 n0
          (refine Ga ?_)
          (apply Lst_call; (focus rfl); (focus rfl))
          refine (c_Run u (-1) pa F1 _ W1 (by omega) (by omega) T1.sa).mono ?_
          rintro v W2 ⟨rfl, F2, hSx, hTx⟩
          rw [hrn] at hSx
          rw [hokn]
          have T2 := T1.a hSx hTx
          have k2 := hTx.blk k1 n1
          have n2 : ¬ F2 B8 := fun hf => n1 ((hTx.own _ k1.lt).1 hf)
          have l2 := k2.lt
          have k2' := k2
          unfold ucs at k2'
          clear hSx hTx T1 k1 k1' l1 n1
          (refine Ga ?_)
          (apply Lst_call; (focus rfl); (focus rfl))
          refine (s_Len T2.sa).mono ?_
          rintro v A' ⟨rfl, rfl⟩
          (refine Ga ?_)
          (apply Lst_call; (focus rfl); (focus rfl))
          refine (c_Run u (m) pa F2 _ W2 (by omega) (by omega) T2.sa).mono ?_
          rintro v W3 ⟨rfl, F3, hSx, hTx⟩
          rw [hrun1] at hSx
          rw [hok1]
          have T3 := T2.a hSx hTx
          have k3 := hTx.blk k2 n2
          have n3 : ¬ F3 B8 := fun hf => n2 ((hTx.own _ k2.lt).1 hf)
          have l3 := k3.lt
          have k3' := k3
          unfold ucs at k3'
          clear hSx hTx T2 k2 k2' l2 n2
          (refine Ga ?_)
          (apply Lst_call; (focus rfl); (focus rfl))
          refine (c_Run u (1) pa F3 _ W3 (by omega) (by omega) T3.sa).mono ?_
          rintro v W4 ⟨rfl, F4, hSx, hTx⟩
          rw [hr2] at hSx
          rw [hok2]
          have T4 := T3.a hSx hTx
          have k4 := hTx.blk k3 n3
          have n4 : ¬ F4 B8 := fun hf => n3 ((hTx.own _ k3.lt).1 hf)
          have l4 := k4.lt
          have k4' := k4
          unfold ucs at k4'
          clear hSx hTx T3 k3 k3' l3 n3
          (refine Ga ?_)
          refine W_cutB (α := (Nat → Prop) × (Nat → Prop)) (fun _ => [(1, .int .i64 (n : Int)), (10, .pointer (some ⟨pa, 0, none⟩)), (11, .pointer (some ⟨pb, 0, none⟩))]) (fun y A => Two w2 A pa y.1 (trun T u m) pb y.2 (trun T u m)) ?_ ?_
          · refine W_loop (α := Nat × (Nat → Prop) × (Nat → Prop)) (fun x => [(1, .int .i64 (n : Int)), (2, .int .i64 (m : Int)), (10, .pointer (some ⟨pa, 0, none⟩)), (11, .pointer (some ⟨pb, 0, none⟩)), (13, .pointer (some ⟨B8, 0, none⟩)), (19, .int .i64 (x.1 : Int))])
              (fun x A => x.1 ≤ m ∧ Two w2 A pa x.2.1 (trun T u m) pb x.2.2 (trun T u x.1) ∧ Blk A B8 (ucs (nxs u x.1)) 34 ∧ ¬ x.2.1 B8 ∧ ¬ x.2.2 B8) (fun x _ => m - x.1) (0, F4, Fb) ⟨Nat.zero_le _, T4, k4, n4, hnb⟩ ⟨rfl, rfl, rfl, rfl, rfl, rfl, trivial⟩ ?_
            clear T4 k4 k4' l4 n4 hnb
            rintro J ⟨i, Ga', Gb⟩ A ⟨hi, hTw, kU, hna, hnb⟩
            dsimp only at hi hTw kU hna hnb ⊢
            by_cases hil : i < m
            · have lU := kU.lt
              have hid2 : (nxs u i).id.2 = 1000 + i := by
                show u.id.2 + i = _
                omega
              have hidE : ((nxs u i).id.1, 1000 + i) = (nxs u i).id := Prod.ext rfl hid2.symm
              obtain ⟨hmem, hpos⟩ := site_pos hsite hil
              rw [hAl] at hpos
              have hmay := Fo.may_iff.2 ((site_run hsite i hi).2 hil)
              have hgi := (site_run hsite i hi).1.1
              have hszi : (trun T u i).sz ≤ 100 := by
                obtain ⟨⟨_, _, hfl⟩, _⟩ := site_run hsite i hi
                unfold Fo.sz
                rw [hfl]
                have := congrArg List.length hsite.flat
                simp only [List.length_append, List.length_map, List.length_range] at this ⊢
                have e : T.flat.length = T.sz := rfl
                omega
              have kU' := kU
              unfold ucs at kU'
              (refine Ga ?_)
              (apply Lst_call; (focus rfl); (focus rfl))
              refine (c_id (nxs u i).id.1 (1000 + i) A).mono ?_
              rintro v A1 ⟨rfl, hb1'⟩
              rw [hidE]
              have hT1 := hTw.grown hb1'
              have k1 := kU.below hb1' lU
              (refine Ga ?_)
              (apply Lst_call; (focus rfl); (focus rfl))
              refine (s_Find (nxs u i).id (by omega) hT1.sa).mono ?_
              rintro v A2 ⟨rfl, hS2, hTT2⟩
              rw [if_pos hmem, hpos]
              have hT2 := hT1.a hS2 hTT2
              have k2 := hTT2.blk k1 hna
              have l2 := k2.lt
              have hni : (n : Int) + (i : Int) = ((n + i : Nat) : Int) := rfl
              have k2' := k2
              unfold ucs at k2'
              (refine Ga ?_)
              (apply Lst_call; (focus rfl); (focus rfl))
              refine (c_Insert (nxs u i) pb Gb _ A2 (by omega) hT2.sb).mono ?_
              rintro v A3 ⟨rfl, Gb', hS3, hTT3⟩
              have hins : (Fo.insert (trun T u i) (nxs u i)).1 = trun T u (i + 1) := by
                unfold Fo.insert
                rw [hmay, trun_succ]
                rfl
              rw [hins] at hS3
              rw [hmay]
              have hT3 := hT2.b hS3 hTT3
              have k3 := hTT3.blk k2 hnb
              have hnb3 : ¬ Gb' B8 := fun hf => hnb ((hTT3.own _ l2).1 hf)
              have l3 := k3.lt
              have hid2' : (nxs u i).id.2 ≤ 2000 := by omega
              unfold ucs at k3
              (refine Ga ?_)
              refine rndQ_n (α := Nat × (Nat → Prop) × (Nat → Prop)) (i + 1, Ga', Gb') ⟨hil, (hT3.put hna hnb3 hw2B _).put hna hnb3 hw2B _, ?_, hna, hnb3⟩ ⟨rfl, rfl, rfl, rfl, rfl, ?_, trivial⟩ (by dsimp only; omega)
              · dsimp only
                rw [nxs_succ]
                exact (by (repeat (first | assumption | (apply Blk.below (hb := hb1); rotate_left; (focus ((try simp only [Sx.sizes]); omega)); rotate_right) | (apply Blk.below (hb := hb2); rotate_left; (focus ((try simp only [Sx.sizes]); omega)); rotate_right) | (apply Blk.below (hb := hb3); rotate_left; (focus ((try simp only [Sx.sizes]); omega)); rotate_right) | (apply Blk.below (hb := hb4); rotate_left; (focus ((try simp only [Sx.sizes]); omega)); rotate_right) | (apply Blk.below (hb := hb5); rotate_left; (focus ((try simp only [Sx.sizes]); omega)); rotate_right) | (apply Blk.below (hb := hb6); rotate_left; (focus ((try simp only [Sx.sizes]); omega)); rotate_right) | (apply Blk.below (hb := hb7); rotate_left; (focus ((try simp only [Sx.sizes]); omega)); rotate_right) | (apply Blk.below (hb := hb8); rotate_left; (focus ((try simp only [Sx.sizes]); omega)); rotate_right) | (apply Blk.below (hb := hb9); rotate_left; (focus ((try simp only [Sx.sizes]); omega)); rotate_right) | exact Blk.newE (by first | rfl | ((try simp only [Sx.sizes]); first | done | omega)) _ _ | exact Blk.put_same (by (try simp only [Sx.sizes]); first | done | omega) _ _ | (apply Blk.put_ne; (focus omega)) | apply Blk.alloc | apply Blk.drew)); done)
              · exact congrArg (Value.int .i64) (by dsimp only; omega)
            · obtain rfl : i = m := by omega
              (refine Ga ?_)
              exact cutQ_n (α := (Nat → Prop) × (Nat → Prop)) (Ga', Gb) hTw ⟨rfl, rfl, rfl, trivial⟩
          · rintro J ⟨Ga', Gb⟩ A hTw
            dsimp only at hTw ⊢
            obtain ⟨R, hR⟩ : ∃ R, trun T u m = R := ⟨_, rfl⟩
            have hmem : ∀ k ∈ R.ids, k.2 ≤ 2000 := fun k hk => by
              obtain ⟨⟨_, _, hfl⟩, _⟩ := site_run hsite m (Nat.le_refl _)
              rw [hR] at hfl
              unfold Fo.ids at hk
              rw [hfl] at hk
              obtain ⟨v, hv, rfl⟩ := List.mem_map.1 hk
              have hvt : v ∈ PA ++ PB → v.id.2 ≤ 2000 := fun hv => by
                have : v.id ∈ T.ids := by
                  unfold Fo.ids
                  rw [hsite.flat]
                  exact List.mem_map.2 ⟨v, hv, rfl⟩
                have := hids _ this
                omega
              rcases List.mem_append.1 hv with hv | hv
              · rcases List.mem_append.1 hv with hv | hv
                · exact hvt (List.mem_append_left _ hv)
                · obtain ⟨i, hi, rfl⟩ := List.mem_map.1 hv
                  rw [List.mem_range] at hi
                  show u.id.2 + i ≤ _
                  omega
              · exact hvt (List.mem_append_right _ hv)
            rw [hR] at hTw hgm hszm
            obtain ⟨hok, hsz2, hsub⟩ := top_ok hgm (fun h => by have := hmem _ h; dsimp only at this; omega) (fun h => by have := hmem _ h; dsimp only at this; omega)
            have hno := top_no R
            have hr3 : runR R topU 3 = R := by unfold runR; rw [hno]; rfl
            have hnm : topU.id ∉ R.ids := fun h => by have := hmem _ h; unfold topU at this; dsimp only at this; omega
            clear hsite hmay0 hfree hok1 hrun1 hok0 hokn hr0 hrn hmu hok2 hr2 hR
            (refine Ga ?_)
            (apply Lst_call; (focus rfl); (focus rfl))
            refine (c_id 5 9007199254740990 A).mono ?_
            rintro v A1 ⟨rfl, hb1'⟩
            unfold idv idcs
            obtain ⟨W1, hW1⟩ : ∃ W1, (A1.alloc (.cells [.int .u64 0, .int .u64 0, .int .u64 0, .int .u64 0, .int .u64 0, .int .u64 0].toArray 34)).putObj A1.heap.size (.cells [.int .u64 ((5 : Nat) : Int), .int .u64 ((9007199254740990 : Nat) : Int), .int .u64 0, .int .u64 0, .int .u64 0, .int .u64 0].toArray 34) = W1 := ⟨_, rfl⟩
            have bW1 : Below A.heap.size A W1 := by rw [← hW1]; have := hb1'.size; exact Bel
            have kW1 : Blk W1 A1.heap.size (ucs topU) 34 := by
              have kL : Blk W1 A1.heap.size [.int .u64 ((5 : Nat) : Int), .int .u64 ((9007199254740990 : Nat) : Int), .int .u64 0, .int .u64 0, .int .u64 0, .int .u64 0] 34 := by rw [← hW1]; exact (by (repeat (first | assumption | (apply Blk.below (hb := hb1); rotate_left; (focus ((try simp only [Sx.sizes]); omega)); rotate_right) | (apply Blk.below (hb := hb2); rotate_left; (focus ((try simp only [Sx.sizes]); omega)); rotate_right) | (apply Blk.below (hb := hb3); rotate_left; (focus ((try simp only [Sx.sizes]); omega)); rotate_right) | (apply Blk.below (hb := hb4); rotate_left; (focus ((try simp only [Sx.sizes]); omega)); rotate_right) | (apply Blk.below (hb := hb5); rotate_left; (focus ((try simp only [Sx.sizes]); omega)); rotate_right) | (apply Blk.below (hb := hb6); rotate_left; (focus ((try simp only [Sx.sizes]); omega)); rotate_right) | (apply Blk.below (hb := hb7); rotate_left; (focus ((try simp only [Sx.sizes]); omega)); rotate_right) | (apply Blk.below (hb := hb8); rotate_left; (focus ((try simp only [Sx.sizes]); omega)); rotate_right) | (apply Blk.below (hb := hb9); rotate_left; (focus ((try simp only [Sx.sizes]); omega)); rotate_right) | exact Blk.newE (by first | rfl | ((try simp only [Sx.sizes]); first | done | omega)) _ _ | exact Blk.put_same (by (try simp only [Sx.sizes]); first | done | omega) _ _ | (apply Blk.put_ne; (focus omega)) | apply Blk.alloc | apply Blk.drew)); done)
              exact kL
            have hAB : A.heap.size ≤ A1.heap.size := hb1'.size
            have hT1 := hTw.grown bW1
            have lW1 := kW1.lt
            have hna1 : ¬ Ga' A1.heap.size := fun hf => by have := hTw.sa.lt hf; omega
            (refine Ga ?_)
            rw [hW1]
            clear hW1
            generalize A1.heap.size = B9 at *
            have kW1' := kW1
            unfold ucs at kW1'
            (refine Ga ?_)
            (apply Lst_call; (focus rfl); (focus rfl))
            refine (c_Run topU 3 pa Ga' R W1 (by rw [hszm]; omega) (by omega) hT1.sa).mono ?_
            rintro v W2 ⟨rfl, Gc, hS2, hTT2⟩
            rw [hr3] at hS2
            rw [hno]
            have hT2 := hT1.a hS2 hTT2
            have k2 := hTT2.blk kW1 hna1
            have hn2 : ¬ Gc B9 := fun hf => hna1 ((hTT2.own _ lW1).1 hf)
            have l2 := k2.lt
            have k2' := k2
            unfold ucs at k2'
            (refine Ga ?_)
            (apply Lst_call; (focus rfl); (focus rfl))
            refine (s_Find topU.id (by omega) hT2.sa).mono ?_
            rintro v W3 ⟨rfl, hS3, hTT3⟩
            rw [if_neg hnm]
            have hT3 := hT2.a hS3 hTT3
            have k3 := hTT3.blk k2 hn2
            have l3 := k3.lt
            have k3' := k3
            unfold ucs at k3'
            (refine Ga ?_)
            (apply Lst_call; (focus rfl); (focus rfl))
            refine (c_Run topU 2 pa Gc R W3 (by rw [hszm]; omega) (by omega) hT3.sa).mono ?_
            rintro v W4 ⟨rfl, Gd, hS4, hTT4⟩
            rw [hok]
            have hT4 := hT3.a hS4 hTT4
            (refine Ga ?_)
            (apply Lst_call; (focus rfl); (focus rfl))
            refine (c_id 5 9007199254740992 W4).mono ?_
            rintro v W5 ⟨rfl, hb5⟩
            have hT5 := hT4.grown hb5
            (refine Ga ?_)
            (apply Lst_call; (focus rfl); (focus rfl))
            refine (r_Right (5, 9007199254740992) W5).mono ?_
            rintro v W6 ⟨rfl, hb6⟩
            have hT6 := hT5.grown hb6
            have hrf : Fo.rightId (5, 9007199254740992) = false := by decide
            rw [hrf]
            clear hT1 hT2 hT3 hT4 hT5 hTw
            generalize runR R topU 2 = Q at *
            (refine Ga ?_)
            refine W_cutB (α := (Nat → Prop) × (Nat → Prop)) (fun _ => [(10, .pointer (some ⟨pa, 0, none⟩)), (11, .pointer (some ⟨pb, 0, none⟩))]) (fun y A => Two w2 A pa y.1 Q pb y.2 R) ?_ ?_
            · refine W_loop (α := Nat × (Nat → Prop) × (Nat → Prop)) (fun x => [(10, .pointer (some ⟨pa, 0, none⟩)), (11, .pointer (some ⟨pb, 0, none⟩)), (21, .int .i64 (x.1 : Int))])
                (fun x A => x.1 ≤ R.sz ∧ Two w2 A pa x.2.1 Q pb x.2.2 R) (fun x _ => R.sz - x.1) (0, Gd, Gb) ⟨Nat.zero_le _, hT6⟩ ⟨rfl, rfl, rfl, trivial⟩ ?_
              clear hT6
              rintro J ⟨i, G1, G2⟩ B ⟨hi, hTB⟩
              dsimp only at hi hTB ⊢
              (refine Ga ?_)
              (apply Lst_call; (focus rfl); (focus rfl))
              refine (s_Len hTB.sb).mono ?_
              rintro v B' ⟨rfl, rfl⟩
              by_cases hil : i < R.sz
              · obtain ⟨q1, q2⟩ := Fo.pos_get hgm.nd hil
                (refine Ga ?_)
                (apply Lst_call; (focus rfl); (focus rfl))
                refine (s_At (i : Int) hTB.sb).mono ?_
                rintro v B1 ⟨rfl, hbB1⟩
                rw [if_pos (show 0 ≤ (i : Int) ∧ (i : Int) < R.sz by omega), Int.toNat_natCast]
                have hT1 := hTB.grown hbB1
                obtain ⟨x, hx⟩ : ∃ x, R.flat.getD i default = x := ⟨_, rfl⟩
                rw [hx] at q2 ⊢
                have hxQ := hsub _ q2
                unfold ucs
                obtain ⟨W7, hW7⟩ : ∃ W7, (B1.alloc (.cells [.int .u64 0, .int .u64 0, .int .u64 0, .int .u64 0, .int .u64 0, .int .u64 0].toArray 34)).putObj B1.heap.size (.cells (ucs x).toArray 34) = W7 := ⟨_, rfl⟩
                have bW7 : Below B1.heap.size B1 W7 := by rw [← hW7]; exact Bel
                have kW7 : Blk W7 B1.heap.size (ucs x) 34 := by rw [← hW7]; exact (by (repeat (first | assumption | (apply Blk.below (hb := hb1); rotate_left; (focus ((try simp only [Sx.sizes]); omega)); rotate_right) | (apply Blk.below (hb := hb2); rotate_left; (focus ((try simp only [Sx.sizes]); omega)); rotate_right) | (apply Blk.below (hb := hb3); rotate_left; (focus ((try simp only [Sx.sizes]); omega)); rotate_right) | (apply Blk.below (hb := hb4); rotate_left; (focus ((try simp only [Sx.sizes]); omega)); rotate_right) | (apply Blk.below (hb := hb5); rotate_left; (focus ((try simp only [Sx.sizes]); omega)); rotate_right) | (apply Blk.below (hb := hb6); rotate_left; (focus ((try simp only [Sx.sizes]); omega)); rotate_right) | (apply Blk.below (hb := hb7); rotate_left; (focus ((try simp only [Sx.sizes]); omega)); rotate_right) | (apply Blk.below (hb := hb8); rotate_left; (focus ((try simp only [Sx.sizes]); omega)); rotate_right) | (apply Blk.below (hb := hb9); rotate_left; (focus ((try simp only [Sx.sizes]); omega)); rotate_right) | exact Blk.newE (by first | rfl | ((try simp only [Sx.sizes]); first | done | omega)) _ _ | exact Blk.put_same (by (try simp only [Sx.sizes]); first | done | omega) _ _ | (apply Blk.put_ne; (focus omega)) | apply Blk.alloc | apply Blk.drew)); done)
                have hT7 := hT1.grown bW7
                have l7 := kW7.lt
                unfold ucs at hW7 kW7
                (refine Ga ?_)
                rw [hW7]
                (refine Ga ?_)
                (apply Lst_call; (focus rfl); (focus rfl))
                refine (s_Find x.id (by omega) hT7.sa).mono ?_
                rintro v B3 ⟨rfl, hS8, hTT8⟩
                rw [if_pos hxQ]
                have hT8 := hT7.a hS8 hTT8
                (refine Ga ?_)
                refine rndQ_n (α := Nat × (Nat → Prop) × (Nat → Prop)) (i + 1, G1, G2) ⟨hil, hT8⟩ ⟨rfl, rfl, ?_, trivial⟩ (by dsimp only; omega)
                exact congrArg (Value.int .i64) (by dsimp only; omega)
              · (refine Ga ?_)
                exact cutQ_n (α := (Nat → Prop) × (Nat → Prop)) (G1, G2) hTB ⟨rfl, rfl, trivial⟩
            · rintro J ⟨G1, G2⟩ B hTB
              dsimp only at hTB ⊢
              (refine Ga ?_)
              (apply Lst_call; (focus rfl); (focus rfl))
              refine (s_Len hTB.sa).mono ?_
              rintro v B' ⟨rfl, rfl⟩
              rw [hsz2]
              (refine Ga ?_)
              (apply Lst_call; (focus rfl); (focus rfl))
              refine (s_Len hTB.sb).mono ?_
              rintro v B' ⟨rfl, rfl⟩
              have he : ((R.sz + 2 : Nat) : Int) = (R.sz : Int) + 2 := rfl
              rw [he]
              (refine Ga ?_)
              (apply retQ1; (focus rfl))
              exact ⟨rfl, b2.trans (hTB.bel.mono b2.size)⟩
  · (refine Ga ?_)
    (apply retQ1; (focus rfl))
    exact ⟨rfl, hb1⟩
end Sq
end Go.Proofs.Ytmammcgdjjldbaa
