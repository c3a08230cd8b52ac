/- SeqNoMix' walk. -/
import Derived.Test.YtmammcgdjjldbaaSqMixW
namespace Go.Proofs.Ytmammcgdjjldbaa
set_option maxRecDepth 100000
namespace Sq
open Go Go.RowKit Sx Tl
def kk (back : Bool) (n i : Nat) : Nat := if back then n - 1 - i else i
/-- Where a writer's units stand. -/
theorem line {back : Bool} {n cl : Nat} {Q : Fo} {σ : Id → Rec} (hg : Fo.Good Q) (hF : Fo.Fits σ none Q) (hin : ∀ j, j < n → ((cl, j + 1) : Id) ∈ Q.ids) (hadj : ∀ j, j + 1 < n → Adj back σ (cl, j + 1) (cl, j + 2)) : ∀ i, i < n → ((cl, kk back n i + 1) : Id) ∈ Q.ids ∧ Q.pos (cl, kk back n i + 1) = Q.pos (cl, kk back n 0 + 1) + i
  | 0, h => ⟨hin _ (by unfold kk; split <;> omega), rfl⟩
  | i + 1, h => by
    obtain ⟨_, ih⟩ := line hg hF hin hadj i (by omega)
    refine ⟨hin _ (by unfold kk; split <;> omega), ?_⟩
    cases back with
    | false =>
      have e : ∀ q, kk false n q = q := fun q => rfl
      rw [e, e] at ih ⊢
      have := (adj_pos hg hF (hin i (by omega)) (hadj i h)).2
      rw [if_neg (by simp)] at this
      have e2 : i + 1 + 1 = i + 2 := rfl
      rw [e2]
      omega
    | true =>
      have e1 : kk true n (i + 1) = n - 1 - (i + 1) := rfl
      have e2 : kk true n i = n - 1 - i := rfl
      have hj : n - 1 - (i + 1) + 1 < n := by omega
      have := (adj_pos hg hF (hin (n - 1 - (i + 1)) (by omega)) (hadj (n - 1 - (i + 1)) hj)).2
      rw [if_pos rfl] at this
      rw [e2] at ih
      rw [e1]
      have e3 : n - 1 - (i + 1) + 2 = n - 1 - i + 1 := by omega
      rw [e3] at this
      omega
theorem getD_id {t : Fo} {n : Nat} (hg : Fo.Good t) (h : n < t.sz) : (t.flat.getD n default).id ∈ t.ids ∧ t.pos (t.flat.getD n default).id = n := ⟨(Fo.pos_get hg.nd h).2, (Fo.pos_get hg.nd h).1⟩
theorem wt_sz {back : Bool} {t : Fo} {cl : Nat} {l r : Id} (hW : WS t cl l r) : ∀ k, k ≤ 1000 → (wt back cl l r t k).sz = t.sz + k
  | 0, _ => rfl
  | k + 1, hk => by
    rw [wt_succ, Fo.put_sz (wi_all (back := back) hW k (by omega)).good.nd, wt_sz hW k (by omega)]
    omega
attribute [local irreducible] W Lst Qst Pu seqQ blkQ rndQ cutQ retQ Does Enters IntKind.wrap bits sb World.alloc World.putObj Blk
set_option maxHeartbeats 4000000 in
theorem law_SeqNoMix (zs : List Int) (a : Option Addr) (c : Nat) (hz : ∀ z ∈ zs, 0 ≤ z ∧ z < 65536) (y1 y2 y3 : Int) (back : Bool) (w : World) (h : Ints w .u16 (.slice a zs.length c) zs) :
    Does Try.prog 7 #[.slice a zs.length c, .int .i64 y1, .int .i64 y2, .int .i64 y3, .bool back] w fun v w' => v = .bool true ∧ Below w.heap.size w w' := by
  refine Does_of (args := [.slice a zs.length c, .int .i64 y1, .int .i64 y2, .int .i64 y3, .bool back]) Try.func7 (by kernel_rfl) rfl rfl rfl rfl rfl ?_
  have hb0 : Below w.heap.size w (w.alloc (.cells [.bool back].toArray 4)) := Bel
  have kk0 : Blk (w.alloc (.cells [.bool back].toArray 4)) w.heap.size [.bool back] 4 := (by (repeat (first | assumption | (apply Blk.below (hb := hb1); rotate_left; (focus ((try simp only [Sx.sizes]); omega)); rotate_right) | (apply Blk.below (hb := hb2); rotate_left; (focus ((try simp only [Sx.sizes]); omega)); rotate_right) | (apply Blk.below (hb := hb3); rotate_left; (focus ((try simp only [Sx.sizes]); omega)); rotate_right) | (apply Blk.below (hb := hb4); rotate_left; (focus ((try simp only [Sx.sizes]); omega)); rotate_right) | (apply Blk.below (hb := hb5); rotate_left; (focus ((try simp only [Sx.sizes]); omega)); rotate_right) | (apply Blk.below (hb := hb6); rotate_left; (focus ((try simp only [Sx.sizes]); omega)); rotate_right) | (apply Blk.below (hb := hb7); rotate_left; (focus ((try simp only [Sx.sizes]); omega)); rotate_right) | (apply Blk.below (hb := hb8); rotate_left; (focus ((try simp only [Sx.sizes]); omega)); rotate_right) | (apply Blk.below (hb := hb9); rotate_left; (focus ((try simp only [Sx.sizes]); omega)); rotate_right) | exact Blk.newE (by first | rfl | ((try simp only [Sx.sizes]); first | done | omega)) _ _ | exact Blk.put_same (by (try simp only [Sx.sizes]); first | done | omega) _ _ | (apply Blk.put_ne; (focus omega)) | apply Blk.alloc | apply Blk.drew)); done)
  (refine Ga ?_)
  generalize w.alloc (.cells [.bool back].toArray 4) = w0 at *
  have lk0 := kk0.lt
  (apply Lst_call; (focus rfl); (focus rfl))
  refine (c_known w0).mono ?_
  rintro v w1 ⟨rfl, hb1⟩
  have kk1 := kk0.below hb1 lk0
  have b1 := hb0.trans (hb1.mono hb0.size)
  by_cases hl : zs.length ≤ 40
  · have h1 := (h.below hb0 (Nat.le_refl _)).below hb1 (Nat.le_refl _)
    have lk1 := kk1.lt
    (refine Ga ?_)
    (apply Lst_call; (focus rfl); (focus rfl))
    refine (c_grown zs a c hz (by omega) w1 h1).mono ?_
    rintro v w2 ⟨us, hO, hul, hok, hsm, hb2⟩
    have b2 := b1.trans (hb2.mono b1.size)
    have kk2 := kk1.below hb2 lk1
    have lk2 := kk2.lt
    obtain ⟨v1, v2, v3, rfl⟩ := own_slice hO
    have hrow := hO.rows
    obtain ⟨_, _, hform⟩ := own_form hO
    obtain ⟨hfe, _⟩ := hform
    injection hfe with e1 e2 e3
    subst e2
    (refine Ga ?_)
    (apply Lst_call; (focus rfl); (focus rfl))
    refine (c_New w2).mono ?_
    rintro v w3 ⟨p, F0, rfl, hS0, hlow0, hb3⟩
    obtain ⟨w4, hw4⟩ : ∃ w4, (w3.alloc (.cells [.pointer none].toArray 27)).putObj w3.heap.size (.cells [.pointer (some ⟨p, 0, none⟩)].toArray 27) = w4 := ⟨_, rfl⟩
    have hb4 : Below w3.heap.size w3 w4 := by rw [← hw4]; exact Bel
    have ks4 : Blk w4 w3.heap.size [.pointer (some ⟨p, 0, none⟩)] 27 := by rw [← hw4]; exact (by (repeat (first | assumption | (apply Blk.below (hb := hb1); rotate_left; (focus ((try simp only [Sx.sizes]); omega)); rotate_right) | (apply Blk.below (hb := hb2); rotate_left; (focus ((try simp only [Sx.sizes]); omega)); rotate_right) | (apply Blk.below (hb := hb3); rotate_left; (focus ((try simp only [Sx.sizes]); omega)); rotate_right) | (apply Blk.below (hb := hb4); rotate_left; (focus ((try simp only [Sx.sizes]); omega)); rotate_right) | (apply Blk.below (hb := hb5); rotate_left; (focus ((try simp only [Sx.sizes]); omega)); rotate_right) | (apply Blk.below (hb := hb6); rotate_left; (focus ((try simp only [Sx.sizes]); omega)); rotate_right) | (apply Blk.below (hb := hb7); rotate_left; (focus ((try simp only [Sx.sizes]); omega)); rotate_right) | (apply Blk.below (hb := hb8); rotate_left; (focus ((try simp only [Sx.sizes]); omega)); rotate_right) | (apply Blk.below (hb := hb9); rotate_left; (focus ((try simp only [Sx.sizes]); omega)); rotate_right) | exact Blk.newE (by first | rfl | ((try simp only [Sx.sizes]); first | done | omega)) _ _ | exact Blk.put_same (by (try simp only [Sx.sizes]); first | done | omega) _ _ | (apply Blk.put_ne; (focus omega)) | apply Blk.alloc | apply Blk.drew)); done)
    have hS4 := hS0.below hb4
    have b24 : Below w2.heap.size w2 w4 := hb3.trans (hb4.mono hb3.size)
    have hn4 : ¬ F0 w3.heap.size := fun hf => by have := hS0.lt hf; omega
    have s3 : w2.heap.size ≤ w3.heap.size := hb3.size
    (refine Ga ?_)
    rw [hw4]
    clear hw4 hS0 hb3 hb4
    generalize w3.heap.size = bs at *
    refine W_loop (α := Nat × (Nat → Prop)) (fun x => [(1, .int .i64 y1), (2, .int .i64 y2), (3, .int .i64 y3), (9, .pointer (some ⟨w.heap.size, 0, none⟩)), (11, .slice v1 us.length v3), (12, .pointer (some ⟨bs, 0, none⟩)), (13, .int .i64 (x.1 : Int))])
      (fun x A => x.1 ≤ us.length ∧ SqAt A p x.2 (Fo.putL .nil (us.take x.1)) ∧ (∀ g, x.2 g → w2.heap.size ≤ g) ∧ Below w2.heap.size w2 A ∧ Blk A bs [.pointer (some ⟨p, 0, none⟩)] 27 ∧ ¬ x.2 bs) (fun x _ => us.length - x.1) (0, F0) ⟨Nat.zero_le _, hS4, hlow0, b24, ks4, hn4⟩ ⟨rfl, rfl, rfl, rfl, rfl, rfl, rfl, trivial⟩ ?_
    clear hS4 hlow0 b24 ks4 hn4
    rintro J ⟨k, F⟩ A ⟨hk, hS, hlow, hbA, ks, hns⟩
    dsimp only at hk hS hlow hns ⊢
    have lks := ks.lt
    by_cases hkl : k < us.length
    · obtain ⟨g, off, rfl, hc⟩ := unit_at hrow hkl
      obtain ⟨hmay, hins⟩ := take_put hkl hok
      have hsz : (Fo.putL .nil (us.take k)).sz ≤ 60 := by
        have := Fo.putL_sz Fo.Good.nil (take_ok k hok)
        rw [nil_sz, List.length_take] at this
        omega
      (refine Ga ?_)
      refine W_draw 5 (Grown A) rfl (by kernel_rfl) (grown_start A) ?_
      (refine Qb ?_)
      apply Qst_pu
      · apply P_idxm (j := k)
        focus rfl
        focus rfl
        focus rfl
        focus rfl
        focus rfl
        focus exact hkl
      focus rfl
      (refine Qb ?_)
      apply Qst_loadS (cs := ucs us[k])
      focus rfl
      focus rfl
      focus rfl
      focus rfl
      focus rfl
      focus exact fun A9 hA9 => hc A9 (hbA.trans (hA9.mono hbA.size))
      focus rfl
      (refine Qb ?_)
      intro B hbB
      have hSB := hS.below hbB
      have bB := hbA.trans (hbB.mono hbA.size)
      (refine Ga ?_)
      (apply Lst_call; (focus rfl); (focus rfl))
      refine (c_Insert us[k] p F _ B (by omega) hSB).mono ?_
      rintro v D ⟨rfl, F', hSD, hT⟩
      rw [hins] at hSD
      have hlow' := hT.low hlow bB.size
      have ksB := ks.below hbB lks
      (refine Ga ?_)
      refine rndQ_n (α := Nat × (Nat → Prop)) (k + 1, F') ⟨hkl, hSD, hlow'.1, bB.trans hlow'.2, hT.blk ksB hns, fun hf => hns ((hT.own _ ksB.lt).1 hf)⟩ ⟨rfl, rfl, rfl, rfl, rfl, rfl, ?_, trivial⟩ (by dsimp only; omega)
      exact congrArg (Value.int .i64) (by dsimp only; omega)
    · obtain rfl : k = us.length := by omega
      rw [List.take_length] at hS
      have hT0 := hS.good
      have hfit := hS.fits
      have hsz : (Fo.putL .nil us).sz = us.length := by
        have := Fo.putL_sz Fo.Good.nil hok
        rw [nil_sz] at this
        omega
      have hids : ∀ k, k ∈ (Fo.putL .nil us).ids → k.1 ≤ 4 := fun k hk => by
        rcases (Fo.putL_ids Fo.Good.nil hok k).1 hk with h | ⟨u, hu, rfl⟩
        · cases h
        · exact (hsm u hu).2.1
      have bA : Below w.heap.size w A := b2.trans (hbA.mono b2.size)
      have kkA := kk2.below hbA lk2
      have hnk : ¬ F w.heap.size := fun hf => by have := hlow _ hf; omega
      generalize Fo.putL .nil us = T at *
      (refine Ga ?_)
      (apply Lst_call; (focus rfl); (focus rfl))
      refine (s_Len hS).mono ?_
      rintro v A' ⟨rfl, rfl⟩
      (refine Ga ?_)
      (apply Lst_call; (focus rfl); (focus rfl))
      refine (Wire.h_Place y1 ((T.sz : Int) + 1) A (by omega) (by omega)).mono ?_
      rintro v A' ⟨rfl, rfl⟩
      obtain ⟨n, hn⟩ : ∃ n : Nat, y1 % ((T.sz : Int) + 1) = (n : Int) := ⟨(y1 % ((T.sz : Int) + 1)).toNat, by have := Int.emod_nonneg y1 (show (T.sz : Int) + 1 ≠ 0 by omega); omega⟩
      have hnT : n ≤ T.sz := by have := Int.emod_lt_of_pos y1 (show 0 < (T.sz : Int) + 1 by omega); omega
      rw [hn]
      (refine Ga ?_)
      (apply Lst_call; (focus rfl); (focus rfl))
      refine (Wire.h_Place y2 9 A (by omega) (by omega)).mono ?_
      rintro v A' ⟨rfl, rfl⟩
      obtain ⟨n', hn'⟩ : ∃ m : Nat, y2 % 9 = (m : Int) := ⟨(y2 % 9).toNat, by omega⟩
      have hn9 : n' < 9 := by omega
      rw [hn']
      (refine Ga ?_)
      (apply Lst_call; (focus rfl); (focus rfl))
      refine (Wire.h_Place y3 9 A (by omega) (by omega)).mono ?_
      rintro v A' ⟨rfl, rfl⟩
      obtain ⟨m', hm'⟩ : ∃ m : Nat, y3 % 9 = (m : Int) := ⟨(y3 % 9).toNat, by omega⟩
      have hm9 : m' < 9 := by omega
      rw [hm']
      (first | (apply W_seq) | (apply W_region) | (apply W_block) | (apply W_skip) | (apply W_ret) | (apply W_exit) | (apply W_cond_t; (focus rfl)) | (apply W_cond_f; (focus rfl)) | (apply Lst_nil) | (apply seqQ_n) | (apply seqQ_r) | (apply seqQ_e) | (apply blkQ_n) | (apply blkQ_r) | (apply blkQ_e) | (apply blkQ_o; (focus rfl)) | (apply rndQ_r) | (apply rndQ_e) | (apply cutQ_r) | (apply cutQ_e) | (apply Lst_guard_t; (focus rfl); (focus rfl)) | (apply Lst_guard_f; (focus rfl); (focus rfl); (focus rfl); (focus rfl)) | (apply Lst_guard_u; (focus rfl); (focus rfl); (focus rfl)) | (apply Lst_rangeS; (focus rfl); (focus rfl); (focus ((try simp only [Sx.sizes]); first | done | rfl)); (focus rfl)) | (apply Lst_alloc; (focus rfl); (focus rfl); (focus rfl); (focus ((try simp only [Sx.sizes]); first | done | rfl)); (focus rfl)) | (apply Lst_box; (focus constructor); (focus rfl); (focus ((try simp only [Sx.sizes]); first | done | rfl)); (focus rfl)) | (apply Lst_load; (focus rfl); (focus rfl); (focus rfl); (focus ((repeat (first | assumption | (apply Blk.below (hb := hb1); rotate_left; (focus ((try simp only [Sx.sizes]); omega)); rotate_right) | (apply Blk.below (hb := hb2); rotate_left; (focus ((try simp only [Sx.sizes]); omega)); rotate_right) | (apply Blk.below (hb := hb3); rotate_left; (focus ((try simp only [Sx.sizes]); omega)); rotate_right) | (apply Blk.below (hb := hb4); rotate_left; (focus ((try simp only [Sx.sizes]); omega)); rotate_right) | (apply Blk.below (hb := hb5); rotate_left; (focus ((try simp only [Sx.sizes]); omega)); rotate_right) | (apply Blk.below (hb := hb6); rotate_left; (focus ((try simp only [Sx.sizes]); omega)); rotate_right) | (apply Blk.below (hb := hb7); rotate_left; (focus ((try simp only [Sx.sizes]); omega)); rotate_right) | (apply Blk.below (hb := hb8); rotate_left; (focus ((try simp only [Sx.sizes]); omega)); rotate_right) | (apply Blk.below (hb := hb9); rotate_left; (focus ((try simp only [Sx.sizes]); omega)); rotate_right) | exact Blk.newE (by first | rfl | ((try simp only [Sx.sizes]); first | done | omega)) _ _ | exact Blk.put_same (by (try simp only [Sx.sizes]); first | done | omega) _ _ | (apply Blk.put_ne; (focus omega)) | apply Blk.alloc | apply Blk.drew)); done)); (focus rfl); (focus rfl)) | (apply Lst_loadc; (focus rfl); (focus rfl); (focus rfl); (focus assumption); (focus rfl)) | (apply Lst_store; (focus rfl); (focus constructor); (focus rfl); (focus rfl); (focus rfl); (focus rfl); (focus ((repeat (first | assumption | (apply Blk.below (hb := hb1); rotate_left; (focus ((try simp only [Sx.sizes]); omega)); rotate_right) | (apply Blk.below (hb := hb2); rotate_left; (focus ((try simp only [Sx.sizes]); omega)); rotate_right) | (apply Blk.below (hb := hb3); rotate_left; (focus ((try simp only [Sx.sizes]); omega)); rotate_right) | (apply Blk.below (hb := hb4); rotate_left; (focus ((try simp only [Sx.sizes]); omega)); rotate_right) | (apply Blk.below (hb := hb5); rotate_left; (focus ((try simp only [Sx.sizes]); omega)); rotate_right) | (apply Blk.below (hb := hb6); rotate_left; (focus ((try simp only [Sx.sizes]); omega)); rotate_right) | (apply Blk.below (hb := hb7); rotate_left; (focus ((try simp only [Sx.sizes]); omega)); rotate_right) | (apply Blk.below (hb := hb8); rotate_left; (focus ((try simp only [Sx.sizes]); omega)); rotate_right) | (apply Blk.below (hb := hb9); rotate_left; (focus ((try simp only [Sx.sizes]); omega)); rotate_right) | exact Blk.newE (by first | rfl | ((try simp only [Sx.sizes]); first | done | omega)) _ _ | exact Blk.put_same (by (try simp only [Sx.sizes]); first | done | omega) _ _ | (apply Blk.put_ne; (focus omega)) | apply Blk.alloc | apply Blk.drew)); done)); (focus ((repeat constructor); done))) | (apply Lst_pu; (focus (first | (apply P_neg; (focus rfl); (focus (first | assumption | exact wi64 (by omega) (by omega) | exact wu64 (by omega) (by omega) | exact wi32 (by omega) (by omega) | exact wu8 (by omega) (by omega) | rfl))) | (apply P_move; (focus constructor)) | (apply P_assign; (focus constructor)) | (apply P_ar; (focus rfl); (focus rfl); (focus rfl); (focus (first | assumption | exact wi64 (by omega) (by omega) | exact wu64 (by omega) (by omega) | exact wi32 (by omega) (by omega) | exact wu8 (by omega) (by omega) | rfl))) | (apply P_ct; (focus rfl); (focus rfl); (focus rfl); (focus (dsimp only [cmpP]; first | done | omega))) | (apply P_cf; (focus rfl); (focus rfl); (focus rfl); (focus (dsimp only [cmpP]; first | done | omega))) | (apply P_pick_t; (focus rfl); (focus constructor)) | (apply P_pick_f; (focus rfl); (focus constructor)) | (apply P_extract; (focus rfl); (focus rfl)) | (apply P_not; (focus rfl); (focus rfl)) | (apply P_slen; (focus rfl); (focus rfl)) | (apply P_llen; (focus rfl); (focus rfl)) | (apply P_beq; (focus rfl); (focus rfl); (focus rfl); (focus (first | exact beq_self_eq_true _ | rfl))) | (apply P_bne; (focus rfl); (focus rfl); (focus rfl); (focus (first | exact bne_self_eq_false _ | rfl))) | (apply P_sadd; (focus rfl); (focus rfl); (focus omega)) | (apply P_max; (focus rfl); (focus rfl)) | (apply P_min; (focus rfl); (focus rfl)) | (apply P_idx1; (focus rfl); (focus rfl); (focus rfl); (focus rfl); (focus rfl); (focus omega)) | (apply P_nilCheck; (focus rfl)) | (apply P_conv; (focus rfl); (focus rfl); (focus rfl); (focus (first | assumption | exact wi64 (by omega) (by omega) | exact wu64 (by omega) (by omega) | exact wi32 (by omega) (by omega) | exact wu8 (by omega) (by omega) | rfl))) | (apply P_sindex0; (focus rfl); (focus rfl); (focus rfl); (focus omega)) | (apply P_sindexN; (focus rfl); (focus rfl); (focus rfl); (focus omega)) | (apply P_sindex; (focus rfl); (focus rfl); (focus rfl); (focus omega); (focus omega)) | (apply P_makeFunc; (focus (repeat constructor)); (focus (repeat constructor))) | (apply P_seq_t; (focus rfl); (focus rfl); (focus (first | assumption | rfl))) | (apply P_seq_f; (focus rfl); (focus rfl); (focus assumption)) | (apply P_sne_t; (focus rfl); (focus rfl); (focus assumption)) | (apply P_sne_f; (focus rfl); (focus rfl); (focus (first | assumption | rfl))) | (apply P_lslice; (focus rfl); (focus rfl); (focus rfl); (focus rfl); (focus rfl); (focus rfl); (focus omega); (focus omega); (focus omega)) | (apply P_lslice_hi; (focus rfl); (focus rfl); (focus rfl); (focus rfl); (focus rfl); (focus omega); (focus omega)) | (apply P_lslice_lo; (focus rfl); (focus rfl); (focus rfl); (focus rfl); (focus rfl); (focus omega); (focus omega)) | (apply P_sslice_lo; (focus rfl); (focus rfl); (focus rfl); (focus omega); (focus omega)) | (apply P_sslice_hi; (focus rfl); (focus rfl); (focus rfl); (focus omega); (focus omega)) | (apply P_sslice; (focus rfl); (focus rfl); (focus rfl); (focus rfl); (focus omega); (focus omega); (focus omega)) | (apply P_quo; (focus rfl); (focus rfl); (focus omega); (focus rfl)) | (apply P_rem; (focus rfl); (focus rfl); (focus omega); (focus rfl)) | (apply P_and; (focus rfl); (focus rfl); (focus (first | assumption | exact u8_and63 _ (by omega) (by omega) | exact u8_and31 _ (by omega) (by omega) | exact u8_and15 _ (by omega) (by omega) | exact u8_and7 _ (by omega) (by omega) | exact and192 (by omega) (by omega) | rfl))) | (apply P_or; (focus rfl); (focus rfl); (focus (first | assumption | exact i32_or6 _ _ (by omega) (by omega) (by omega) (by omega) (by omega) | rfl))) | (apply P_xor; (focus rfl); (focus rfl); (focus rfl)) | (apply P_shl_1; (focus rfl); (focus rfl); (focus rfl); (focus (first | assumption | exact wi64 (by omega) (by omega) | exact wu64 (by omega) (by omega) | exact wi32 (by omega) (by omega) | exact wu8 (by omega) (by omega) | rfl))) | (apply P_shl_2; (focus rfl); (focus rfl); (focus rfl); (focus (first | assumption | exact wi64 (by omega) (by omega) | exact wu64 (by omega) (by omega) | exact wi32 (by omega) (by omega) | exact wu8 (by omega) (by omega) | rfl))) | (apply P_shl_3; (focus rfl); (focus rfl); (focus rfl); (focus (first | assumption | exact wi64 (by omega) (by omega) | exact wu64 (by omega) (by omega) | exact wi32 (by omega) (by omega) | exact wu8 (by omega) (by omega) | rfl))) | (apply P_shl_4; (focus rfl); (focus rfl); (focus rfl); (focus (first | assumption | exact wi64 (by omega) (by omega) | exact wu64 (by omega) (by omega) | exact wi32 (by omega) (by omega) | exact wu8 (by omega) (by omega) | rfl))) | (apply P_shl_5; (focus rfl); (focus rfl); (focus rfl); (focus (first | assumption | exact wi64 (by omega) (by omega) | exact wu64 (by omega) (by omega) | exact wi32 (by omega) (by omega) | exact wu8 (by omega) (by omega) | rfl))) | (apply P_shl_6; (focus rfl); (focus rfl); (focus rfl); (focus (first | assumption | exact wi64 (by omega) (by omega) | exact wu64 (by omega) (by omega) | exact wi32 (by omega) (by omega) | exact wu8 (by omega) (by omega) | rfl))) | (apply P_shl_7; (focus rfl); (focus rfl); (focus rfl); (focus (first | assumption | exact wi64 (by omega) (by omega) | exact wu64 (by omega) (by omega) | exact wi32 (by omega) (by omega) | exact wu8 (by omega) (by omega) | rfl))) | (apply P_shl_8; (focus rfl); (focus rfl); (focus rfl); (focus (first | assumption | exact wi64 (by omega) (by omega) | exact wu64 (by omega) (by omega) | exact wi32 (by omega) (by omega) | exact wu8 (by omega) (by omega) | rfl))) | (apply P_shl_16; (focus rfl); (focus rfl); (focus rfl); (focus (first | assumption | exact wi64 (by omega) (by omega) | exact wu64 (by omega) (by omega) | exact wi32 (by omega) (by omega) | exact wu8 (by omega) (by omega) | rfl))) | (apply P_shl_24; (focus rfl); (focus rfl); (focus rfl); (focus (first | assumption | exact wi64 (by omega) (by omega) | exact wu64 (by omega) (by omega) | exact wi32 (by omega) (by omega) | exact wu8 (by omega) (by omega) | rfl))) | (apply P_shl_32; (focus rfl); (focus rfl); (focus rfl); (focus (first | assumption | exact wi64 (by omega) (by omega) | exact wu64 (by omega) (by omega) | exact wi32 (by omega) (by omega) | exact wu8 (by omega) (by omega) | rfl))) | (apply P_shl_40; (focus rfl); (focus rfl); (focus rfl); (focus (first | assumption | exact wi64 (by omega) (by omega) | exact wu64 (by omega) (by omega) | exact wi32 (by omega) (by omega) | exact wu8 (by omega) (by omega) | rfl))) | (apply P_shl_48; (focus rfl); (focus rfl); (focus rfl); (focus (first | assumption | exact wi64 (by omega) (by omega) | exact wu64 (by omega) (by omega) | exact wi32 (by omega) (by omega) | exact wu8 (by omega) (by omega) | rfl))) | (apply P_shl_56; (focus rfl); (focus rfl); (focus rfl); (focus (first | assumption | exact wi64 (by omega) (by omega) | exact wu64 (by omega) (by omega) | exact wi32 (by omega) (by omega) | exact wu8 (by omega) (by omega) | rfl))) | (apply P_shr_1; (focus rfl); (focus rfl); (focus rfl)) | (apply P_shr_2; (focus rfl); (focus rfl); (focus rfl)) | (apply P_shr_3; (focus rfl); (focus rfl); (focus rfl)) | (apply P_shr_4; (focus rfl); (focus rfl); (focus rfl)) | (apply P_shr_5; (focus rfl); (focus rfl); (focus rfl)) | (apply P_shr_6; (focus rfl); (focus rfl); (focus rfl)) | (apply P_shr_7; (focus rfl); (focus rfl); (focus rfl)) | (apply P_shr_8; (focus rfl); (focus rfl); (focus rfl)) | (apply P_shr_16; (focus rfl); (focus rfl); (focus rfl)) | (apply P_shr_24; (focus rfl); (focus rfl); (focus rfl)) | (apply P_shr_32; (focus rfl); (focus rfl); (focus rfl)) | (apply P_shr_40; (focus rfl); (focus rfl); (focus rfl)) | (apply P_shr_48; (focus rfl); (focus rfl); (focus rfl)) | (apply P_shr_56; (focus rfl); (focus rfl); (focus rfl)))); (focus rfl)))
      (first | (apply W_seq) | (apply W_region) | (apply W_block) | (apply W_skip) | (apply W_ret) | (apply W_exit) | (apply W_cond_t; (focus rfl)) | (apply W_cond_f; (focus rfl)) | (apply Lst_nil) | (apply seqQ_n) | (apply seqQ_r) | (apply seqQ_e) | (apply blkQ_n) | (apply blkQ_r) | (apply blkQ_e) | (apply blkQ_o; (focus rfl)) | (apply rndQ_r) | (apply rndQ_e) | (apply cutQ_r) | (apply cutQ_e) | (apply Lst_guard_t; (focus rfl); (focus rfl)) | (apply Lst_guard_f; (focus rfl); (focus rfl); (focus rfl); (focus rfl)) | (apply Lst_guard_u; (focus rfl); (focus rfl); (focus rfl)) | (apply Lst_rangeS; (focus rfl); (focus rfl); (focus ((try simp only [Sx.sizes]); first | done | rfl)); (focus rfl)) | (apply Lst_alloc; (focus rfl); (focus rfl); (focus rfl); (focus ((try simp only [Sx.sizes]); first | done | rfl)); (focus rfl)) | (apply Lst_box; (focus constructor); (focus rfl); (focus ((try simp only [Sx.sizes]); first | done | rfl)); (focus rfl)) | (apply Lst_load; (focus rfl); (focus rfl); (focus rfl); (focus ((repeat (first | assumption | (apply Blk.below (hb := hb1); rotate_left; (focus ((try simp only [Sx.sizes]); omega)); rotate_right) | (apply Blk.below (hb := hb2); rotate_left; (focus ((try simp only [Sx.sizes]); omega)); rotate_right) | (apply Blk.below (hb := hb3); rotate_left; (focus ((try simp only [Sx.sizes]); omega)); rotate_right) | (apply Blk.below (hb := hb4); rotate_left; (focus ((try simp only [Sx.sizes]); omega)); rotate_right) | (apply Blk.below (hb := hb5); rotate_left; (focus ((try simp only [Sx.sizes]); omega)); rotate_right) | (apply Blk.below (hb := hb6); rotate_left; (focus ((try simp only [Sx.sizes]); omega)); rotate_right) | (apply Blk.below (hb := hb7); rotate_left; (focus ((try simp only [Sx.sizes]); omega)); rotate_right) | (apply Blk.below (hb := hb8); rotate_left; (focus ((try simp only [Sx.sizes]); omega)); rotate_right) | (apply Blk.below (hb := hb9); rotate_left; (focus ((try simp only [Sx.sizes]); omega)); rotate_right) | exact Blk.newE (by first | rfl | ((try simp only [Sx.sizes]); first | done | omega)) _ _ | exact Blk.put_same (by (try simp only [Sx.sizes]); first | done | omega) _ _ | (apply Blk.put_ne; (focus omega)) | apply Blk.alloc | apply Blk.drew)); done)); (focus rfl); (focus rfl)) | (apply Lst_loadc; (focus rfl); (focus rfl); (focus rfl); (focus assumption); (focus rfl)) | (apply Lst_store; (focus rfl); (focus constructor); (focus rfl); (focus rfl); (focus rfl); (focus rfl); (focus ((repeat (first | assumption | (apply Blk.below (hb := hb1); rotate_left; (focus ((try simp only [Sx.sizes]); omega)); rotate_right) | (apply Blk.below (hb := hb2); rotate_left; (focus ((try simp only [Sx.sizes]); omega)); rotate_right) | (apply Blk.below (hb := hb3); rotate_left; (focus ((try simp only [Sx.sizes]); omega)); rotate_right) | (apply Blk.below (hb := hb4); rotate_left; (focus ((try simp only [Sx.sizes]); omega)); rotate_right) | (apply Blk.below (hb := hb5); rotate_left; (focus ((try simp only [Sx.sizes]); omega)); rotate_right) | (apply Blk.below (hb := hb6); rotate_left; (focus ((try simp only [Sx.sizes]); omega)); rotate_right) | (apply Blk.below (hb := hb7); rotate_left; (focus ((try simp only [Sx.sizes]); omega)); rotate_right) | (apply Blk.below (hb := hb8); rotate_left; (focus ((try simp only [Sx.sizes]); omega)); rotate_right) | (apply Blk.below (hb := hb9); rotate_left; (focus ((try simp only [Sx.sizes]); omega)); rotate_right) | exact Blk.newE (by first | rfl | ((try simp only [Sx.sizes]); first | done | omega)) _ _ | exact Blk.put_same (by (try simp only [Sx.sizes]); first | done | omega) _ _ | (apply Blk.put_ne; (focus omega)) | apply Blk.alloc | apply Blk.drew)); done)); (focus ((repeat constructor); done))) | (apply Lst_pu; (focus (first | (apply P_neg; (focus rfl); (focus (first | assumption | exact wi64 (by omega) (by omega) | exact wu64 (by omega) (by omega) | exact wi32 (by omega) (by omega) | exact wu8 (by omega) (by omega) | rfl))) | (apply P_move; (focus constructor)) | (apply P_assign; (focus constructor)) | (apply P_ar; (focus rfl); (focus rfl); (focus rfl); (focus (first | assumption | exact wi64 (by omega) (by omega) | exact wu64 (by omega) (by omega) | exact wi32 (by omega) (by omega) | exact wu8 (by omega) (by omega) | rfl))) | (apply P_ct; (focus rfl); (focus rfl); (focus rfl); (focus (dsimp only [cmpP]; first | done | omega))) | (apply P_cf; (focus rfl); (focus rfl); (focus rfl); (focus (dsimp only [cmpP]; first | done | omega))) | (apply P_pick_t; (focus rfl); (focus constructor)) | (apply P_pick_f; (focus rfl); (focus constructor)) | (apply P_extract; (focus rfl); (focus rfl)) | (apply P_not; (focus rfl); (focus rfl)) | (apply P_slen; (focus rfl); (focus rfl)) | (apply P_llen; (focus rfl); (focus rfl)) | (apply P_beq; (focus rfl); (focus rfl); (focus rfl); (focus (first | exact beq_self_eq_true _ | rfl))) | (apply P_bne; (focus rfl); (focus rfl); (focus rfl); (focus (first | exact bne_self_eq_false _ | rfl))) | (apply P_sadd; (focus rfl); (focus rfl); (focus omega)) | (apply P_max; (focus rfl); (focus rfl)) | (apply P_min; (focus rfl); (focus rfl)) | (apply P_idx1; (focus rfl); (focus rfl); (focus rfl); (focus rfl); (focus rfl); (focus omega)) | (apply P_nilCheck; (focus rfl)) | (apply P_conv; (focus rfl); (focus rfl); (focus rfl); (focus (first | assumption | exact wi64 (by omega) (by omega) | exact wu64 (by omega) (by omega) | exact wi32 (by omega) (by omega) | exact wu8 (by omega) (by omega) | rfl))) | (apply P_sindex0; (focus rfl); (focus rfl); (focus rfl); (focus omega)) | (apply P_sindexN; (focus rfl); (focus rfl); (focus rfl); (focus omega)) | (apply P_sindex; (focus rfl); (focus rfl); (focus rfl); (focus omega); (focus omega)) | (apply P_makeFunc; (focus (repeat constructor)); (focus (repeat constructor))) | (apply P_seq_t; (focus rfl); (focus rfl); (focus (first | assumption | rfl))) | (apply P_seq_f; (focus rfl); (focus rfl); (focus assumption)) | (apply P_sne_t; (focus rfl); (focus rfl); (focus assumption)) | (apply P_sne_f; (focus rfl); (focus rfl); (focus (first | assumption | rfl))) | (apply P_lslice; (focus rfl); (focus rfl); (focus rfl); (focus rfl); (focus rfl); (focus rfl); (focus omega); (focus omega); (focus omega)) | (apply P_lslice_hi; (focus rfl); (focus rfl); (focus rfl); (focus rfl); (focus rfl); (focus omega); (focus omega)) | (apply P_lslice_lo; (focus rfl); (focus rfl); (focus rfl); (focus rfl); (focus rfl); (focus omega); (focus omega)) | (apply P_sslice_lo; (focus rfl); (focus rfl); (focus rfl); (focus omega); (focus omega)) | (apply P_sslice_hi; (focus rfl); (focus rfl); (focus rfl); (focus omega); (focus omega)) | (apply P_sslice; (focus rfl); (focus rfl); (focus rfl); (focus rfl); (focus omega); (focus omega); (focus omega)) | (apply P_quo; (focus rfl); (focus rfl); (focus omega); (focus rfl)) | (apply P_rem; (focus rfl); (focus rfl); (focus omega); (focus rfl)) | (apply P_and; (focus rfl); (focus rfl); (focus (first | assumption | exact u8_and63 _ (by omega) (by omega) | exact u8_and31 _ (by omega) (by omega) | exact u8_and15 _ (by omega) (by omega) | exact u8_and7 _ (by omega) (by omega) | exact and192 (by omega) (by omega) | rfl))) | (apply P_or; (focus rfl); (focus rfl); (focus (first | assumption | exact i32_or6 _ _ (by omega) (by omega) (by omega) (by omega) (by omega) | rfl))) | (apply P_xor; (focus rfl); (focus rfl); (focus rfl)) | (apply P_shl_1; (focus rfl); (focus rfl); (focus rfl); (focus (first | assumption | exact wi64 (by omega) (by omega) | exact wu64 (by omega) (by omega) | exact wi32 (by omega) (by omega) | exact wu8 (by omega) (by omega) | rfl))) | (apply P_shl_2; (focus rfl); (focus rfl); (focus rfl); (focus (first | assumption | exact wi64 (by omega) (by omega) | exact wu64 (by omega) (by omega) | exact wi32 (by omega) (by omega) | exact wu8 (by omega) (by omega) | rfl))) | (apply P_shl_3; (focus rfl); (focus rfl); (focus rfl); (focus (first | assumption | exact wi64 (by omega) (by omega) | exact wu64 (by omega) (by omega) | exact wi32 (by omega) (by omega) | exact wu8 (by omega) (by omega) | rfl))) | (apply P_shl_4; (focus rfl); (focus rfl); (focus rfl); (focus (first | assumption | exact wi64 (by omega) (by omega) | exact wu64 (by omega) (by omega) | exact wi32 (by omega) (by omega) | exact wu8 (by omega) (by omega) | rfl))) | (apply P_shl_5; (focus rfl); (focus rfl); (focus rfl); (focus (first | assumption | exact wi64 (by omega) (by omega) | exact wu64 (by omega) (by omega) | exact wi32 (by omega) (by omega) | exact wu8 (by omega) (by omega) | rfl))) | (apply P_shl_6; (focus rfl); (focus rfl); (focus rfl); (focus (first | assumption | exact wi64 (by omega) (by omega) | exact wu64 (by omega) (by omega) | exact wi32 (by omega) (by omega) | exact wu8 (by omega) (by omega) | rfl))) | (apply P_shl_7; (focus rfl); (focus rfl); (focus rfl); (focus (first | assumption | exact wi64 (by omega) (by omega) | exact wu64 (by omega) (by omega) | exact wi32 (by omega) (by omega) | exact wu8 (by omega) (by omega) | rfl))) | (apply P_shl_8; (focus rfl); (focus rfl); (focus rfl); (focus (first | assumption | exact wi64 (by omega) (by omega) | exact wu64 (by omega) (by omega) | exact wi32 (by omega) (by omega) | exact wu8 (by omega) (by omega) | rfl))) | (apply P_shl_16; (focus rfl); (focus rfl); (focus rfl); (focus (first | assumption | exact wi64 (by omega) (by omega) | exact wu64 (by omega) (by omega) | exact wi32 (by omega) (by omega) | exact wu8 (by omega) (by omega) | rfl))) | (apply P_shl_24; (focus rfl); (focus rfl); (focus rfl); (focus (first | assumption | exact wi64 (by omega) (by omega) | exact wu64 (by omega) (by omega) | exact wi32 (by omega) (by omega) | exact wu8 (by omega) (by omega) | rfl))) | (apply P_shl_32; (focus rfl); (focus rfl); (focus rfl); (focus (first | assumption | exact wi64 (by omega) (by omega) | exact wu64 (by omega) (by omega) | exact wi32 (by omega) (by omega) | exact wu8 (by omega) (by omega) | rfl))) | (apply P_shl_40; (focus rfl); (focus rfl); (focus rfl); (focus (first | assumption | exact wi64 (by omega) (by omega) | exact wu64 (by omega) (by omega) | exact wi32 (by omega) (by omega) | exact wu8 (by omega) (by omega) | rfl))) | (apply P_shl_48; (focus rfl); (focus rfl); (focus rfl); (focus (first | assumption | exact wi64 (by omega) (by omega) | exact wu64 (by omega) (by omega) | exact wi32 (by omega) (by omega) | exact wu8 (by omega) (by omega) | rfl))) | (apply P_shl_56; (focus rfl); (focus rfl); (focus rfl); (focus (first | assumption | exact wi64 (by omega) (by omega) | exact wu64 (by omega) (by omega) | exact wi32 (by omega) (by omega) | exact wu8 (by omega) (by omega) | rfl))) | (apply P_shr_1; (focus rfl); (focus rfl); (focus rfl)) | (apply P_shr_2; (focus rfl); (focus rfl); (focus rfl)) | (apply P_shr_3; (focus rfl); (focus rfl); (focus rfl)) | (apply P_shr_4; (focus rfl); (focus rfl); (focus rfl)) | (apply P_shr_5; (focus rfl); (focus rfl); (focus rfl)) | (apply P_shr_6; (focus rfl); (focus rfl); (focus rfl)) | (apply P_shr_7; (focus rfl); (focus rfl); (focus rfl)) | (apply P_shr_8; (focus rfl); (focus rfl); (focus rfl)) | (apply P_shr_16; (focus rfl); (focus rfl); (focus rfl)) | (apply P_shr_24; (focus rfl); (focus rfl); (focus rfl)) | (apply P_shr_32; (focus rfl); (focus rfl); (focus rfl)) | (apply P_shr_40; (focus rfl); (focus rfl); (focus rfl)) | (apply P_shr_48; (focus rfl); (focus rfl); (focus rfl)) | (apply P_shr_56; (focus rfl); (focus rfl); (focus rfl)))); (focus rfl)))
      (first | (apply W_seq) | (apply W_region) | (apply W_block) | (apply W_skip) | (apply W_ret) | (apply W_exit) | (apply W_cond_t; (focus rfl)) | (apply W_cond_f; (focus rfl)) | (apply Lst_nil) | (apply seqQ_n) | (apply seqQ_r) | (apply seqQ_e) | (apply blkQ_n) | (apply blkQ_r) | (apply blkQ_e) | (apply blkQ_o; (focus rfl)) | (apply rndQ_r) | (apply rndQ_e) | (apply cutQ_r) | (apply cutQ_e) | (apply Lst_guard_t; (focus rfl); (focus rfl)) | (apply Lst_guard_f; (focus rfl); (focus rfl); (focus rfl); (focus rfl)) | (apply Lst_guard_u; (focus rfl); (focus rfl); (focus rfl)) | (apply Lst_rangeS; (focus rfl); (focus rfl); (focus ((try simp only [Sx.sizes]); first | done | rfl)); (focus rfl)) | (apply Lst_alloc; (focus rfl); (focus rfl); (focus rfl); (focus ((try simp only [Sx.sizes]); first | done | rfl)); (focus rfl)) | (apply Lst_box; (focus constructor); (focus rfl); (focus ((try simp only [Sx.sizes]); first | done | rfl)); (focus rfl)) | (apply Lst_load; (focus rfl); (focus rfl); (focus rfl); (focus ((repeat (first | assumption | (apply Blk.below (hb := hb1); rotate_left; (focus ((try simp only [Sx.sizes]); omega)); rotate_right) | (apply Blk.below (hb := hb2); rotate_left; (focus ((try simp only [Sx.sizes]); omega)); rotate_right) | (apply Blk.below (hb := hb3); rotate_left; (focus ((try simp only [Sx.sizes]); omega)); rotate_right) | (apply Blk.below (hb := hb4); rotate_left; (focus ((try simp only [Sx.sizes]); omega)); rotate_right) | (apply Blk.below (hb := hb5); rotate_left; (focus ((try simp only [Sx.sizes]); omega)); rotate_right) | (apply Blk.below (hb := hb6); rotate_left; (focus ((try simp only [Sx.sizes]); omega)); rotate_right) | (apply Blk.below (hb := hb7); rotate_left; (focus ((try simp only [Sx.sizes]); omega)); rotate_right) | (apply Blk.below (hb := hb8); rotate_left; (focus ((try simp only [Sx.sizes]); omega)); rotate_right) | (apply Blk.below (hb := hb9); rotate_left; (focus ((try simp only [Sx.sizes]); omega)); rotate_right) | exact Blk.newE (by first | rfl | ((try simp only [Sx.sizes]); first | done | omega)) _ _ | exact Blk.put_same (by (try simp only [Sx.sizes]); first | done | omega) _ _ | (apply Blk.put_ne; (focus omega)) | apply Blk.alloc | apply Blk.drew)); done)); (focus rfl); (focus rfl)) | (apply Lst_loadc; (focus rfl); (focus rfl); (focus rfl); (focus assumption); (focus rfl)) | (apply Lst_store; (focus rfl); (focus constructor); (focus rfl); (focus rfl); (focus rfl); (focus rfl); (focus ((repeat (first | assumption | (apply Blk.below (hb := hb1); rotate_left; (focus ((try simp only [Sx.sizes]); omega)); rotate_right) | (apply Blk.below (hb := hb2); rotate_left; (focus ((try simp only [Sx.sizes]); omega)); rotate_right) | (apply Blk.below (hb := hb3); rotate_left; (focus ((try simp only [Sx.sizes]); omega)); rotate_right) | (apply Blk.below (hb := hb4); rotate_left; (focus ((try simp only [Sx.sizes]); omega)); rotate_right) | (apply Blk.below (hb := hb5); rotate_left; (focus ((try simp only [Sx.sizes]); omega)); rotate_right) | (apply Blk.below (hb := hb6); rotate_left; (focus ((try simp only [Sx.sizes]); omega)); rotate_right) | (apply Blk.below (hb := hb7); rotate_left; (focus ((try simp only [Sx.sizes]); omega)); rotate_right) | (apply Blk.below (hb := hb8); rotate_left; (focus ((try simp only [Sx.sizes]); omega)); rotate_right) | (apply Blk.below (hb := hb9); rotate_left; (focus ((try simp only [Sx.sizes]); omega)); rotate_right) | exact Blk.newE (by first | rfl | ((try simp only [Sx.sizes]); first | done | omega)) _ _ | exact Blk.put_same (by (try simp only [Sx.sizes]); first | done | omega) _ _ | (apply Blk.put_ne; (focus omega)) | apply Blk.alloc | apply Blk.drew)); done)); (focus ((repeat constructor); done))) | (apply Lst_pu; (focus (first | (apply P_neg; (focus rfl); (focus (first | assumption | exact wi64 (by omega) (by omega) | exact wu64 (by omega) (by omega) | exact wi32 (by omega) (by omega) | exact wu8 (by omega) (by omega) | rfl))) | (apply P_move; (focus constructor)) | (apply P_assign; (focus constructor)) | (apply P_ar; (focus rfl); (focus rfl); (focus rfl); (focus (first | assumption | exact wi64 (by omega) (by omega) | exact wu64 (by omega) (by omega) | exact wi32 (by omega) (by omega) | exact wu8 (by omega) (by omega) | rfl))) | (apply P_ct; (focus rfl); (focus rfl); (focus rfl); (focus (dsimp only [cmpP]; first | done | omega))) | (apply P_cf; (focus rfl); (focus rfl); (focus rfl); (focus (dsimp only [cmpP]; first | done | omega))) | (apply P_pick_t; (focus rfl); (focus constructor)) | (apply P_pick_f; (focus rfl); (focus constructor)) | (apply P_extract; (focus rfl); (focus rfl)) | (apply P_not; (focus rfl); (focus rfl)) | (apply P_slen; (focus rfl); (focus rfl)) | (apply P_llen; (focus rfl); (focus rfl)) | (apply P_beq; (focus rfl); (focus rfl); (focus rfl); (focus (first | exact beq_self_eq_true _ | rfl))) | (apply P_bne; (focus rfl); (focus rfl); (focus rfl); (focus (first | exact bne_self_eq_false _ | rfl))) | (apply P_sadd; (focus rfl); (focus rfl); (focus omega)) | (apply P_max; (focus rfl); (focus rfl)) | (apply P_min; (focus rfl); (focus rfl)) | (apply P_idx1; (focus rfl); (focus rfl); (focus rfl); (focus rfl); (focus rfl); (focus omega)) | (apply P_nilCheck; (focus rfl)) | (apply P_conv; (focus rfl); (focus rfl); (focus rfl); (focus (first | assumption | exact wi64 (by omega) (by omega) | exact wu64 (by omega) (by omega) | exact wi32 (by omega) (by omega) | exact wu8 (by omega) (by omega) | rfl))) | (apply P_sindex0; (focus rfl); (focus rfl); (focus rfl); (focus omega)) | (apply P_sindexN; (focus rfl); (focus rfl); (focus rfl); (focus omega)) | (apply P_sindex; (focus rfl); (focus rfl); (focus rfl); (focus omega); (focus omega)) | (apply P_makeFunc; (focus (repeat constructor)); (focus (repeat constructor))) | (apply P_seq_t; (focus rfl); (focus rfl); (focus (first | assumption | rfl))) | (apply P_seq_f; (focus rfl); (focus rfl); (focus assumption)) | (apply P_sne_t; (focus rfl); (focus rfl); (focus assumption)) | (apply P_sne_f; (focus rfl); (focus rfl); (focus (first | assumption | rfl))) | (apply P_lslice; (focus rfl); (focus rfl); (focus rfl); (focus rfl); (focus rfl); (focus rfl); (focus omega); (focus omega); (focus omega)) | (apply P_lslice_hi; (focus rfl); (focus rfl); (focus rfl); (focus rfl); (focus rfl); (focus omega); (focus omega)) | (apply P_lslice_lo; (focus rfl); (focus rfl); (focus rfl); (focus rfl); (focus rfl); (focus omega); (focus omega)) | (apply P_sslice_lo; (focus rfl); (focus rfl); (focus rfl); (focus omega); (focus omega)) | (apply P_sslice_hi; (focus rfl); (focus rfl); (focus rfl); (focus omega); (focus omega)) | (apply P_sslice; (focus rfl); (focus rfl); (focus rfl); (focus rfl); (focus omega); (focus omega); (focus omega)) | (apply P_quo; (focus rfl); (focus rfl); (focus omega); (focus rfl)) | (apply P_rem; (focus rfl); (focus rfl); (focus omega); (focus rfl)) | (apply P_and; (focus rfl); (focus rfl); (focus (first | assumption | exact u8_and63 _ (by omega) (by omega) | exact u8_and31 _ (by omega) (by omega) | exact u8_and15 _ (by omega) (by omega) | exact u8_and7 _ (by omega) (by omega) | exact and192 (by omega) (by omega) | rfl))) | (apply P_or; (focus rfl); (focus rfl); (focus (first | assumption | exact i32_or6 _ _ (by omega) (by omega) (by omega) (by omega) (by omega) | rfl))) | (apply P_xor; (focus rfl); (focus rfl); (focus rfl)) | (apply P_shl_1; (focus rfl); (focus rfl); (focus rfl); (focus (first | assumption | exact wi64 (by omega) (by omega) | exact wu64 (by omega) (by omega) | exact wi32 (by omega) (by omega) | exact wu8 (by omega) (by omega) | rfl))) | (apply P_shl_2; (focus rfl); (focus rfl); (focus rfl); (focus (first | assumption | exact wi64 (by omega) (by omega) | exact wu64 (by omega) (by omega) | exact wi32 (by omega) (by omega) | exact wu8 (by omega) (by omega) | rfl))) | (apply P_shl_3; (focus rfl); (focus rfl); (focus rfl); (focus (first | assumption | exact wi64 (by omega) (by omega) | exact wu64 (by omega) (by omega) | exact wi32 (by omega) (by omega) | exact wu8 (by omega) (by omega) | rfl))) | (apply P_shl_4; (focus rfl); (focus rfl); (focus rfl); (focus (first | assumption | exact wi64 (by omega) (by omega) | exact wu64 (by omega) (by omega) | exact wi32 (by omega) (by omega) | exact wu8 (by omega) (by omega) | rfl))) | (apply P_shl_5; (focus rfl); (focus rfl); (focus rfl); (focus (first | assumption | exact wi64 (by omega) (by omega) | exact wu64 (by omega) (by omega) | exact wi32 (by omega) (by omega) | exact wu8 (by omega) (by omega) | rfl))) | (apply P_shl_6; (focus rfl); (focus rfl); (focus rfl); (focus (first | assumption | exact wi64 (by omega) (by omega) | exact wu64 (by omega) (by omega) | exact wi32 (by omega) (by omega) | exact wu8 (by omega) (by omega) | rfl))) | (apply P_shl_7; (focus rfl); (focus rfl); (focus rfl); (focus (first | assumption | exact wi64 (by omega) (by omega) | exact wu64 (by omega) (by omega) | exact wi32 (by omega) (by omega) | exact wu8 (by omega) (by omega) | rfl))) | (apply P_shl_8; (focus rfl); (focus rfl); (focus rfl); (focus (first | assumption | exact wi64 (by omega) (by omega) | exact wu64 (by omega) (by omega) | exact wi32 (by omega) (by omega) | exact wu8 (by omega) (by omega) | rfl))) | (apply P_shl_16; (focus rfl); (focus rfl); (focus rfl); (focus (first | assumption | exact wi64 (by omega) (by omega) | exact wu64 (by omega) (by omega) | exact wi32 (by omega) (by omega) | exact wu8 (by omega) (by omega) | rfl))) | (apply P_shl_24; (focus rfl); (focus rfl); (focus rfl); (focus (first | assumption | exact wi64 (by omega) (by omega) | exact wu64 (by omega) (by omega) | exact wi32 (by omega) (by omega) | exact wu8 (by omega) (by omega) | rfl))) | (apply P_shl_32; (focus rfl); (focus rfl); (focus rfl); (focus (first | assumption | exact wi64 (by omega) (by omega) | exact wu64 (by omega) (by omega) | exact wi32 (by omega) (by omega) | exact wu8 (by omega) (by omega) | rfl))) | (apply P_shl_40; (focus rfl); (focus rfl); (focus rfl); (focus (first | assumption | exact wi64 (by omega) (by omega) | exact wu64 (by omega) (by omega) | exact wi32 (by omega) (by omega) | exact wu8 (by omega) (by omega) | rfl))) | (apply P_shl_48; (focus rfl); (focus rfl); (focus rfl); (focus (first | assumption | exact wi64 (by omega) (by omega) | exact wu64 (by omega) (by omega) | exact wi32 (by omega) (by omega) | exact wu8 (by omega) (by omega) | rfl))) | (apply P_shl_56; (focus rfl); (focus rfl); (focus rfl); (focus (first | assumption | exact wi64 (by omega) (by omega) | exact wu64 (by omega) (by omega) | exact wi32 (by omega) (by omega) | exact wu8 (by omega) (by omega) | rfl))) | (apply P_shr_1; (focus rfl); (focus rfl); (focus rfl)) | (apply P_shr_2; (focus rfl); (focus rfl); (focus rfl)) | (apply P_shr_3; (focus rfl); (focus rfl); (focus rfl)) | (apply P_shr_4; (focus rfl); (focus rfl); (focus rfl)) | (apply P_shr_5; (focus rfl); (focus rfl); (focus rfl)) | (apply P_shr_6; (focus rfl); (focus rfl); (focus rfl)) | (apply P_shr_7; (focus rfl); (focus rfl); (focus rfl)) | (apply P_shr_8; (focus rfl); (focus rfl); (focus rfl)) | (apply P_shr_16; (focus rfl); (focus rfl); (focus rfl)) | (apply P_shr_24; (focus rfl); (focus rfl); (focus rfl)) | (apply P_shr_32; (focus rfl); (focus rfl); (focus rfl)) | (apply P_shr_40; (focus rfl); (focus rfl); (focus rfl)) | (apply P_shr_48; (focus rfl); (focus rfl); (focus rfl)) | (apply P_shr_56; (focus rfl); (focus rfl); (focus rfl)))); (focus rfl)))
      (first | (apply W_seq) | (apply W_region) | (apply W_block) | (apply W_skip) | (apply W_ret) | (apply W_exit) | (apply W_cond_t; (focus rfl)) | (apply W_cond_f; (focus rfl)) | (apply Lst_nil) | (apply seqQ_n) | (apply seqQ_r) | (apply seqQ_e) | (apply blkQ_n) | (apply blkQ_r) | (apply blkQ_e) | (apply blkQ_o; (focus rfl)) | (apply rndQ_r) | (apply rndQ_e) | (apply cutQ_r) | (apply cutQ_e) | (apply Lst_guard_t; (focus rfl); (focus rfl)) | (apply Lst_guard_f; (focus rfl); (focus rfl); (focus rfl); (focus rfl)) | (apply Lst_guard_u; (focus rfl); (focus rfl); (focus rfl)) | (apply Lst_rangeS; (focus rfl); (focus rfl); (focus ((try simp only [Sx.sizes]); first | done | rfl)); (focus rfl)) | (apply Lst_alloc; (focus rfl); (focus rfl); (focus rfl); (focus ((try simp only [Sx.sizes]); first | done | rfl)); (focus rfl)) | (apply Lst_box; (focus constructor); (focus rfl); (focus ((try simp only [Sx.sizes]); first | done | rfl)); (focus rfl)) | (apply Lst_load; (focus rfl); (focus rfl); (focus rfl); (focus ((repeat (first | assumption | (apply Blk.below (hb := hb1); rotate_left; (focus ((try simp only [Sx.sizes]); omega)); rotate_right) | (apply Blk.below (hb := hb2); rotate_left; (focus ((try simp only [Sx.sizes]); omega)); rotate_right) | (apply Blk.below (hb := hb3); rotate_left; (focus ((try simp only [Sx.sizes]); omega)); rotate_right) | (apply Blk.below (hb := hb4); rotate_left; (focus ((try simp only [Sx.sizes]); omega)); rotate_right) | (apply Blk.below (hb := hb5); rotate_left; (focus ((try simp only [Sx.sizes]); omega)); rotate_right) | (apply Blk.below (hb := hb6); rotate_left; (focus ((try simp only [Sx.sizes]); omega)); rotate_right) | (apply Blk.below (hb := hb7); rotate_left; (focus ((try simp only [Sx.sizes]); omega)); rotate_right) | (apply Blk.below (hb := hb8); rotate_left; (focus ((try simp only [Sx.sizes]); omega)); rotate_right) | (apply Blk.below (hb := hb9); rotate_left; (focus ((try simp only [Sx.sizes]); omega)); rotate_right) | exact Blk.newE (by first | rfl | ((try simp only [Sx.sizes]); first | done | omega)) _ _ | exact Blk.put_same (by (try simp only [Sx.sizes]); first | done | omega) _ _ | (apply Blk.put_ne; (focus omega)) | apply Blk.alloc | apply Blk.drew)); done)); (focus rfl); (focus rfl)) | (apply Lst_loadc; (focus rfl); (focus rfl); (focus rfl); (focus assumption); (focus rfl)) | (apply Lst_store; (focus rfl); (focus constructor); (focus rfl); (focus rfl); (focus rfl); (focus rfl); (focus ((repeat (first | assumption | (apply Blk.below (hb := hb1); rotate_left; (focus ((try simp only [Sx.sizes]); omega)); rotate_right) | (apply Blk.below (hb := hb2); rotate_left; (focus ((try simp only [Sx.sizes]); omega)); rotate_right) | (apply Blk.below (hb := hb3); rotate_left; (focus ((try simp only [Sx.sizes]); omega)); rotate_right) | (apply Blk.below (hb := hb4); rotate_left; (focus ((try simp only [Sx.sizes]); omega)); rotate_right) | (apply Blk.below (hb := hb5); rotate_left; (focus ((try simp only [Sx.sizes]); omega)); rotate_right) | (apply Blk.below (hb := hb6); rotate_left; (focus ((try simp only [Sx.sizes]); omega)); rotate_right) | (apply Blk.below (hb := hb7); rotate_left; (focus ((try simp only [Sx.sizes]); omega)); rotate_right) | (apply Blk.below (hb := hb8); rotate_left; (focus ((try simp only [Sx.sizes]); omega)); rotate_right) | (apply Blk.below (hb := hb9); rotate_left; (focus ((try simp only [Sx.sizes]); omega)); rotate_right) | exact Blk.newE (by first | rfl | ((try simp only [Sx.sizes]); first | done | omega)) _ _ | exact Blk.put_same (by (try simp only [Sx.sizes]); first | done | omega) _ _ | (apply Blk.put_ne; (focus omega)) | apply Blk.alloc | apply Blk.drew)); done)); (focus ((repeat constructor); done))) | (apply Lst_pu; (focus (first | (apply P_neg; (focus rfl); (focus (first | assumption | exact wi64 (by omega) (by omega) | exact wu64 (by omega) (by omega) | exact wi32 (by omega) (by omega) | exact wu8 (by omega) (by omega) | rfl))) | (apply P_move; (focus constructor)) | (apply P_assign; (focus constructor)) | (apply P_ar; (focus rfl); (focus rfl); (focus rfl); (focus (first | assumption | exact wi64 (by omega) (by omega) | exact wu64 (by omega) (by omega) | exact wi32 (by omega) (by omega) | exact wu8 (by omega) (by omega) | rfl))) | (apply P_ct; (focus rfl); (focus rfl); (focus rfl); (focus (dsimp only [cmpP]; first | done | omega))) | (apply P_cf; (focus rfl); (focus rfl); (focus rfl); (focus (dsimp only [cmpP]; first | done | omega))) | (apply P_pick_t; (focus rfl); (focus constructor)) | (apply P_pick_f; (focus rfl); (focus constructor)) | (apply P_extract; (focus rfl); (focus rfl)) | (apply P_not; (focus rfl); (focus rfl)) | (apply P_slen; (focus rfl); (focus rfl)) | (apply P_llen; (focus rfl); (focus rfl)) | (apply P_beq; (focus rfl); (focus rfl); (focus rfl); (focus (first | exact beq_self_eq_true _ | rfl))) | (apply P_bne; (focus rfl); (focus rfl); (focus rfl); (focus (first | exact bne_self_eq_false _ | rfl))) | (apply P_sadd; (focus rfl); (focus rfl); (focus omega)) | (apply P_max; (focus rfl); (focus rfl)) | (apply P_min; (focus rfl); (focus rfl)) | (apply P_idx1; (focus rfl); (focus rfl); (focus rfl); (focus rfl); (focus rfl); (focus omega)) | (apply P_nilCheck; (focus rfl)) | (apply P_conv; (focus rfl); (focus rfl); (focus rfl); (focus (first | assumption | exact wi64 (by omega) (by omega) | exact wu64 (by omega) (by omega) | exact wi32 (by omega) (by omega) | exact wu8 (by omega) (by omega) | rfl))) | (apply P_sindex0; (focus rfl); (focus rfl); (focus rfl); (focus omega)) | (apply P_sindexN; (focus rfl); (focus rfl); (focus rfl); (focus omega)) | (apply P_sindex; (focus rfl); (focus rfl); (focus rfl); (focus omega); (focus omega)) | (apply P_makeFunc; (focus (repeat constructor)); (focus (repeat constructor))) | (apply P_seq_t; (focus rfl); (focus rfl); (focus (first | assumption | rfl))) | (apply P_seq_f; (focus rfl); (focus rfl); (focus assumption)) | (apply P_sne_t; (focus rfl); (focus rfl); (focus assumption)) | (apply P_sne_f; (focus rfl); (focus rfl); (focus (first | assumption | rfl))) | (apply P_lslice; (focus rfl); (focus rfl); (focus rfl); (focus rfl); (focus rfl); (focus rfl); (focus omega); (focus omega); (focus omega)) | (apply P_lslice_hi; (focus rfl); (focus rfl); (focus rfl); (focus rfl); (focus rfl); (focus omega); (focus omega)) | (apply P_lslice_lo; (focus rfl); (focus rfl); (focus rfl); (focus rfl); (focus rfl); (focus omega); (focus omega)) | (apply P_sslice_lo; (focus rfl); (focus rfl); (focus rfl); (focus omega); (focus omega)) | (apply P_sslice_hi; (focus rfl); (focus rfl); (focus rfl); (focus omega); (focus omega)) | (apply P_sslice; (focus rfl); (focus rfl); (focus rfl); (focus rfl); (focus omega); (focus omega); (focus omega)) | (apply P_quo; (focus rfl); (focus rfl); (focus omega); (focus rfl)) | (apply P_rem; (focus rfl); (focus rfl); (focus omega); (focus rfl)) | (apply P_and; (focus rfl); (focus rfl); (focus (first | assumption | exact u8_and63 _ (by omega) (by omega) | exact u8_and31 _ (by omega) (by omega) | exact u8_and15 _ (by omega) (by omega) | exact u8_and7 _ (by omega) (by omega) | exact and192 (by omega) (by omega) | rfl))) | (apply P_or; (focus rfl); (focus rfl); (focus (first | assumption | exact i32_or6 _ _ (by omega) (by omega) (by omega) (by omega) (by omega) | rfl))) | (apply P_xor; (focus rfl); (focus rfl); (focus rfl)) | (apply P_shl_1; (focus rfl); (focus rfl); (focus rfl); (focus (first | assumption | exact wi64 (by omega) (by omega) | exact wu64 (by omega) (by omega) | exact wi32 (by omega) (by omega) | exact wu8 (by omega) (by omega) | rfl))) | (apply P_shl_2; (focus rfl); (focus rfl); (focus rfl); (focus (first | assumption | exact wi64 (by omega) (by omega) | exact wu64 (by omega) (by omega) | exact wi32 (by omega) (by omega) | exact wu8 (by omega) (by omega) | rfl))) | (apply P_shl_3; (focus rfl); (focus rfl); (focus rfl); (focus (first | assumption | exact wi64 (by omega) (by omega) | exact wu64 (by omega) (by omega) | exact wi32 (by omega) (by omega) | exact wu8 (by omega) (by omega) | rfl))) | (apply P_shl_4; (focus rfl); (focus rfl); (focus rfl); (focus (first | assumption | exact wi64 (by omega) (by omega) | exact wu64 (by omega) (by omega) | exact wi32 (by omega) (by omega) | exact wu8 (by omega) (by omega) | rfl))) | (apply P_shl_5; (focus rfl); (focus rfl); (focus rfl); (focus (first | assumption | exact wi64 (by omega) (by omega) | exact wu64 (by omega) (by omega) | exact wi32 (by omega) (by omega) | exact wu8 (by omega) (by omega) | rfl))) | (apply P_shl_6; (focus rfl); (focus rfl); (focus rfl); (focus (first | assumption | exact wi64 (by omega) (by omega) | exact wu64 (by omega) (by omega) | exact wi32 (by omega) (by omega) | exact wu8 (by omega) (by omega) | rfl))) | (apply P_shl_7; (focus rfl); (focus rfl); (focus rfl); (focus (first | assumption | exact wi64 (by omega) (by omega) | exact wu64 (by omega) (by omega) | exact wi32 (by omega) (by omega) | exact wu8 (by omega) (by omega) | rfl))) | (apply P_shl_8; (focus rfl); (focus rfl); (focus rfl); (focus (first | assumption | exact wi64 (by omega) (by omega) | exact wu64 (by omega) (by omega) | exact wi32 (by omega) (by omega) | exact wu8 (by omega) (by omega) | rfl))) | (apply P_shl_16; (focus rfl); (focus rfl); (focus rfl); (focus (first | assumption | exact wi64 (by omega) (by omega) | exact wu64 (by omega) (by omega) | exact wi32 (by omega) (by omega) | exact wu8 (by omega) (by omega) | rfl))) | (apply P_shl_24; (focus rfl); (focus rfl); (focus rfl); (focus (first | assumption | exact wi64 (by omega) (by omega) | exact wu64 (by omega) (by omega) | exact wi32 (by omega) (by omega) | exact wu8 (by omega) (by omega) | rfl))) | (apply P_shl_32; (focus rfl); (focus rfl); (focus rfl); (focus (first | assumption | exact wi64 (by omega) (by omega) | exact wu64 (by omega) (by omega) | exact wi32 (by omega) (by omega) | exact wu8 (by omega) (by omega) | rfl))) | (apply P_shl_40; (focus rfl); (focus rfl); (focus rfl); (focus (first | assumption | exact wi64 (by omega) (by omega) | exact wu64 (by omega) (by omega) | exact wi32 (by omega) (by omega) | exact wu8 (by omega) (by omega) | rfl))) | (apply P_shl_48; (focus rfl); (focus rfl); (focus rfl); (focus (first | assumption | exact wi64 (by omega) (by omega) | exact wu64 (by omega) (by omega) | exact wi32 (by omega) (by omega) | exact wu8 (by omega) (by omega) | rfl))) | (apply P_shl_56; (focus rfl); (focus rfl); (focus rfl); (focus (first | assumption | exact wi64 (by omega) (by omega) | exact wu64 (by omega) (by omega) | exact wi32 (by omega) (by omega) | exact wu8 (by omega) (by omega) | rfl))) | (apply P_shr_1; (focus rfl); (focus rfl); (focus rfl)) | (apply P_shr_2; (focus rfl); (focus rfl); (focus rfl)) | (apply P_shr_3; (focus rfl); (focus rfl); (focus rfl)) | (apply P_shr_4; (focus rfl); (focus rfl); (focus rfl)) | (apply P_shr_5; (focus rfl); (focus rfl); (focus rfl)) | (apply P_shr_6; (focus rfl); (focus rfl); (focus rfl)) | (apply P_shr_7; (focus rfl); (focus rfl); (focus rfl)) | (apply P_shr_8; (focus rfl); (focus rfl); (focus rfl)) | (apply P_shr_16; (focus rfl); (focus rfl); (focus rfl)) | (apply P_shr_24; (focus rfl); (focus rfl); (focus rfl)) | (apply P_shr_32; (focus rfl); (focus rfl); (focus rfl)) | (apply P_shr_40; (focus rfl); (focus rfl); (focus rfl)) | (apply P_shr_48; (focus rfl); (focus rfl); (focus rfl)) | (apply P_shr_56; (focus rfl); (focus rfl); (focus rfl)))); (focus rfl)))
      apply Lst_nil
      apply seqQ_n
      rw [show (1 : Int) + (n' : Int) = ((1 + n' : Nat) : Int) from rfl, show (1 : Int) + (m' : Int) = ((1 + m' : Nat) : Int) from rfl]
      obtain ⟨N1, hN1⟩ : ∃ N1, 1 + n' = N1 := ⟨_, rfl⟩
      obtain ⟨M1, hM1⟩ : ∃ M1, 1 + m' = M1 := ⟨_, rfl⟩
      rw [hN1, hM1]
      have lkA := kkA.lt
      apply W_seq
      refine W_cut2 (α := Id × Nat × Nat) (fun y => [(1, .int .i64 (n : Int)), (2, .int .i64 (N1 : Int)), (3, .int .i64 (M1 : Int)), (9, .pointer (some ⟨w.heap.size, 0, none⟩)), (12, .pointer (some ⟨bs, 0, none⟩)), (14, .pointer (some ⟨y.2.1, 0, none⟩)), (15, .pointer (some ⟨y.2.2, 0, none⟩))])
        (fun y Z => y.1 = (if n = 0 then (0, 0) else (T.flat.getD (n - 1) default).id) ∧ Below A.heap.size A Z ∧ A.heap.size ≤ y.2.1 ∧ A.heap.size ≤ y.2.2 ∧ y.2.1 ≠ y.2.2 ∧ Blk Z y.2.1 (idcs y.1) 32 ∧ Blk Z y.2.2 (idcs (0, 0)) 32) ?_ ?_
      · obtain ⟨W1, hW1⟩ : ∃ W1, (A.alloc (.cells [.int .u64 0, .int .u64 0].toArray 32)).alloc (.cells [.int .u64 0, .int .u64 0].toArray 32) = W1 := ⟨_, rfl⟩
        have bW1 : Below A.heap.size A W1 := by rw [← hW1]; exact Bel
        have k14 : Blk W1 A.heap.size [.int .u64 0, .int .u64 0] 32 := by rw [← hW1]; exact (by (repeat (first | assumption | (apply Blk.below (hb := hb1); rotate_left; (focus ((try simp only [Sx.sizes]); omega)); rotate_right) | (apply Blk.below (hb := hb2); rotate_left; (focus ((try simp only [Sx.sizes]); omega)); rotate_right) | (apply Blk.below (hb := hb3); rotate_left; (focus ((try simp only [Sx.sizes]); omega)); rotate_right) | (apply Blk.below (hb := hb4); rotate_left; (focus ((try simp only [Sx.sizes]); omega)); rotate_right) | (apply Blk.below (hb := hb5); rotate_left; (focus ((try simp only [Sx.sizes]); omega)); rotate_right) | (apply Blk.below (hb := hb6); rotate_left; (focus ((try simp only [Sx.sizes]); omega)); rotate_right) | (apply Blk.below (hb := hb7); rotate_left; (focus ((try simp only [Sx.sizes]); omega)); rotate_right) | (apply Blk.below (hb := hb8); rotate_left; (focus ((try simp only [Sx.sizes]); omega)); rotate_right) | (apply Blk.below (hb := hb9); rotate_left; (focus ((try simp only [Sx.sizes]); omega)); rotate_right) | exact Blk.newE (by first | rfl | ((try simp only [Sx.sizes]); first | done | omega)) _ _ | exact Blk.put_same (by (try simp only [Sx.sizes]); first | done | omega) _ _ | (apply Blk.put_ne; (focus omega)) | apply Blk.alloc | apply Blk.drew)); done)
        have k15 : Blk W1 (A.heap.size + 1) [.int .u64 0, .int .u64 0] 32 := by rw [← hW1]; exact (by (repeat (first | assumption | (apply Blk.below (hb := hb1); rotate_left; (focus ((try simp only [Sx.sizes]); omega)); rotate_right) | (apply Blk.below (hb := hb2); rotate_left; (focus ((try simp only [Sx.sizes]); omega)); rotate_right) | (apply Blk.below (hb := hb3); rotate_left; (focus ((try simp only [Sx.sizes]); omega)); rotate_right) | (apply Blk.below (hb := hb4); rotate_left; (focus ((try simp only [Sx.sizes]); omega)); rotate_right) | (apply Blk.below (hb := hb5); rotate_left; (focus ((try simp only [Sx.sizes]); omega)); rotate_right) | (apply Blk.below (hb := hb6); rotate_left; (focus ((try simp only [Sx.sizes]); omega)); rotate_right) | (apply Blk.below (hb := hb7); rotate_left; (focus ((try simp only [Sx.sizes]); omega)); rotate_right) | (apply Blk.below (hb := hb8); rotate_left; (focus ((try simp only [Sx.sizes]); omega)); rotate_right) | (apply Blk.below (hb := hb9); rotate_left; (focus ((try simp only [Sx.sizes]); omega)); rotate_right) | exact Blk.newE (by first | rfl | ((try simp only [Sx.sizes]); first | done | omega)) _ _ | exact Blk.put_same (by (try simp only [Sx.sizes]); first | done | omega) _ _ | (apply Blk.put_ne; (focus omega)) | apply Blk.alloc | apply Blk.drew)); done)
        have ksW := ks.below bW1 lks
        have hSW := hS.below bW1
        have l15 := k15.lt
        have lsW := ksW.lt
        (refine Ga ?_)
        rw [hW1]
        clear hW1
        (refine Ga ?_)
        (apply Lst_call; (focus rfl); (focus rfl))
        refine (s_At ((n : Int) - 1) hSW).mono ?_
        rintro v B ⟨rfl, hbB⟩
        have k14B := k14.below hbB (by omega)
        have k15B := k15.below hbB l15
        have l14B := k14B.lt
        have l15B := k15B.lt
        have bB := bW1.trans (hbB.mono bW1.size)
        have sB := hbB.size
        by_cases h0 : n = 0
        · rw [if_neg (show ¬ (0 ≤ (n : Int) - 1 ∧ (n : Int) - 1 < T.sz) by omega)]
          unfold ucs
          (refine Ga ?_)
          refine cutQ_n (α := Id × Nat × Nat) ((0, 0), A.heap.size, A.heap.size + 1) ⟨(if_pos h0).symm, Bel, by dsimp only; omega, by dsimp only; omega, by dsimp only; omega, ?_, ?_⟩ ⟨rfl, rfl, rfl, rfl, rfl, rfl, rfl, trivial⟩
          · dsimp only
            exact (by (repeat (first | assumption | (apply Blk.below (hb := hb1); rotate_left; (focus ((try simp only [Sx.sizes]); omega)); rotate_right) | (apply Blk.below (hb := hb2); rotate_left; (focus ((try simp only [Sx.sizes]); omega)); rotate_right) | (apply Blk.below (hb := hb3); rotate_left; (focus ((try simp only [Sx.sizes]); omega)); rotate_right) | (apply Blk.below (hb := hb4); rotate_left; (focus ((try simp only [Sx.sizes]); omega)); rotate_right) | (apply Blk.below (hb := hb5); rotate_left; (focus ((try simp only [Sx.sizes]); omega)); rotate_right) | (apply Blk.below (hb := hb6); rotate_left; (focus ((try simp only [Sx.sizes]); omega)); rotate_right) | (apply Blk.below (hb := hb7); rotate_left; (focus ((try simp only [Sx.sizes]); omega)); rotate_right) | (apply Blk.below (hb := hb8); rotate_left; (focus ((try simp only [Sx.sizes]); omega)); rotate_right) | (apply Blk.below (hb := hb9); rotate_left; (focus ((try simp only [Sx.sizes]); omega)); rotate_right) | exact Blk.newE (by first | rfl | ((try simp only [Sx.sizes]); first | done | omega)) _ _ | exact Blk.put_same (by (try simp only [Sx.sizes]); first | done | omega) _ _ | (apply Blk.put_ne; (focus omega)) | apply Blk.alloc | apply Blk.drew)); done)
          · dsimp only
            exact (by (repeat (first | assumption | (apply Blk.below (hb := hb1); rotate_left; (focus ((try simp only [Sx.sizes]); omega)); rotate_right) | (apply Blk.below (hb := hb2); rotate_left; (focus ((try simp only [Sx.sizes]); omega)); rotate_right) | (apply Blk.below (hb := hb3); rotate_left; (focus ((try simp only [Sx.sizes]); omega)); rotate_right) | (apply Blk.below (hb := hb4); rotate_left; (focus ((try simp only [Sx.sizes]); omega)); rotate_right) | (apply Blk.below (hb := hb5); rotate_left; (focus ((try simp only [Sx.sizes]); omega)); rotate_right) | (apply Blk.below (hb := hb6); rotate_left; (focus ((try simp only [Sx.sizes]); omega)); rotate_right) | (apply Blk.below (hb := hb7); rotate_left; (focus ((try simp only [Sx.sizes]); omega)); rotate_right) | (apply Blk.below (hb := hb8); rotate_left; (focus ((try simp only [Sx.sizes]); omega)); rotate_right) | (apply Blk.below (hb := hb9); rotate_left; (focus ((try simp only [Sx.sizes]); omega)); rotate_right) | exact Blk.newE (by first | rfl | ((try simp only [Sx.sizes]); first | done | omega)) _ _ | exact Blk.put_same (by (try simp only [Sx.sizes]); first | done | omega) _ _ | (apply Blk.put_ne; (focus omega)) | apply Blk.alloc | apply Blk.drew)); done)
        · rw [if_pos (show 0 ≤ (n : Int) - 1 ∧ (n : Int) - 1 < T.sz by omega), show ((n : Int) - 1).toNat = n - 1 by omega]
          obtain ⟨x, hx⟩ : ∃ x, T.flat.getD (n - 1) default = x := ⟨_, rfl⟩
          rw [hx]
          unfold ucs
          (refine Ga ?_)
          refine cutQ_n (α := Id × Nat × Nat) (x.id, A.heap.size, A.heap.size + 1) ⟨by dsimp only; rw [if_neg h0], Bel, by dsimp only; omega, by dsimp only; omega, by dsimp only; omega, ?_, ?_⟩ ⟨rfl, rfl, rfl, rfl, rfl, rfl, rfl, trivial⟩
          · dsimp only
            exact (by (repeat (first | assumption | (apply Blk.below (hb := hb1); rotate_left; (focus ((try simp only [Sx.sizes]); omega)); rotate_right) | (apply Blk.below (hb := hb2); rotate_left; (focus ((try simp only [Sx.sizes]); omega)); rotate_right) | (apply Blk.below (hb := hb3); rotate_left; (focus ((try simp only [Sx.sizes]); omega)); rotate_right) | (apply Blk.below (hb := hb4); rotate_left; (focus ((try simp only [Sx.sizes]); omega)); rotate_right) | (apply Blk.below (hb := hb5); rotate_left; (focus ((try simp only [Sx.sizes]); omega)); rotate_right) | (apply Blk.below (hb := hb6); rotate_left; (focus ((try simp only [Sx.sizes]); omega)); rotate_right) | (apply Blk.below (hb := hb7); rotate_left; (focus ((try simp only [Sx.sizes]); omega)); rotate_right) | (apply Blk.below (hb := hb8); rotate_left; (focus ((try simp only [Sx.sizes]); omega)); rotate_right) | (apply Blk.below (hb := hb9); rotate_left; (focus ((try simp only [Sx.sizes]); omega)); rotate_right) | exact Blk.newE (by first | rfl | ((try simp only [Sx.sizes]); first | done | omega)) _ _ | exact Blk.put_same (by (try simp only [Sx.sizes]); first | done | omega) _ _ | (apply Blk.put_ne; (focus omega)) | apply Blk.alloc | apply Blk.drew)); done)
          · dsimp only
            exact (by (repeat (first | assumption | (apply Blk.below (hb := hb1); rotate_left; (focus ((try simp only [Sx.sizes]); omega)); rotate_right) | (apply Blk.below (hb := hb2); rotate_left; (focus ((try simp only [Sx.sizes]); omega)); rotate_right) | (apply Blk.below (hb := hb3); rotate_left; (focus ((try simp only [Sx.sizes]); omega)); rotate_right) | (apply Blk.below (hb := hb4); rotate_left; (focus ((try simp only [Sx.sizes]); omega)); rotate_right) | (apply Blk.below (hb := hb5); rotate_left; (focus ((try simp only [Sx.sizes]); omega)); rotate_right) | (apply Blk.below (hb := hb6); rotate_left; (focus ((try simp only [Sx.sizes]); omega)); rotate_right) | (apply Blk.below (hb := hb7); rotate_left; (focus ((try simp only [Sx.sizes]); omega)); rotate_right) | (apply Blk.below (hb := hb8); rotate_left; (focus ((try simp only [Sx.sizes]); omega)); rotate_right) | (apply Blk.below (hb := hb9); rotate_left; (focus ((try simp only [Sx.sizes]); omega)); rotate_right) | exact Blk.newE (by first | rfl | ((try simp only [Sx.sizes]); first | done | omega)) _ _ | exact Blk.put_same (by (try simp only [Sx.sizes]); first | done | omega) _ _ | (apply Blk.put_ne; (focus omega)) | apply Blk.alloc | apply Blk.drew)); done)
      · rintro J ⟨l, b14, b15⟩ Z ⟨hle, bZ, h14, h15, hne, k14, k15⟩
        dsimp only at hle h14 h15 hne k14 k15 ⊢
        apply W_seq
        refine W_cutS (α := Id) (fun _ => [(2, .int .i64 (N1 : Int)), (3, .int .i64 (M1 : Int)), (9, .pointer (some ⟨w.heap.size, 0, none⟩)), (12, .pointer (some ⟨bs, 0, none⟩)), (14, .pointer (some ⟨b14, 0, none⟩)), (15, .pointer (some ⟨b15, 0, none⟩))])
          (fun r Z => r = (if n = T.sz then (0, 0) else (T.flat.getD n default).id) ∧ Below A.heap.size A Z ∧ Blk Z b14 (idcs l) 32 ∧ Blk Z b15 (idcs r) 32) ?_ ?_
        · have hSZ := hS.below bZ
          have ksZ := ks.below bZ lks
          have lsZ := ksZ.lt
          have l14 := k14.lt
          have l15 := k15.lt
          (refine Ga ?_)
          (apply Lst_call; (focus rfl); (focus rfl))
          refine (s_At (n : Int) hSZ).mono ?_
          rintro v B ⟨rfl, hbB⟩
          have k14B := k14.below hbB l14
          have k15B := k15.below hbB l15
          have l14B := k14B.lt
          have l15B := k15B.lt
          have bB := bZ.trans (hbB.mono bZ.size)
          have sB := hbB.size
          unfold idcs at k15B
          by_cases h0 : n = T.sz
          · rw [if_neg (show ¬ (0 ≤ (n : Int) ∧ (n : Int) < T.sz) by omega)]
            unfold ucs
            (refine Ga ?_)
            refine cutQ_n (α := Id) (0, 0) ⟨(if_pos h0).symm, Bel, (by (repeat (first | assumption | (apply Blk.below (hb := hb1); rotate_left; (focus ((try simp only [Sx.sizes]); omega)); rotate_right) | (apply Blk.below (hb := hb2); rotate_left; (focus ((try simp only [Sx.sizes]); omega)); rotate_right) | (apply Blk.below (hb := hb3); rotate_left; (focus ((try simp only [Sx.sizes]); omega)); rotate_right) | (apply Blk.below (hb := hb4); rotate_left; (focus ((try simp only [Sx.sizes]); omega)); rotate_right) | (apply Blk.below (hb := hb5); rotate_left; (focus ((try simp only [Sx.sizes]); omega)); rotate_right) | (apply Blk.below (hb := hb6); rotate_left; (focus ((try simp only [Sx.sizes]); omega)); rotate_right) | (apply Blk.below (hb := hb7); rotate_left; (focus ((try simp only [Sx.sizes]); omega)); rotate_right) | (apply Blk.below (hb := hb8); rotate_left; (focus ((try simp only [Sx.sizes]); omega)); rotate_right) | (apply Blk.below (hb := hb9); rotate_left; (focus ((try simp only [Sx.sizes]); omega)); rotate_right) | exact Blk.newE (by first | rfl | ((try simp only [Sx.sizes]); first | done | omega)) _ _ | exact Blk.put_same (by (try simp only [Sx.sizes]); first | done | omega) _ _ | (apply Blk.put_ne; (focus omega)) | apply Blk.alloc | apply Blk.drew)); done), (by (repeat (first | assumption | (apply Blk.below (hb := hb1); rotate_left; (focus ((try simp only [Sx.sizes]); omega)); rotate_right) | (apply Blk.below (hb := hb2); rotate_left; (focus ((try simp only [Sx.sizes]); omega)); rotate_right) | (apply Blk.below (hb := hb3); rotate_left; (focus ((try simp only [Sx.sizes]); omega)); rotate_right) | (apply Blk.below (hb := hb4); rotate_left; (focus ((try simp only [Sx.sizes]); omega)); rotate_right) | (apply Blk.below (hb := hb5); rotate_left; (focus ((try simp only [Sx.sizes]); omega)); rotate_right) | (apply Blk.below (hb := hb6); rotate_left; (focus ((try simp only [Sx.sizes]); omega)); rotate_right) | (apply Blk.below (hb := hb7); rotate_left; (focus ((try simp only [Sx.sizes]); omega)); rotate_right) | (apply Blk.below (hb := hb8); rotate_left; (focus ((try simp only [Sx.sizes]); omega)); rotate_right) | (apply Blk.below (hb := hb9); rotate_left; (focus ((try simp only [Sx.sizes]); omega)); rotate_right) | exact Blk.newE (by first | rfl | ((try simp only [Sx.sizes]); first | done | omega)) _ _ | exact Blk.put_same (by (try simp only [Sx.sizes]); first | done | omega) _ _ | (apply Blk.put_ne; (focus omega)) | apply Blk.alloc | apply Blk.drew)); done)⟩ ⟨rfl, rfl, rfl, rfl, rfl, rfl, trivial⟩
          · rw [if_pos (show 0 ≤ (n : Int) ∧ (n : Int) < T.sz by omega), Int.toNat_natCast]
            obtain ⟨x, hx⟩ : ∃ x, T.flat.getD n default = x := ⟨_, rfl⟩
            rw [hx]
            unfold ucs
            (refine Ga ?_)
            refine cutQ_n (α := Id) x.id ⟨by rw [if_neg h0], Bel, (by (repeat (first | assumption | (apply Blk.below (hb := hb1); rotate_left; (focus ((try simp only [Sx.sizes]); omega)); rotate_right) | (apply Blk.below (hb := hb2); rotate_left; (focus ((try simp only [Sx.sizes]); omega)); rotate_right) | (apply Blk.below (hb := hb3); rotate_left; (focus ((try simp only [Sx.sizes]); omega)); rotate_right) | (apply Blk.below (hb := hb4); rotate_left; (focus ((try simp only [Sx.sizes]); omega)); rotate_right) | (apply Blk.below (hb := hb5); rotate_left; (focus ((try simp only [Sx.sizes]); omega)); rotate_right) | (apply Blk.below (hb := hb6); rotate_left; (focus ((try simp only [Sx.sizes]); omega)); rotate_right) | (apply Blk.below (hb := hb7); rotate_left; (focus ((try simp only [Sx.sizes]); omega)); rotate_right) | (apply Blk.below (hb := hb8); rotate_left; (focus ((try simp only [Sx.sizes]); omega)); rotate_right) | (apply Blk.below (hb := hb9); rotate_left; (focus ((try simp only [Sx.sizes]); omega)); rotate_right) | exact Blk.newE (by first | rfl | ((try simp only [Sx.sizes]); first | done | omega)) _ _ | exact Blk.put_same (by (try simp only [Sx.sizes]); first | done | omega) _ _ | (apply Blk.put_ne; (focus omega)) | apply Blk.alloc | apply Blk.drew)); done), (by (repeat (first | assumption | (apply Blk.below (hb := hb1); rotate_left; (focus ((try simp only [Sx.sizes]); omega)); rotate_right) | (apply Blk.below (hb := hb2); rotate_left; (focus ((try simp only [Sx.sizes]); omega)); rotate_right) | (apply Blk.below (hb := hb3); rotate_left; (focus ((try simp only [Sx.sizes]); omega)); rotate_right) | (apply Blk.below (hb := hb4); rotate_left; (focus ((try simp only [Sx.sizes]); omega)); rotate_right) | (apply Blk.below (hb := hb5); rotate_left; (focus ((try simp only [Sx.sizes]); omega)); rotate_right) | (apply Blk.below (hb := hb6); rotate_left; (focus ((try simp only [Sx.sizes]); omega)); rotate_right) | (apply Blk.below (hb := hb7); rotate_left; (focus ((try simp only [Sx.sizes]); omega)); rotate_right) | (apply Blk.below (hb := hb8); rotate_left; (focus ((try simp only [Sx.sizes]); omega)); rotate_right) | (apply Blk.below (hb := hb9); rotate_left; (focus ((try simp only [Sx.sizes]); omega)); rotate_right) | exact Blk.newE (by first | rfl | ((try simp only [Sx.sizes]); first | done | omega)) _ _ | exact Blk.put_same (by (try simp only [Sx.sizes]); first | done | omega) _ _ | (apply Blk.put_ne; (focus omega)) | apply Blk.alloc | apply Blk.drew)); done)⟩ ⟨rfl, rfl, rfl, rfl, rfl, rfl, trivial⟩
        · clear k14 k15 bZ
          rintro J r Z ⟨hre, bZ, k14, k15⟩
          have hSZ := hS.below bZ
          have ksZ := ks.below bZ lks
          have kkZ := kkA.below bZ lkA
          have hLT : (l = Fo.none' ∧ n = 0) ∨ (0 < n ∧ l ∈ T.ids ∧ T.pos l + 1 = n) := by
            rw [hle]
            by_cases h0 : n = 0
            · exact .inl ⟨if_pos h0, h0⟩
            · rw [if_neg h0]
              obtain ⟨q1, q2⟩ := getD_id hT0 (n := n - 1) (by omega)
              exact .inr ⟨by omega, q1, by rw [q2]; omega⟩
          have hRT : (r = Fo.none' ∧ n = T.sz) ∨ (n < T.sz ∧ r ∈ T.ids ∧ T.pos r = n) := by
            rw [hre]
            by_cases h0 : n = T.sz
            · exact .inl ⟨if_pos h0, h0⟩
            · rw [if_neg h0]
              obtain ⟨q1, q2⟩ := getD_id hT0 (n := n) (by omega)
              exact .inr ⟨by omega, q1, q2⟩
          have hlr : l = Fo.none' ∨ r = Fo.none' ∨ T.pos l < T.pos r := by
            rcases hLT with q | q
            · exact .inl q.1
            · rcases hRT with q' | q'
              · exact .inr (.inl q'.1)
              · exact .inr (.inr (by omega))
          have hW1 : WS T 901 l r := ⟨hT0, hfit, hLT.imp (fun q => q.1) fun q => q.2.1, hRT.imp (fun q => q.1) fun q => q.2.1, hlr, by omega, fun j hj => by have := hids _ hj; dsimp only at this; omega⟩
          obtain ⟨T1, hT1⟩ : ∃ T1, wt back 901 l r T N1 = T1 := ⟨_, rfl⟩
          have wi1 := wi_all (back := back) hW1 N1 (by omega)
          have hz1 := wt_sz (back := back) hW1 N1 (by omega)
          rw [hT1] at wi1 hz1
          have hnone : Fo.none' ∉ T.ids := hT0.none
          have hW2 : WS T1 902 l r := by
            refine ⟨wi1.good, wi1.fits, hW1.wl.imp id fun q => (wi1.ids l).2 (.inl q), hW1.wr.imp id fun q => (wi1.ids r).2 (.inl q), ?_, by omega, fun j hj => ?_⟩
            · rcases hW1.wl with q1 | q1
              · exact .inl q1
              · rcases hW1.wr with q2 | q2
                · exact .inr (.inl q2)
                · rcases hlr with q | q | q
                  · exact .inl q
                  · exact .inr (.inl q)
                  · exact .inr (.inr (wi1.ord l r q1 q2 q))
            · rcases (wi1.ids _).1 hj with q | ⟨j', _, e⟩
              · have := hids _ q
                dsimp only at this
                omega
              · have := congrArg Prod.fst e
                dsimp only at this
                omega
          obtain ⟨Q, hQ⟩ : ∃ Q, wt back 902 l r T1 M1 = Q := ⟨_, rfl⟩
          have wi2 := wi_all (back := back) hW2 M1 (by omega)
          have hz2 := wt_sz (back := back) hW2 M1 (by omega)
          rw [hQ] at wi2 hz2
          obtain ⟨σ, hσ⟩ := wi2.fits
          obtain ⟨ρ1, hρ1⟩ := wi1.fits
          have line2 := line (back := back) (n := M1) (cl := 902) wi2.good hσ (fun j hj => (wi2.ids _).2 (.inr ⟨j, hj, rfl⟩)) (fun j hj => wi2.adj σ hσ j hj)
          have far1 : ∀ j, j < N1 → ((901, j + 1) : Id) ∈ T1.ids ∧ ((901, j + 1) : Id) ≠ l ∧ ((901, j + 1) : Id) ≠ r := fun j hj => by
            refine ⟨(wi1.ids _).2 (.inr ⟨j, hj, rfl⟩), fun e => ?_, fun e => ?_⟩
            · rcases hW1.wl with q | q
              · have := congrArg Prod.fst (e.trans q)
                dsimp only [Fo.none'] at this
                omega
              · have := hids _ q
                rw [← e] at this
                dsimp only at this
                omega
            · rcases hW1.wr with q | q
              · have := congrArg Prod.fst (e.trans q)
                dsimp only [Fo.none'] at this
                omega
              · have := hids _ q
                rw [← e] at this
                dsimp only at this
                omega
          have line1 := line (back := back) (n := N1) (cl := 901) wi2.good hσ (fun j hj => (wi2.ids _).2 (.inl (far1 j hj).1)) (fun j hj => by
            have h1 := wi1.adj ρ1 hρ1 j hj
            obtain ⟨i1, i2, i3⟩ := far1 j (by omega)
            obtain ⟨i4, i5, i6⟩ := far1 (j + 1) hj
            obtain ⟨q1, q2⟩ := wi2.link ρ1 σ hρ1 hσ _ i1 i2 i3
            obtain ⟨q3, q4⟩ := wi2.link ρ1 σ hρ1 hσ _ i4 i5 i6
            unfold Adj at h1 ⊢
            rw [q1, q2]
            have e : ((901, j + 2) : Id) = (901, j + 1 + 1) := rfl
            rw [e] at h1 ⊢
            rw [q3, q4]
            exact h1)
          have hn14 : ¬ F b14 := fun hf => by have := hS.lt hf; omega
          have hn15 : ¬ F b15 := fun hf => by have := hS.lt hf; omega
          have lsZ := ksZ.lt
          have lkZ := kkZ.lt
          (refine Ga ?_)
          (apply Lst_call; (focus rfl); (focus rfl))
          refine (c_write back 901 N1 b14 b15 bs w.heap.size p l r F T Z (by omega) (by omega) hW1 k14 k15 ksZ kkZ hns hnk hSZ).mono ?_
          rintro v W1 ⟨rfl, F1, hS1, hTT1⟩
          rw [hT1] at hS1
          have k14a := hTT1.blk k14 hn14
          have k15a := hTT1.blk k15 hn15
          have ksa := hTT1.blk ksZ hns
          have kka := hTT1.blk kkZ hnk
          have no1 : ∀ g, g < Z.heap.size → ¬ F g → ¬ F1 g := fun g hg hn hf => hn ((hTT1.own g hg).1 hf)
          have low1 := hTT1.low hlow (Nat.le_trans hbA.size bZ.size)
          (refine Ga ?_)
          (apply Lst_call; (focus rfl); (focus rfl))
          refine (c_write back 902 M1 b14 b15 bs w.heap.size p l r F1 T1 W1 (by omega) (by omega) hW2 k14a k15a ksa kka (no1 _ lsZ hns) (no1 _ lkZ hnk) hS1).mono ?_
          rintro v W2 ⟨rfl, F2, hS2, hTT2⟩
          rw [hQ] at hS2
          have ksb := hTT2.blk ksa (no1 _ lsZ hns)
          have kkb := hTT2.blk kka (no1 _ lkZ hnk)
          have no2s : ¬ F2 bs := fun hf => no1 _ lsZ hns ((hTT2.own _ ksa.lt).1 hf)
          have no2k : ¬ F2 w.heap.size := fun hf => no1 _ lkZ hnk ((hTT2.own _ kka.lt).1 hf)
          have low2 := hTT2.low low1.1 (Nat.le_trans (Nat.le_trans hbA.size bZ.size) hTT1.size)
          have bel2 : Below w2.heap.size w2 W2 := ((hbA.trans (bZ.mono hbA.size)).trans low1.2).trans low2.2
          have hzQ : Q.sz ≤ 100 := by omega
          clear k14 k15 k14a k15a ksa kka hS1 hTT1 hTT2 low1 no1 ksZ kkZ hSZ bZ hS hW1 hW2 wi1 wi2 hσ hρ1 far1 hlr hLT hRT hle hre
          have hslow := low2.1
          clear low2
          have lsb := ksb.lt
          have lkb := kkb.lt
          (refine Ga ?_)
          have hSW2 := hS2
          have ksW2 := ksb
          refine W_draws (fun V9 => SqAt V9 p F2 Q ∧ Turn F2 F2 W2 V9) rfl (by kernel_rfl) ⟨hSW2.below (Below.drew (Below.refl _ _)), .of (Below.drew (Below.refl _ _))⟩ ?_
          apply Qst_load (hb := fun A9 hA9 => hA9.2.blk ksW2 no2s)
          focus rfl
          focus rfl
          focus rfl
          focus rfl
          focus rfl
          (refine Qb ?_)
          apply Qst_call (idv (901, 0 + 1))
          focus rfl
          focus rfl
          focus exact fun A9 hA9 => (c_id 901 (0 + 1) A9).mono fun v w' h => ⟨h.1, hA9.1.below h.2, hA9.2.trans (.of h.2)⟩
          (refine Qb ?_)
          apply Qst_call (.int .i64 (if ((901, 0 + 1) : Id) ∈ Q.ids then (Q.pos (901, 0 + 1) : Int) else -1))
          focus rfl
          focus rfl
          focus exact fun A9 hA9 => (s_Find (901, 0 + 1) (by omega) hA9.1).mono fun v w' hv => ⟨hv.1, hv.2.1, hA9.2.trans hv.2.2⟩
          (refine Qb ?_)
          rintro W3 ⟨hS3, hT3⟩
          have lsw := hslow
          obtain ⟨fst0, hfst0⟩ : ∃ z, (if ((901, 0 + 1) : Id) ∈ Q.ids then (Q.pos (901, 0 + 1) : Int) else -1) = z := ⟨_, rfl⟩
          rw [hfst0]
          clear hfst0
          (refine Ga ?_)
          refine W_cutB (α := Int) (fun z => [(2, .int .i64 (N1 : Int)), (3, .int .i64 (M1 : Int)), (9, .pointer (some ⟨w.heap.size, 0, none⟩)), (12, .pointer (some ⟨bs, 0, none⟩)), (21, .int .i64 z)]) (fun _ X => SqAt X p F2 Q ∧ Turn F2 F2 W2 X) ?_ ?_
          · refine W_loop (α := Nat × Int) (fun x => [(2, .int .i64 (N1 : Int)), (3, .int .i64 (M1 : Int)), (9, .pointer (some ⟨w.heap.size, 0, none⟩)), (12, .pointer (some ⟨bs, 0, none⟩)), (21, .int .i64 x.2), (22, .int .i64 (x.1 : Int))])
              (fun x X => x.1 ≤ N1 ∧ (SqAt X p F2 Q ∧ Turn F2 F2 W2 X) ∧ (0 < x.1 → x.2 = (Q.pos (901, kk back N1 0 + 1) : Int))) (fun x _ => N1 - x.1) (0, fst0) ⟨Nat.zero_le _, ⟨hS3, hT3⟩, fun h => absurd h (Nat.lt_irrefl _)⟩ ⟨rfl, rfl, rfl, rfl, rfl, rfl, trivial⟩ ?_
            clear hS3 hT3
            rintro J ⟨i, z⟩ X ⟨hi, ⟨hSX, hTX⟩, hz0⟩
            dsimp only at hi hz0 ⊢
            have ksX := hTX.blk ksb no2s
            have kkX := hTX.blk kkb no2k
            have lsX := ksX.lt
            have lkX := kkX.lt
            by_cases hil : i < N1
            · obtain ⟨hmem, hpos⟩ := line1 i hil
              obtain ⟨K, hK⟩ : ∃ K, kk back N1 i = K := ⟨_, rfl⟩
              obtain ⟨P0, hP0⟩ : ∃ P0, Q.pos (901, kk back N1 0 + 1) = P0 := ⟨_, rfl⟩
              rw [hP0] at hpos hz0
              have hPb : P0 ≤ 100 := by
                have : Q.pos (901, K + 1) < Q.ids.length := List.idxOf_lt_length_iff.2 (hK ▸ hmem)
                rw [Fo.ids_len] at this
                rw [hK] at hpos
                omega
              rw [hK] at hmem hpos
              have hfv : (if ((901, K + 1) : Id) ∈ Q.ids then (Q.pos (901, K + 1) : Int) else -1) = (P0 : Int) + (i : Int) := by
                rw [if_pos hmem, hpos]
                rfl
              have hKb : K < N1 := by
                rw [← hK]
                unfold kk
                split <;> omega
              have hKe : ∀ {b}, back = b → (if b then (N1 : Int) - 1 - (i : Int) else (i : Int)) = (K : Int) := fun {b} e => by
                subst e
                rw [← hK]
                unfold kk
                cases back with
                | true =>
                  rw [if_pos rfl, if_pos rfl]
                  omega
                | false => rfl
              clear hK hmem hpos
              cases back with
              | true =>
                have hKk := hKe (b := true) rfl
                rw [if_pos rfl] at hKk
                by_cases h0 : i = 0
                · subst h0
                  (refine Ga ?_)
                  rw [hKk]
                  refine W_draws (fun V9 => SqAt V9 p F2 Q ∧ Turn F2 F2 X V9) rfl (by kernel_rfl) ⟨hSX.below (Below.drew (Below.refl _ _)), .of (Below.drew (Below.refl _ _))⟩ ?_
                  apply Qst_load (hb := fun A9 hA9 => hA9.2.blk ksX no2s)
                  focus rfl
                  focus rfl
                  focus rfl
                  focus rfl
                  focus rfl
                  (refine Qb ?_)
                  apply Qst_call (idv (901, K + 1))
                  focus rfl
                  focus rfl
                  focus exact fun A9 hA9 => (c_id 901 (K + 1) A9).mono fun v w' h => ⟨h.1, hA9.1.below h.2, hA9.2.trans (.of h.2)⟩
                  (refine Qb ?_)
                  apply Qst_call (.int .i64 ((P0 : Int) + ((0 : Nat) : Int)))
                  focus rfl
                  focus rfl
                  focus exact fun A9 hA9 => (s_Find (901, K + 1) (by omega) hA9.1).mono fun v w' hv => ⟨hv.1.trans (by rw [hfv]), hv.2.1, hA9.2.trans hv.2.2⟩
                  (refine Qb ?_)
                  rintro E ⟨hSE, hTE⟩
                  have hz9 : (P0 : Int) + ((0 : Nat) : Int) = (P0 : Int) := by omega
                  rw [hz9] at hfv ⊢
                  have hTWE := hTX.trans hTE
                  have ksE := hTWE.blk ksb no2s
                  have lsE := ksE.lt
                  (refine Ga ?_)
                  refine W_draws (fun V9 => SqAt V9 p F2 Q ∧ Turn F2 F2 E V9) rfl (by kernel_rfl) ⟨hSE.below (Below.drew (Below.refl _ _)), .of (Below.drew (Below.refl _ _))⟩ ?_
                  apply Qst_load (hb := fun A9 hA9 => hA9.2.blk ksE no2s)
                  focus rfl
                  focus rfl
                  focus rfl
                  focus rfl
                  focus rfl
                  (refine Qb ?_)
                  apply Qst_call (idv (901, K + 1))
                  focus rfl
                  focus rfl
                  focus exact fun A9 hA9 => (c_id 901 (K + 1) A9).mono fun v w' h => ⟨h.1, hA9.1.below h.2, hA9.2.trans (.of h.2)⟩
                  (refine Qb ?_)
                  apply Qst_call (.int .i64 ((P0 : Int)))
                  focus rfl
                  focus rfl
                  focus exact fun A9 hA9 => (s_Find (901, K + 1) (by omega) hA9.1).mono fun v w' hv => ⟨hv.1.trans (by rw [hfv]), hv.2.1, hA9.2.trans hv.2.2⟩
                  (refine Qb ?_)
                  rintro G ⟨hSG, hTG⟩
                  (refine Ga ?_)
                  refine rndQ_n (α := Nat × Int) (0 + 1, (P0 : Int)) ⟨by dsimp only; omega, ⟨hSG, hTWE.trans hTG⟩, fun _ => by dsimp only; rw [hP0]⟩ ⟨rfl, rfl, rfl, rfl, rfl, rfl, trivial⟩ (by dsimp only; omega)
                · obtain rfl := hz0 (by omega)
                  (refine Ga ?_)
                  rw [hKk]
                  refine W_draws (fun V9 => SqAt V9 p F2 Q ∧ Turn F2 F2 X V9) rfl (by kernel_rfl) ⟨hSX.below (Below.drew (Below.refl _ _)), .of (Below.drew (Below.refl _ _))⟩ ?_
                  apply Qst_load (hb := fun A9 hA9 => hA9.2.blk ksX no2s)
                  focus rfl
                  focus rfl
                  focus rfl
                  focus rfl
                  focus rfl
                  (refine Qb ?_)
                  apply Qst_call (idv (901, K + 1))
                  focus rfl
                  focus rfl
                  focus exact fun A9 hA9 => (c_id 901 (K + 1) A9).mono fun v w' h => ⟨h.1, hA9.1.below h.2, hA9.2.trans (.of h.2)⟩
                  (refine Qb ?_)
                  apply Qst_call (.int .i64 ((P0 : Int) + (i : Int)))
                  focus rfl
                  focus rfl
                  focus exact fun A9 hA9 => (s_Find (901, K + 1) (by omega) hA9.1).mono fun v w' hv => ⟨hv.1.trans (by rw [hfv]), hv.2.1, hA9.2.trans hv.2.2⟩
                  (refine Qb ?_)
                  rintro E ⟨hSE, hTE⟩
                  (refine Ga ?_)
                  refine rndQ_n (α := Nat × Int) (i + 1, (P0 : Int)) ⟨by dsimp only; omega, ⟨hSE, hTX.trans hTE⟩, fun _ => by dsimp only; rw [hP0]⟩ ⟨rfl, rfl, rfl, rfl, rfl, ?_, trivial⟩ (by dsimp only; omega)
                  exact congrArg (Value.int .i64) (by dsimp only; omega)
              | false =>
                have hKk := hKe (b := false) rfl
                rw [if_neg (by simp)] at hKk
                have hKi : i = K := by omega
                subst hKi
                by_cases h0 : i = 0
                · subst h0
                  (refine Ga ?_)
                  refine W_draws (fun V9 => SqAt V9 p F2 Q ∧ Turn F2 F2 X V9) rfl (by kernel_rfl) ⟨hSX.below (Below.drew (Below.refl _ _)), .of (Below.drew (Below.refl _ _))⟩ ?_
                  apply Qst_load (hb := fun A9 hA9 => hA9.2.blk ksX no2s)
                  focus rfl
                  focus rfl
                  focus rfl
                  focus rfl
                  focus rfl
                  (refine Qb ?_)
                  apply Qst_call (idv (901, 0 + 1))
                  focus rfl
                  focus rfl
                  focus exact fun A9 hA9 => (c_id 901 (0 + 1) A9).mono fun v w' h => ⟨h.1, hA9.1.below h.2, hA9.2.trans (.of h.2)⟩
                  (refine Qb ?_)
                  apply Qst_call (.int .i64 ((P0 : Int) + ((0 : Nat) : Int)))
                  focus rfl
                  focus rfl
                  focus exact fun A9 hA9 => (s_Find (901, 0 + 1) (by omega) hA9.1).mono fun v w' hv => ⟨hv.1.trans (by rw [hfv]), hv.2.1, hA9.2.trans hv.2.2⟩
                  (refine Qb ?_)
                  rintro E ⟨hSE, hTE⟩
                  have hz9 : (P0 : Int) + ((0 : Nat) : Int) = (P0 : Int) := by omega
                  rw [hz9] at hfv ⊢
                  have hTWE := hTX.trans hTE
                  have ksE := hTWE.blk ksb no2s
                  have lsE := ksE.lt
                  (refine Ga ?_)
                  refine W_draws (fun V9 => SqAt V9 p F2 Q ∧ Turn F2 F2 E V9) rfl (by kernel_rfl) ⟨hSE.below (Below.drew (Below.refl _ _)), .of (Below.drew (Below.refl _ _))⟩ ?_
                  apply Qst_load (hb := fun A9 hA9 => hA9.2.blk ksE no2s)
                  focus rfl
                  focus rfl
                  focus rfl
                  focus rfl
                  focus rfl
                  (refine Qb ?_)
                  apply Qst_call (idv (901, 0 + 1))
                  focus rfl
                  focus rfl
                  focus exact fun A9 hA9 => (c_id 901 (0 + 1) A9).mono fun v w' h => ⟨h.1, hA9.1.below h.2, hA9.2.trans (.of h.2)⟩
                  (refine Qb ?_)
                  apply Qst_call (.int .i64 ((P0 : Int)))
                  focus rfl
                  focus rfl
                  focus exact fun A9 hA9 => (s_Find (901, 0 + 1) (by omega) hA9.1).mono fun v w' hv => ⟨hv.1.trans (by rw [hfv]), hv.2.1, hA9.2.trans hv.2.2⟩
                  (refine Qb ?_)
                  rintro G ⟨hSG, hTG⟩
                  (refine Ga ?_)
                  refine rndQ_n (α := Nat × Int) (0 + 1, (P0 : Int)) ⟨by dsimp only; omega, ⟨hSG, hTWE.trans hTG⟩, fun _ => by dsimp only; rw [hP0]⟩ ⟨rfl, rfl, rfl, rfl, rfl, rfl, trivial⟩ (by dsimp only; omega)
                · obtain rfl := hz0 (by omega)
                  (refine Ga ?_)
                  refine W_draws (fun V9 => SqAt V9 p F2 Q ∧ Turn F2 F2 X V9) rfl (by kernel_rfl) ⟨hSX.below (Below.drew (Below.refl _ _)), .of (Below.drew (Below.refl _ _))⟩ ?_
                  apply Qst_load (hb := fun A9 hA9 => hA9.2.blk ksX no2s)
                  focus rfl
                  focus rfl
                  focus rfl
                  focus rfl
                  focus rfl
                  (refine Qb ?_)
                  apply Qst_call (idv (901, i + 1))
                  focus rfl
                  focus rfl
                  focus exact fun A9 hA9 => (c_id 901 (i + 1) A9).mono fun v w' h => ⟨h.1, hA9.1.below h.2, hA9.2.trans (.of h.2)⟩
                  (refine Qb ?_)
                  apply Qst_call (.int .i64 ((P0 : Int) + (i : Int)))
                  focus rfl
                  focus rfl
                  focus exact fun A9 hA9 => (s_Find (901, i + 1) (by omega) hA9.1).mono fun v w' hv => ⟨hv.1.trans (by rw [hfv]), hv.2.1, hA9.2.trans hv.2.2⟩
                  (refine Qb ?_)
                  rintro E ⟨hSE, hTE⟩
                  (refine Ga ?_)
                  refine rndQ_n (α := Nat × Int) (i + 1, (P0 : Int)) ⟨by dsimp only; omega, ⟨hSE, hTX.trans hTE⟩, fun _ => by dsimp only; rw [hP0]⟩ ⟨rfl, rfl, rfl, rfl, rfl, ?_, trivial⟩ (by dsimp only; omega)
                  exact congrArg (Value.int .i64) (by dsimp only; omega)
            · obtain rfl : i = N1 := by omega
              (refine Ga ?_)
              exact cutQ_n (α := Int) z ⟨hSX, hTX⟩ ⟨rfl, rfl, rfl, rfl, rfl, trivial⟩
          · rintro J z W3 ⟨hS3, hT3⟩
            (refine Ga ?_)
            refine W_cutB (α := Int) (fun z => [(2, .int .i64 (N1 : Int)), (3, .int .i64 (M1 : Int)), (9, .pointer (some ⟨w.heap.size, 0, none⟩)), (12, .pointer (some ⟨bs, 0, none⟩)), (21, .int .i64 z)]) (fun _ X => SqAt X p F2 Q ∧ Turn F2 F2 W2 X) ?_ ?_
            · refine W_loop (α := Nat × Int) (fun x => [(2, .int .i64 (N1 : Int)), (3, .int .i64 (M1 : Int)), (9, .pointer (some ⟨w.heap.size, 0, none⟩)), (12, .pointer (some ⟨bs, 0, none⟩)), (21, .int .i64 x.2), (24, .int .i64 (x.1 : Int))])
                (fun x X => x.1 ≤ M1 ∧ (SqAt X p F2 Q ∧ Turn F2 F2 W2 X) ∧ (0 < x.1 → x.2 = (Q.pos (902, kk back M1 0 + 1) : Int))) (fun x _ => M1 - x.1) (0, z) ⟨Nat.zero_le _, ⟨hS3, hT3⟩, fun h => absurd h (Nat.lt_irrefl _)⟩ ⟨rfl, rfl, rfl, rfl, rfl, rfl, trivial⟩ ?_
              clear hS3 hT3
              rintro J ⟨i, z⟩ X ⟨hi, ⟨hSX, hTX⟩, hz0⟩
              dsimp only at hi hz0 ⊢
              have ksX := hTX.blk ksb no2s
              have kkX := hTX.blk kkb no2k
              have lsX := ksX.lt
              have lkX := kkX.lt
              by_cases hil : i < M1
              · obtain ⟨hmem, hpos⟩ := line2 i hil
                obtain ⟨K, hK⟩ : ∃ K, kk back M1 i = K := ⟨_, rfl⟩
                obtain ⟨P0, hP0⟩ : ∃ P0, Q.pos (902, kk back M1 0 + 1) = P0 := ⟨_, rfl⟩
                rw [hP0] at hpos hz0
                have hPb : P0 ≤ 100 := by
                  have : Q.pos (902, K + 1) < Q.ids.length := List.idxOf_lt_length_iff.2 (hK ▸ hmem)
                  rw [Fo.ids_len] at this
                  rw [hK] at hpos
                  omega
                rw [hK] at hmem hpos
                have hfv : (if ((902, K + 1) : Id) ∈ Q.ids then (Q.pos (902, K + 1) : Int) else -1) = (P0 : Int) + (i : Int) := by
                  rw [if_pos hmem, hpos]
                  rfl
                have hKb : K < M1 := by
                  rw [← hK]
                  unfold kk
                  split <;> omega
                have hKe : ∀ {b}, back = b → (if b then (M1 : Int) - 1 - (i : Int) else (i : Int)) = (K : Int) := fun {b} e => by
                  subst e
                  rw [← hK]
                  unfold kk
                  cases back with
                  | true =>
                    rw [if_pos rfl, if_pos rfl]
                    omega
                  | false => rfl
                clear hK hmem hpos
                cases back with
                | true =>
                  have hKk := hKe (b := true) rfl
                  rw [if_pos rfl] at hKk
                  by_cases h0 : i = 0
                  · subst h0
                    (refine Ga ?_)
                    rw [hKk]
                    refine W_draws (fun V9 => SqAt V9 p F2 Q ∧ Turn F2 F2 X V9) rfl (by kernel_rfl) ⟨hSX.below (Below.drew (Below.refl _ _)), .of (Below.drew (Below.refl _ _))⟩ ?_
                    apply Qst_load (hb := fun A9 hA9 => hA9.2.blk ksX no2s)
                    focus rfl
                    focus rfl
                    focus rfl
                    focus rfl
                    focus rfl
                    (refine Qb ?_)
                    apply Qst_call (idv (902, K + 1))
                    focus rfl
                    focus rfl
                    focus exact fun A9 hA9 => (c_id 902 (K + 1) A9).mono fun v w' h => ⟨h.1, hA9.1.below h.2, hA9.2.trans (.of h.2)⟩
                    (refine Qb ?_)
                    apply Qst_call (.int .i64 ((P0 : Int) + ((0 : Nat) : Int)))
                    focus rfl
                    focus rfl
                    focus exact fun A9 hA9 => (s_Find (902, K + 1) (by omega) hA9.1).mono fun v w' hv => ⟨hv.1.trans (by rw [hfv]), hv.2.1, hA9.2.trans hv.2.2⟩
                    (refine Qb ?_)
                    rintro E ⟨hSE, hTE⟩
                    have hz9 : (P0 : Int) + ((0 : Nat) : Int) = (P0 : Int) := by omega
                    rw [hz9] at hfv ⊢
                    have hTWE := hTX.trans hTE
                    have ksE := hTWE.blk ksb no2s
                    have lsE := ksE.lt
                    (refine Ga ?_)
                    refine W_draws (fun V9 => SqAt V9 p F2 Q ∧ Turn F2 F2 E V9) rfl (by kernel_rfl) ⟨hSE.below (Below.drew (Below.refl _ _)), .of (Below.drew (Below.refl _ _))⟩ ?_
                    apply Qst_load (hb := fun A9 hA9 => hA9.2.blk ksE no2s)
                    focus rfl
                    focus rfl
                    focus rfl
                    focus rfl
                    focus rfl
                    (refine Qb ?_)
                    apply Qst_call (idv (902, K + 1))
                    focus rfl
                    focus rfl
                    focus exact fun A9 hA9 => (c_id 902 (K + 1) A9).mono fun v w' h => ⟨h.1, hA9.1.below h.2, hA9.2.trans (.of h.2)⟩
                    (refine Qb ?_)
                    apply Qst_call (.int .i64 ((P0 : Int)))
                    focus rfl
                    focus rfl
                    focus exact fun A9 hA9 => (s_Find (902, K + 1) (by omega) hA9.1).mono fun v w' hv => ⟨hv.1.trans (by rw [hfv]), hv.2.1, hA9.2.trans hv.2.2⟩
                    (refine Qb ?_)
                    rintro G ⟨hSG, hTG⟩
                    (refine Ga ?_)
                    refine rndQ_n (α := Nat × Int) (0 + 1, (P0 : Int)) ⟨by dsimp only; omega, ⟨hSG, hTWE.trans hTG⟩, fun _ => by dsimp only; rw [hP0]⟩ ⟨rfl, rfl, rfl, rfl, rfl, rfl, trivial⟩ (by dsimp only; omega)
                  · obtain rfl := hz0 (by omega)
                    (refine Ga ?_)
                    rw [hKk]
                    refine W_draws (fun V9 => SqAt V9 p F2 Q ∧ Turn F2 F2 X V9) rfl (by kernel_rfl) ⟨hSX.below (Below.drew (Below.refl _ _)), .of (Below.drew (Below.refl _ _))⟩ ?_
                    apply Qst_load (hb := fun A9 hA9 => hA9.2.blk ksX no2s)
                    focus rfl
                    focus rfl
                    focus rfl
                    focus rfl
                    focus rfl
                    (refine Qb ?_)
                    apply Qst_call (idv (902, K + 1))
                    focus rfl
                    focus rfl
                    focus exact fun A9 hA9 => (c_id 902 (K + 1) A9).mono fun v w' h => ⟨h.1, hA9.1.below h.2, hA9.2.trans (.of h.2)⟩
                    (refine Qb ?_)
                    apply Qst_call (.int .i64 ((P0 : Int) + (i : Int)))
                    focus rfl
                    focus rfl
                    focus exact fun A9 hA9 => (s_Find (902, K + 1) (by omega) hA9.1).mono fun v w' hv => ⟨hv.1.trans (by rw [hfv]), hv.2.1, hA9.2.trans hv.2.2⟩
                    (refine Qb ?_)
                    rintro E ⟨hSE, hTE⟩
                    (refine Ga ?_)
                    refine rndQ_n (α := Nat × Int) (i + 1, (P0 : Int)) ⟨by dsimp only; omega, ⟨hSE, hTX.trans hTE⟩, fun _ => by dsimp only; rw [hP0]⟩ ⟨rfl, rfl, rfl, rfl, rfl, ?_, trivial⟩ (by dsimp only; omega)
                    exact congrArg (Value.int .i64) (by dsimp only; omega)
                | false =>
                  have hKk := hKe (b := false) rfl
                  rw [if_neg (by simp)] at hKk
                  have hKi : i = K := by omega
                  subst hKi
                  by_cases h0 : i = 0
                  · subst h0
                    (refine Ga ?_)
                    refine W_draws (fun V9 => SqAt V9 p F2 Q ∧ Turn F2 F2 X V9) rfl (by kernel_rfl) ⟨hSX.below (Below.drew (Below.refl _ _)), .of (Below.drew (Below.refl _ _))⟩ ?_
                    apply Qst_load (hb := fun A9 hA9 => hA9.2.blk ksX no2s)
                    focus rfl
                    focus rfl
                    focus rfl
                    focus rfl
                    focus rfl
                    (refine Qb ?_)
                    apply Qst_call (idv (902, 0 + 1))
                    focus rfl
                    focus rfl
                    focus exact fun A9 hA9 => (c_id 902 (0 + 1) A9).mono fun v w' h => ⟨h.1, hA9.1.below h.2, hA9.2.trans (.of h.2)⟩
                    (refine Qb ?_)
                    apply Qst_call (.int .i64 ((P0 : Int) + ((0 : Nat) : Int)))
                    focus rfl
                    focus rfl
                    focus exact fun A9 hA9 => (s_Find (902, 0 + 1) (by omega) hA9.1).mono fun v w' hv => ⟨hv.1.trans (by rw [hfv]), hv.2.1, hA9.2.trans hv.2.2⟩
                    (refine Qb ?_)
                    rintro E ⟨hSE, hTE⟩
                    have hz9 : (P0 : Int) + ((0 : Nat) : Int) = (P0 : Int) := by omega
                    rw [hz9] at hfv ⊢
                    have hTWE := hTX.trans hTE
                    have ksE := hTWE.blk ksb no2s
                    have lsE := ksE.lt
                    (refine Ga ?_)
                    refine W_draws (fun V9 => SqAt V9 p F2 Q ∧ Turn F2 F2 E V9) rfl (by kernel_rfl) ⟨hSE.below (Below.drew (Below.refl _ _)), .of (Below.drew (Below.refl _ _))⟩ ?_
                    apply Qst_load (hb := fun A9 hA9 => hA9.2.blk ksE no2s)
                    focus rfl
                    focus rfl
                    focus rfl
                    focus rfl
                    focus rfl
                    (refine Qb ?_)
                    apply Qst_call (idv (902, 0 + 1))
                    focus rfl
                    focus rfl
                    focus exact fun A9 hA9 => (c_id 902 (0 + 1) A9).mono fun v w' h => ⟨h.1, hA9.1.below h.2, hA9.2.trans (.of h.2)⟩
                    (refine Qb ?_)
                    apply Qst_call (.int .i64 ((P0 : Int)))
                    focus rfl
                    focus rfl
                    focus exact fun A9 hA9 => (s_Find (902, 0 + 1) (by omega) hA9.1).mono fun v w' hv => ⟨hv.1.trans (by rw [hfv]), hv.2.1, hA9.2.trans hv.2.2⟩
                    (refine Qb ?_)
                    rintro G ⟨hSG, hTG⟩
                    (refine Ga ?_)
                    refine rndQ_n (α := Nat × Int) (0 + 1, (P0 : Int)) ⟨by dsimp only; omega, ⟨hSG, hTWE.trans hTG⟩, fun _ => by dsimp only; rw [hP0]⟩ ⟨rfl, rfl, rfl, rfl, rfl, rfl, trivial⟩ (by dsimp only; omega)
                  · obtain rfl := hz0 (by omega)
                    (refine Ga ?_)
                    refine W_draws (fun V9 => SqAt V9 p F2 Q ∧ Turn F2 F2 X V9) rfl (by kernel_rfl) ⟨hSX.below (Below.drew (Below.refl _ _)), .of (Below.drew (Below.refl _ _))⟩ ?_
                    apply Qst_load (hb := fun A9 hA9 => hA9.2.blk ksX no2s)
                    focus rfl
                    focus rfl
                    focus rfl
                    focus rfl
                    focus rfl
                    (refine Qb ?_)
                    apply Qst_call (idv (902, i + 1))
                    focus rfl
                    focus rfl
                    focus exact fun A9 hA9 => (c_id 902 (i + 1) A9).mono fun v w' h => ⟨h.1, hA9.1.below h.2, hA9.2.trans (.of h.2)⟩
                    (refine Qb ?_)
                    apply Qst_call (.int .i64 ((P0 : Int) + (i : Int)))
                    focus rfl
                    focus rfl
                    focus exact fun A9 hA9 => (s_Find (902, i + 1) (by omega) hA9.1).mono fun v w' hv => ⟨hv.1.trans (by rw [hfv]), hv.2.1, hA9.2.trans hv.2.2⟩
                    (refine Qb ?_)
                    rintro E ⟨hSE, hTE⟩
                    (refine Ga ?_)
                    refine rndQ_n (α := Nat × Int) (i + 1, (P0 : Int)) ⟨by dsimp only; omega, ⟨hSE, hTX.trans hTE⟩, fun _ => by dsimp only; rw [hP0]⟩ ⟨rfl, rfl, rfl, rfl, rfl, ?_, trivial⟩ (by dsimp only; omega)
                    exact congrArg (Value.int .i64) (by dsimp only; omega)
              · obtain rfl : i = M1 := by omega
                (refine Ga ?_)
                exact cutQ_n (α := Int) z ⟨hSX, hTX⟩ ⟨rfl, rfl, rfl, rfl, rfl, trivial⟩
            · rintro J z W3 ⟨hS3, hT3⟩
              (refine Ga ?_)
              (apply retQ1; (focus rfl))
              exact ⟨rfl, (b2.trans (bel2.mono b2.size)).trans ((hT3.low hslow bel2.size).2.mono b2.size)⟩
  · (refine Ga ?_)
    (apply retQ1; (focus rfl))
    exact ⟨rfl, b1⟩
end Sq
end Go.Proofs.Ytmammcgdjjldbaa
