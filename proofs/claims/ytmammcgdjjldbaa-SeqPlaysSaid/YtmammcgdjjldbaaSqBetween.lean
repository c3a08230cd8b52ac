/- SeqBetween's walk. -/
import Derived.Test.YtmammcgdjjldbaaSqB
import Derived.Test.YtmammcgdjjldbaaSqRh
import Derived.Test.YtmammcgdjjldbaaPlace
namespace Go.Proofs.Ytmammcgdjjldbaa
set_option maxRecDepth 100000
namespace Sq
open Go Go.RowKit Sx Tl
theorem take_put {us : List Un} {k : Nat} (hk : k < us.length) (h : Fo.okL .nil us) : Fo.may (Fo.putL .nil (us.take k)) us[k] = true ∧ (Fo.insert (Fo.putL .nil (us.take k)) us[k]).1 = Fo.putL .nil (us.take (k + 1)) := by
  have key : ∀ (us : List Un) (t : Fo) (k : Nat) (hk : k < us.length), Fo.okL t us → Fo.may (Fo.putL t (us.take k)) us[k] = true := by
    intro us
    induction us with
    | nil => intro t k hk; exact absurd hk (Nat.not_lt_zero _)
    | cons u us ih =>
      intro t k hk h
      cases k with
      | zero => exact h.1
      | succ k => exact ih (Fo.put t u) k (Nat.lt_of_succ_lt_succ hk) h.2
  have h1 := key us .nil k hk h
  refine ⟨h1, ?_⟩
  unfold Fo.insert
  rw [h1, List.take_succ_eq_append_getElem hk, Fo.putL_snoc]
  rfl
theorem take_ok {us : List Un} : ∀ (k : Nat) {t : Fo}, Fo.okL t us → Fo.okL t (us.take k) := by
  induction us with
  | nil => intro k t _; rw [List.take_nil]; trivial
  | cons u us ih =>
    intro k t h
    cases k with
    | zero => trivial
    | succ k => exact ⟨h.1, ih k h.2⟩
theorem unit_at {w : World} {v1 : Option Addr} {n c : Nat} {us : List Un} (h : SRows w 6 (.slice v1 n c) (us.map ucs)) {k : Nat} (hk : k < us.length) : ∃ g off, v1 = some ⟨g, off, none⟩ ∧ ∀ A, Grown w A → ∀ j u, (ucs us[k])[j]? = some u → A.cell? ⟨g, off + k * 6 + j, none⟩ = some u := by
  obtain ⟨b, off, rfl, _, hc⟩ := h.at (i := k) (by rw [List.length_map]; exact hk)
  refine ⟨b, off, rfl, fun A hA j u hu => cell_below hA (hc j u ?_)⟩
  rw [List.getElem_map]
  exact hu
theorem P_idxm {P : Program} {G : Fr} {ty t e b o len c j : Nat} {x y : Operand} {k : IntKind} {i : TypeInfo} {sz : Nat} (hx : ev G x = .slice (some ⟨b, o, none⟩) len c) (hq : ev G y = .int k (j : Int)) (ht : P.underlying t = some (.slice e)) (hi : P.info? e = some i) (hs : i.size = sz) (h1 : j < len) : Pu P G (.indexAddr t x y) ty (.pointer (some ⟨b, o + j * sz, none⟩)) := by
  have := P_idx (ty := ty) hx hq ht hi hs (by omega) (by omega)
  simpa using this
theorem nil_sz : Fo.nil.sz = 0 := rfl
attribute [local irreducible] W Lst Qst Pu seqQ blkQ rndQ cutQ retQ Does Enters IntKind.wrap bits sb World.alloc World.putObj Blk
theorem law_SeqBetween (zs : List Int) (a : Option Addr) (c : Nat) (hz : ∀ z ∈ zs, 0 ≤ z ∧ z < 65536) (y1 : Int) (y2 : Int) (hy2 : 0 ≤ y2 ∧ y2 < 18446744073709551616) (w : World) (h : Ints w .u16 (.slice a zs.length c) zs) :
    Does Try.prog 4 #[.slice a zs.length c, .int .i64 y1, .int .u64 y2] w fun v w' => v = .bool true ∧ Below w.heap.size w w' := by
  refine Does_of (args := [.slice a zs.length c, .int .i64 y1, .int .u64 y2]) Try.func4 (by kernel_rfl) rfl rfl rfl rfl rfl ?_
  (refine Ga ?_)
  (apply Lst_call; (focus rfl); (focus rfl))
  refine (c_known w).mono ?_
  rintro v w1 ⟨rfl, hb1⟩
  by_cases hl : zs.length ≤ 60
  · have h1 := h.below hb1 (Nat.le_refl _)
    (refine Ga ?_)
    (apply Lst_call; (focus rfl); (focus rfl))
    refine (c_grown zs a c hz hl w1 h1).mono ?_
    rintro v w2 ⟨us, hO, hul, hok, hsm, hb2⟩
    have b2 := hb1.trans (hb2.mono hb1.size)
    obtain ⟨v1, v2, v3, rfl⟩ := own_slice hO
    have hrow := hO.rows
    obtain ⟨_, _, hform⟩ := own_form hO
    obtain ⟨hfe, _⟩ := hform
    injection hfe with e1 e2 e3
    subst e2
    (refine Ga ?_)
    (apply Lst_call; (focus rfl); (focus rfl))
    refine (c_New w2).mono ?_
    rintro v w3 ⟨p, F0, rfl, hS0, hlow0, hb3⟩
    (refine Ga ?_)
    have sS := hb3.size
    refine W_loop (α := Nat × (Nat → Prop)) (fun x => [(1, .int .i64 y1), (2, .int .u64 y2), (7, .slice v1 us.length v3), (8, .pointer (some ⟨p, 0, none⟩)), (9, .int .i64 (x.1 : Int))])
      (fun x A => x.1 ≤ us.length ∧ SqAt A p x.2 (Fo.putL .nil (us.take x.1)) ∧ (∀ g, x.2 g → w2.heap.size ≤ g) ∧ Below w2.heap.size w2 A) (fun x _ => us.length - x.1) (0, F0) ⟨Nat.zero_le _, hS0, hlow0, hb3⟩ ⟨rfl, rfl, rfl, rfl, rfl, trivial⟩ ?_
    clear hS0 hlow0 hb3 sS
    rintro J ⟨k, F⟩ A ⟨hk, hS, hlow, hbA⟩
    dsimp only at hk hS hlow ⊢
    by_cases hkl : k < us.length
    · obtain ⟨g, off, rfl, hc⟩ := unit_at hrow hkl
      have hcA := hc A hbA
      obtain ⟨hmay, hins⟩ := take_put hkl hok
      have hsz : (Fo.putL .nil (us.take k)).sz ≤ 60 := by
        have := Fo.putL_sz Fo.Good.nil (take_ok k hok)
        rw [nil_sz, List.length_take] at this
        omega
      (refine Ga ?_)
      apply Lst_pu
      · apply P_idxm (j := k)
        focus rfl
        focus rfl
        focus rfl
        focus rfl
        focus rfl
        focus exact hkl
      focus rfl
      (refine Ga ?_)
      apply Lst_loadS' (cs := ucs us[k])
      focus rfl
      focus rfl
      focus rfl
      focus rfl
      focus rfl
      focus exact hcA
      focus rfl
      (refine Ga ?_)
      (apply Lst_call; (focus rfl); (focus rfl))
      refine (c_Insert us[k] p F _ A (by omega) hS).mono ?_
      rintro v D ⟨rfl, F', hSD, hT⟩
      rw [hins] at hSD
      have hlow' := hT.low hlow hbA.size
      (refine Ga ?_)
      refine rndQ_n (α := Nat × (Nat → Prop)) (k + 1, F') ⟨hkl, hSD, hlow'.1, hbA.trans hlow'.2⟩ ⟨rfl, rfl, rfl, rfl, ?_, trivial⟩ (by dsimp only; omega)
      exact congrArg (Value.int .i64) (by dsimp only; omega)
    · obtain rfl : k = us.length := by omega
      rw [List.take_length] at hS
      have hT0 := hS.good
      have hsz : (Fo.putL .nil us).sz = us.length := by
        have := Fo.putL_sz Fo.Good.nil hok
        rw [nil_sz] at this
        omega
      have hids : ∀ k, k ∈ (Fo.putL .nil us).ids → k.2 ≤ 100 := fun k hk => by
        rcases (Fo.putL_ids Fo.Good.nil hok k).1 hk with h | ⟨u, hu, rfl⟩
        · cases h
        · exact (hsm u hu).2.2.2
      have bA : Below w.heap.size w A := b2.trans (hbA.mono b2.size)
      generalize Fo.putL .nil us = T at *
      (refine Ga ?_)
      (apply Lst_call; (focus rfl); (focus rfl))
      refine (s_Len hS).mono ?_
      rintro v A' ⟨rfl, rfl⟩
      (refine Ga ?_)
      (apply Lst_call; (focus rfl); (focus rfl))
      refine (Wire.h_Place y1 ((T.sz : Int) + 1) A (by omega) (by omega)).mono ?_
      rintro v A' ⟨rfl, rfl⟩
      obtain ⟨n, hn⟩ : ∃ n : Nat, y1 % ((T.sz : Int) + 1) = (n : Int) := ⟨(y1 % ((T.sz : Int) + 1)).toNat, by have := Int.emod_nonneg y1 (show (T.sz : Int) + 1 ≠ 0 by omega); omega⟩
      have hnT : n ≤ T.sz := by have := Int.emod_lt_of_pos y1 (show 0 < (T.sz : Int) + 1 by omega); omega
      rw [hn]
      obtain ⟨q, hq⟩ : ∃ q : Nat, y2.tmod 1000 = (q : Int) := ⟨(y2.tmod 1000).toNat, by have := Int.tmod_nonneg 1000 hy2.1; omega⟩
      have hq2 : q < 1000 := by have := Int.tmod_lt_of_pos y2 (show (0 : Int) < 1000 by omega); omega
      (first | (apply W_seq) | (apply W_region) | (apply W_block) | (apply W_skip) | (apply W_ret) | (apply W_exit) | (apply W_cond_t; (focus rfl)) | (apply W_cond_f; (focus rfl)) | (apply Lst_nil) | (apply seqQ_n) | (apply seqQ_r) | (apply seqQ_e) | (apply blkQ_n) | (apply blkQ_r) | (apply blkQ_e) | (apply blkQ_o; (focus rfl)) | (apply rndQ_r) | (apply rndQ_e) | (apply cutQ_r) | (apply cutQ_e) | (apply Lst_guard_t; (focus rfl); (focus rfl)) | (apply Lst_guard_f; (focus rfl); (focus rfl); (focus rfl); (focus rfl)) | (apply Lst_guard_u; (focus rfl); (focus rfl); (focus rfl)) | (apply Lst_rangeS; (focus rfl); (focus rfl); (focus ((try simp only [Sx.sizes]); first | done | rfl)); (focus rfl)) | (apply Lst_alloc; (focus rfl); (focus rfl); (focus rfl); (focus ((try simp only [Sx.sizes]); first | done | rfl)); (focus rfl)) | (apply Lst_box; (focus constructor); (focus rfl); (focus ((try simp only [Sx.sizes]); first | done | rfl)); (focus rfl)) | (apply Lst_load; (focus rfl); (focus rfl); (focus rfl); (focus ((repeat (first | assumption | (apply Blk.below (hb := hb1); rotate_left; (focus ((try simp only [Sx.sizes]); omega)); rotate_right) | (apply Blk.below (hb := hb2); rotate_left; (focus ((try simp only [Sx.sizes]); omega)); rotate_right) | (apply Blk.below (hb := hb3); rotate_left; (focus ((try simp only [Sx.sizes]); omega)); rotate_right) | (apply Blk.below (hb := hb4); rotate_left; (focus ((try simp only [Sx.sizes]); omega)); rotate_right) | (apply Blk.below (hb := hb5); rotate_left; (focus ((try simp only [Sx.sizes]); omega)); rotate_right) | (apply Blk.below (hb := hb6); rotate_left; (focus ((try simp only [Sx.sizes]); omega)); rotate_right) | (apply Blk.below (hb := hb7); rotate_left; (focus ((try simp only [Sx.sizes]); omega)); rotate_right) | (apply Blk.below (hb := hb8); rotate_left; (focus ((try simp only [Sx.sizes]); omega)); rotate_right) | (apply Blk.below (hb := hb9); rotate_left; (focus ((try simp only [Sx.sizes]); omega)); rotate_right) | exact Blk.newE (by first | rfl | ((try simp only [Sx.sizes]); first | done | omega)) _ _ | exact Blk.put_same (by (try simp only [Sx.sizes]); first | done | omega) _ _ | (apply Blk.put_ne; (focus omega)) | apply Blk.alloc | apply Blk.drew)); done)); (focus rfl); (focus rfl)) | (apply Lst_loadc; (focus rfl); (focus rfl); (focus rfl); (focus assumption); (focus rfl)) | (apply Lst_store; (focus rfl); (focus constructor); (focus rfl); (focus rfl); (focus rfl); (focus rfl); (focus ((repeat (first | assumption | (apply Blk.below (hb := hb1); rotate_left; (focus ((try simp only [Sx.sizes]); omega)); rotate_right) | (apply Blk.below (hb := hb2); rotate_left; (focus ((try simp only [Sx.sizes]); omega)); rotate_right) | (apply Blk.below (hb := hb3); rotate_left; (focus ((try simp only [Sx.sizes]); omega)); rotate_right) | (apply Blk.below (hb := hb4); rotate_left; (focus ((try simp only [Sx.sizes]); omega)); rotate_right) | (apply Blk.below (hb := hb5); rotate_left; (focus ((try simp only [Sx.sizes]); omega)); rotate_right) | (apply Blk.below (hb := hb6); rotate_left; (focus ((try simp only [Sx.sizes]); omega)); rotate_right) | (apply Blk.below (hb := hb7); rotate_left; (focus ((try simp only [Sx.sizes]); omega)); rotate_right) | (apply Blk.below (hb := hb8); rotate_left; (focus ((try simp only [Sx.sizes]); omega)); rotate_right) | (apply Blk.below (hb := hb9); rotate_left; (focus ((try simp only [Sx.sizes]); omega)); rotate_right) | exact Blk.newE (by first | rfl | ((try simp only [Sx.sizes]); first | done | omega)) _ _ | exact Blk.put_same (by (try simp only [Sx.sizes]); first | done | omega) _ _ | (apply Blk.put_ne; (focus omega)) | apply Blk.alloc | apply Blk.drew)); done)); (focus ((repeat constructor); done))) | (apply Lst_pu; (focus (first | (apply P_neg; (focus rfl); (focus (first | assumption | exact wi64 (by omega) (by omega) | exact wu64 (by omega) (by omega) | exact wi32 (by omega) (by omega) | exact wu8 (by omega) (by omega) | rfl))) | (apply P_move; (focus constructor)) | (apply P_assign; (focus constructor)) | (apply P_ar; (focus rfl); (focus rfl); (focus rfl); (focus (first | assumption | exact wi64 (by omega) (by omega) | exact wu64 (by omega) (by omega) | exact wi32 (by omega) (by omega) | exact wu8 (by omega) (by omega) | rfl))) | (apply P_ct; (focus rfl); (focus rfl); (focus rfl); (focus (dsimp only [cmpP]; first | done | omega))) | (apply P_cf; (focus rfl); (focus rfl); (focus rfl); (focus (dsimp only [cmpP]; first | done | omega))) | (apply P_pick_t; (focus rfl); (focus constructor)) | (apply P_pick_f; (focus rfl); (focus constructor)) | (apply P_extract; (focus rfl); (focus rfl)) | (apply P_not; (focus rfl); (focus rfl)) | (apply P_slen; (focus rfl); (focus rfl)) | (apply P_llen; (focus rfl); (focus rfl)) | (apply P_beq; (focus rfl); (focus rfl); (focus rfl); (focus (first | exact beq_self_eq_true _ | rfl))) | (apply P_bne; (focus rfl); (focus rfl); (focus rfl); (focus (first | exact bne_self_eq_false _ | rfl))) | (apply P_sadd; (focus rfl); (focus rfl); (focus omega)) | (apply P_max; (focus rfl); (focus rfl)) | (apply P_min; (focus rfl); (focus rfl)) | (apply P_idx1; (focus rfl); (focus rfl); (focus rfl); (focus rfl); (focus rfl); (focus omega)) | (apply P_nilCheck; (focus rfl)) | (apply P_conv; (focus rfl); (focus rfl); (focus rfl); (focus (first | assumption | exact wi64 (by omega) (by omega) | exact wu64 (by omega) (by omega) | exact wi32 (by omega) (by omega) | exact wu8 (by omega) (by omega) | rfl))) | (apply P_sindex0; (focus rfl); (focus rfl); (focus rfl); (focus omega)) | (apply P_sindexN; (focus rfl); (focus rfl); (focus rfl); (focus omega)) | (apply P_sindex; (focus rfl); (focus rfl); (focus rfl); (focus omega); (focus omega)) | (apply P_makeFunc; (focus (repeat constructor)); (focus (repeat constructor))) | (apply P_seq_t; (focus rfl); (focus rfl); (focus (first | assumption | rfl))) | (apply P_seq_f; (focus rfl); (focus rfl); (focus assumption)) | (apply P_sne_t; (focus rfl); (focus rfl); (focus assumption)) | (apply P_sne_f; (focus rfl); (focus rfl); (focus (first | assumption | rfl))) | (apply P_lslice; (focus rfl); (focus rfl); (focus rfl); (focus rfl); (focus rfl); (focus rfl); (focus omega); (focus omega); (focus omega)) | (apply P_lslice_hi; (focus rfl); (focus rfl); (focus rfl); (focus rfl); (focus rfl); (focus omega); (focus omega)) | (apply P_lslice_lo; (focus rfl); (focus rfl); (focus rfl); (focus rfl); (focus rfl); (focus omega); (focus omega)) | (apply P_sslice_lo; (focus rfl); (focus rfl); (focus rfl); (focus omega); (focus omega)) | (apply P_sslice_hi; (focus rfl); (focus rfl); (focus rfl); (focus omega); (focus omega)) | (apply P_sslice; (focus rfl); (focus rfl); (focus rfl); (focus rfl); (focus omega); (focus omega); (focus omega)) | (apply P_quo; (focus rfl); (focus rfl); (focus omega); (focus rfl)) | (apply P_rem; (focus rfl); (focus rfl); (focus omega); (focus rfl)) | (apply P_and; (focus rfl); (focus rfl); (focus (first | assumption | exact u8_and63 _ (by omega) (by omega) | exact u8_and31 _ (by omega) (by omega) | exact u8_and15 _ (by omega) (by omega) | exact u8_and7 _ (by omega) (by omega) | exact and192 (by omega) (by omega) | rfl))) | (apply P_or; (focus rfl); (focus rfl); (focus (first | assumption | exact i32_or6 _ _ (by omega) (by omega) (by omega) (by omega) (by omega) | rfl))) | (apply P_xor; (focus rfl); (focus rfl); (focus rfl)) | (apply P_shl_1; (focus rfl); (focus rfl); (focus rfl); (focus (first | assumption | exact wi64 (by omega) (by omega) | exact wu64 (by omega) (by omega) | exact wi32 (by omega) (by omega) | exact wu8 (by omega) (by omega) | rfl))) | (apply P_shl_2; (focus rfl); (focus rfl); (focus rfl); (focus (first | assumption | exact wi64 (by omega) (by omega) | exact wu64 (by omega) (by omega) | exact wi32 (by omega) (by omega) | exact wu8 (by omega) (by omega) | rfl))) | (apply P_shl_3; (focus rfl); (focus rfl); (focus rfl); (focus (first | assumption | exact wi64 (by omega) (by omega) | exact wu64 (by omega) (by omega) | exact wi32 (by omega) (by omega) | exact wu8 (by omega) (by omega) | rfl))) | (apply P_shl_4; (focus rfl); (focus rfl); (focus rfl); (focus (first | assumption | exact wi64 (by omega) (by omega) | exact wu64 (by omega) (by omega) | exact wi32 (by omega) (by omega) | exact wu8 (by omega) (by omega) | rfl))) | (apply P_shl_5; (focus rfl); (focus rfl); (focus rfl); (focus (first | assumption | exact wi64 (by omega) (by omega) | exact wu64 (by omega) (by omega) | exact wi32 (by omega) (by omega) | exact wu8 (by omega) (by omega) | rfl))) | (apply P_shl_6; (focus rfl); (focus rfl); (focus rfl); (focus (first | assumption | exact wi64 (by omega) (by omega) | exact wu64 (by omega) (by omega) | exact wi32 (by omega) (by omega) | exact wu8 (by omega) (by omega) | rfl))) | (apply P_shl_7; (focus rfl); (focus rfl); (focus rfl); (focus (first | assumption | exact wi64 (by omega) (by omega) | exact wu64 (by omega) (by omega) | exact wi32 (by omega) (by omega) | exact wu8 (by omega) (by omega) | rfl))) | (apply P_shl_8; (focus rfl); (focus rfl); (focus rfl); (focus (first | assumption | exact wi64 (by omega) (by omega) | exact wu64 (by omega) (by omega) | exact wi32 (by omega) (by omega) | exact wu8 (by omega) (by omega) | rfl))) | (apply P_shl_16; (focus rfl); (focus rfl); (focus rfl); (focus (first | assumption | exact wi64 (by omega) (by omega) | exact wu64 (by omega) (by omega) | exact wi32 (by omega) (by omega) | exact wu8 (by omega) (by omega) | rfl))) | (apply P_shl_24; (focus rfl); (focus rfl); (focus rfl); (focus (first | assumption | exact wi64 (by omega) (by omega) | exact wu64 (by omega) (by omega) | exact wi32 (by omega) (by omega) | exact wu8 (by omega) (by omega) | rfl))) | (apply P_shl_32; (focus rfl); (focus rfl); (focus rfl); (focus (first | assumption | exact wi64 (by omega) (by omega) | exact wu64 (by omega) (by omega) | exact wi32 (by omega) (by omega) | exact wu8 (by omega) (by omega) | rfl))) | (apply P_shl_40; (focus rfl); (focus rfl); (focus rfl); (focus (first | assumption | exact wi64 (by omega) (by omega) | exact wu64 (by omega) (by omega) | exact wi32 (by omega) (by omega) | exact wu8 (by omega) (by omega) | rfl))) | (apply P_shl_48; (focus rfl); (focus rfl); (focus rfl); (focus (first | assumption | exact wi64 (by omega) (by omega) | exact wu64 (by omega) (by omega) | exact wi32 (by omega) (by omega) | exact wu8 (by omega) (by omega) | rfl))) | (apply P_shl_56; (focus rfl); (focus rfl); (focus rfl); (focus (first | assumption | exact wi64 (by omega) (by omega) | exact wu64 (by omega) (by omega) | exact wi32 (by omega) (by omega) | exact wu8 (by omega) (by omega) | rfl))) | (apply P_shr_1; (focus rfl); (focus rfl); (focus rfl)) | (apply P_shr_2; (focus rfl); (focus rfl); (focus rfl)) | (apply P_shr_3; (focus rfl); (focus rfl); (focus rfl)) | (apply P_shr_4; (focus rfl); (focus rfl); (focus rfl)) | (apply P_shr_5; (focus rfl); (focus rfl); (focus rfl)) | (apply P_shr_6; (focus rfl); (focus rfl); (focus rfl)) | (apply P_shr_7; (focus rfl); (focus rfl); (focus rfl)) | (apply P_shr_8; (focus rfl); (focus rfl); (focus rfl)) | (apply P_shr_16; (focus rfl); (focus rfl); (focus rfl)) | (apply P_shr_24; (focus rfl); (focus rfl); (focus rfl)) | (apply P_shr_32; (focus rfl); (focus rfl); (focus rfl)) | (apply P_shr_40; (focus rfl); (focus rfl); (focus rfl)) | (apply P_shr_48; (focus rfl); (focus rfl); (focus rfl)) | (apply P_shr_56; (focus rfl); (focus rfl); (focus rfl)))); (focus rfl)))
      apply Lst_nil
      apply seqQ_n
      apply W_seq
      refine W_cut2 (α := Id × Nat) (fun y => [(1, .int .i64 (n : Int)), (8, .pointer (some ⟨p, 0, none⟩)), (10, .pointer (some ⟨y.2, 0, none⟩))]) (fun y Z => y.1 = (if n = 0 then (0, 0) else (T.flat.getD (n - 1) default).id) ∧ A.heap.size ≤ y.2 ∧ Below A.heap.size A Z ∧ Blk Z y.2 [.int .u64 (((1 + q : Nat) : Int)), .int .u64 100000, .int .u64 (y.1.1 : Int), .int .u64 (y.1.2 : Int), .int .u64 (((0, 0) : Id).1 : Int), .int .u64 (((0, 0) : Id).2 : Int)] 34) ?_ ?_
      · (refine Ga ?_)
        rw [hq]
        (apply Lst_call; (focus rfl); (focus rfl))
        refine (c_id (1 + q) 100000 A).mono ?_
        rintro v' A1 ⟨rfl, hb1'⟩
        unfold idv idcs
        obtain ⟨W1, hW1⟩ : ∃ W1, (A1.alloc (.cells [.int .u64 0, .int .u64 0, .int .u64 0, .int .u64 0, .int .u64 0, .int .u64 0].toArray 34)).putObj A1.heap.size (.cells [.int .u64 (((1 + q : Nat) : Int)), .int .u64 ((100000 : Nat) : Int), .int .u64 0, .int .u64 0, .int .u64 0, .int .u64 0].toArray 34) = W1 := ⟨_, rfl⟩
        have bW1 : Below A.heap.size A W1 := by rw [← hW1]; have := hb1'.size; exact Bel
        have kW1 : Blk W1 A1.heap.size [.int .u64 (((1 + q : Nat) : Int)), .int .u64 ((100000 : Nat) : Int), .int .u64 0, .int .u64 0, .int .u64 0, .int .u64 0] 34 := by rw [← hW1]; exact (by (repeat (first | assumption | (apply Blk.below (hb := hb1); rotate_left; (focus ((try simp only [Sx.sizes]); omega)); rotate_right) | (apply Blk.below (hb := hb2); rotate_left; (focus ((try simp only [Sx.sizes]); omega)); rotate_right) | (apply Blk.below (hb := hb3); rotate_left; (focus ((try simp only [Sx.sizes]); omega)); rotate_right) | (apply Blk.below (hb := hb4); rotate_left; (focus ((try simp only [Sx.sizes]); omega)); rotate_right) | (apply Blk.below (hb := hb5); rotate_left; (focus ((try simp only [Sx.sizes]); omega)); rotate_right) | (apply Blk.below (hb := hb6); rotate_left; (focus ((try simp only [Sx.sizes]); omega)); rotate_right) | (apply Blk.below (hb := hb7); rotate_left; (focus ((try simp only [Sx.sizes]); omega)); rotate_right) | (apply Blk.below (hb := hb8); rotate_left; (focus ((try simp only [Sx.sizes]); omega)); rotate_right) | (apply Blk.below (hb := hb9); rotate_left; (focus ((try simp only [Sx.sizes]); omega)); rotate_right) | exact Blk.newE (by first | rfl | ((try simp only [Sx.sizes]); first | done | omega)) _ _ | exact Blk.put_same (by (try simp only [Sx.sizes]); first | done | omega) _ _ | (apply Blk.put_ne; (focus omega)) | apply Blk.alloc | apply Blk.drew)); done)
        have hAB : A.heap.size ≤ A1.heap.size := hb1'.size
        have hSW := hS.below bW1
        have lW1 := kW1.lt
        (refine Ga ?_)
        rw [hW1]
        clear hW1
        (apply Lst_call; (focus rfl); (focus rfl))
        refine (s_At ((n : Int) - 1) hSW).mono ?_
        rintro v B ⟨rfl, hbB⟩
        have kB := kW1.below hbB lW1
        have bB := bW1.trans (hbB.mono bW1.size)
        have lB := kB.lt
        have sB := hbB.size
        by_cases h0 : n = 0
        · rw [if_neg (show ¬ (0 ≤ (n : Int) - 1 ∧ (n : Int) - 1 < T.sz) by omega)]
          unfold ucs
          (refine Ga ?_)
          refine cutQ_n (α := Id × Nat) ((0, 0), A1.heap.size) ⟨(if_pos h0).symm, hAB, Bel, (by (repeat (first | assumption | (apply Blk.below (hb := hb1); rotate_left; (focus ((try simp only [Sx.sizes]); omega)); rotate_right) | (apply Blk.below (hb := hb2); rotate_left; (focus ((try simp only [Sx.sizes]); omega)); rotate_right) | (apply Blk.below (hb := hb3); rotate_left; (focus ((try simp only [Sx.sizes]); omega)); rotate_right) | (apply Blk.below (hb := hb4); rotate_left; (focus ((try simp only [Sx.sizes]); omega)); rotate_right) | (apply Blk.below (hb := hb5); rotate_left; (focus ((try simp only [Sx.sizes]); omega)); rotate_right) | (apply Blk.below (hb := hb6); rotate_left; (focus ((try simp only [Sx.sizes]); omega)); rotate_right) | (apply Blk.below (hb := hb7); rotate_left; (focus ((try simp only [Sx.sizes]); omega)); rotate_right) | (apply Blk.below (hb := hb8); rotate_left; (focus ((try simp only [Sx.sizes]); omega)); rotate_right) | (apply Blk.below (hb := hb9); rotate_left; (focus ((try simp only [Sx.sizes]); omega)); rotate_right) | exact Blk.newE (by first | rfl | ((try simp only [Sx.sizes]); first | done | omega)) _ _ | exact Blk.put_same (by (try simp only [Sx.sizes]); first | done | omega) _ _ | (apply Blk.put_ne; (focus omega)) | apply Blk.alloc | apply Blk.drew)); done)⟩ ⟨rfl, rfl, rfl, trivial⟩
        · rw [if_pos (show 0 ≤ (n : Int) - 1 ∧ (n : Int) - 1 < T.sz by omega), show ((n : Int) - 1).toNat = n - 1 by omega]
          obtain ⟨x, hx⟩ : ∃ x, T.flat.getD (n - 1) default = x := ⟨_, rfl⟩
          rw [hx]
          unfold ucs
          (refine Ga ?_)
          refine cutQ_n (α := Id × Nat) (x.id, A1.heap.size) ⟨by dsimp only; rw [if_neg h0], hAB, Bel, (by (repeat (first | assumption | (apply Blk.below (hb := hb1); rotate_left; (focus ((try simp only [Sx.sizes]); omega)); rotate_right) | (apply Blk.below (hb := hb2); rotate_left; (focus ((try simp only [Sx.sizes]); omega)); rotate_right) | (apply Blk.below (hb := hb3); rotate_left; (focus ((try simp only [Sx.sizes]); omega)); rotate_right) | (apply Blk.below (hb := hb4); rotate_left; (focus ((try simp only [Sx.sizes]); omega)); rotate_right) | (apply Blk.below (hb := hb5); rotate_left; (focus ((try simp only [Sx.sizes]); omega)); rotate_right) | (apply Blk.below (hb := hb6); rotate_left; (focus ((try simp only [Sx.sizes]); omega)); rotate_right) | (apply Blk.below (hb := hb7); rotate_left; (focus ((try simp only [Sx.sizes]); omega)); rotate_right) | (apply Blk.below (hb := hb8); rotate_left; (focus ((try simp only [Sx.sizes]); omega)); rotate_right) | (apply Blk.below (hb := hb9); rotate_left; (focus ((try simp only [Sx.sizes]); omega)); rotate_right) | exact Blk.newE (by first | rfl | ((try simp only [Sx.sizes]); first | done | omega)) _ _ | exact Blk.put_same (by (try simp only [Sx.sizes]); first | done | omega) _ _ | (apply Blk.put_ne; (focus omega)) | apply Blk.alloc | apply Blk.drew)); done)⟩ ⟨rfl, rfl, rfl, trivial⟩
      · rintro J ⟨l, B8⟩ Z ⟨hle, hAB, bZ, kZ⟩
        dsimp only at hle hAB kZ ⊢
        apply W_seq
        refine W_cutS (α := Id) (fun _ => [(1, .int .i64 (n : Int)), (8, .pointer (some ⟨p, 0, none⟩)), (10, .pointer (some ⟨B8, 0, none⟩))]) (fun r Z => r = (if n = T.sz then (0, 0) else (T.flat.getD n default).id) ∧ Below A.heap.size A Z ∧ Blk Z B8 [.int .u64 (((1 + q : Nat) : Int)), .int .u64 100000, .int .u64 (l.1 : Int), .int .u64 (l.2 : Int), .int .u64 (r.1 : Int), .int .u64 (r.2 : Int)] 34) ?_ ?_
        · have hSZ := hS.below bZ
          have lZ := kZ.lt
          (refine Ga ?_)
          (apply Lst_call; (focus rfl); (focus rfl))
          refine (s_At (n : Int) hSZ).mono ?_
          rintro v B ⟨rfl, hbB⟩
          have kB := kZ.below hbB lZ
          have bB := bZ.trans (hbB.mono bZ.size)
          have lB := kB.lt
          have sB := hbB.size
          by_cases h0 : n = T.sz
          · rw [if_neg (show ¬ (0 ≤ (n : Int) ∧ (n : Int) < T.sz) by omega)]
            unfold ucs
            (refine Ga ?_)
            refine cutQ_n (α := Id) (0, 0) ⟨(if_pos h0).symm, Bel, (by (repeat (first | assumption | (apply Blk.below (hb := hb1); rotate_left; (focus ((try simp only [Sx.sizes]); omega)); rotate_right) | (apply Blk.below (hb := hb2); rotate_left; (focus ((try simp only [Sx.sizes]); omega)); rotate_right) | (apply Blk.below (hb := hb3); rotate_left; (focus ((try simp only [Sx.sizes]); omega)); rotate_right) | (apply Blk.below (hb := hb4); rotate_left; (focus ((try simp only [Sx.sizes]); omega)); rotate_right) | (apply Blk.below (hb := hb5); rotate_left; (focus ((try simp only [Sx.sizes]); omega)); rotate_right) | (apply Blk.below (hb := hb6); rotate_left; (focus ((try simp only [Sx.sizes]); omega)); rotate_right) | (apply Blk.below (hb := hb7); rotate_left; (focus ((try simp only [Sx.sizes]); omega)); rotate_right) | (apply Blk.below (hb := hb8); rotate_left; (focus ((try simp only [Sx.sizes]); omega)); rotate_right) | (apply Blk.below (hb := hb9); rotate_left; (focus ((try simp only [Sx.sizes]); omega)); rotate_right) | exact Blk.newE (by first | rfl | ((try simp only [Sx.sizes]); first | done | omega)) _ _ | exact Blk.put_same (by (try simp only [Sx.sizes]); first | done | omega) _ _ | (apply Blk.put_ne; (focus omega)) | apply Blk.alloc | apply Blk.drew)); done)⟩ ⟨rfl, rfl, rfl, trivial⟩
          · rw [if_pos (show 0 ≤ (n : Int) ∧ (n : Int) < T.sz by omega), Int.toNat_natCast]
            obtain ⟨x, hx⟩ : ∃ x, T.flat.getD n default = x := ⟨_, rfl⟩
            rw [hx]
            unfold ucs
            (refine Ga ?_)
            refine cutQ_n (α := Id) x.id ⟨by rw [if_neg h0], Bel, (by (repeat (first | assumption | (apply Blk.below (hb := hb1); rotate_left; (focus ((try simp only [Sx.sizes]); omega)); rotate_right) | (apply Blk.below (hb := hb2); rotate_left; (focus ((try simp only [Sx.sizes]); omega)); rotate_right) | (apply Blk.below (hb := hb3); rotate_left; (focus ((try simp only [Sx.sizes]); omega)); rotate_right) | (apply Blk.below (hb := hb4); rotate_left; (focus ((try simp only [Sx.sizes]); omega)); rotate_right) | (apply Blk.below (hb := hb5); rotate_left; (focus ((try simp only [Sx.sizes]); omega)); rotate_right) | (apply Blk.below (hb := hb6); rotate_left; (focus ((try simp only [Sx.sizes]); omega)); rotate_right) | (apply Blk.below (hb := hb7); rotate_left; (focus ((try simp only [Sx.sizes]); omega)); rotate_right) | (apply Blk.below (hb := hb8); rotate_left; (focus ((try simp only [Sx.sizes]); omega)); rotate_right) | (apply Blk.below (hb := hb9); rotate_left; (focus ((try simp only [Sx.sizes]); omega)); rotate_right) | exact Blk.newE (by first | rfl | ((try simp only [Sx.sizes]); first | done | omega)) _ _ | exact Blk.put_same (by (try simp only [Sx.sizes]); first | done | omega) _ _ | (apply Blk.put_ne; (focus omega)) | apply Blk.alloc | apply Blk.drew)); done)⟩ ⟨rfl, rfl, rfl, trivial⟩
        · clear kZ bZ
          rintro J r Z ⟨hre, bZ, kZ⟩
          have hSZ := hS.below bZ
          have lZ := kZ.lt
          obtain ⟨u, hue⟩ : ∃ u : Un, u = ⟨(1 + q, 100000), l, r⟩ := ⟨_, rfl⟩
          have kZ : Blk Z B8 (ucs u) 34 := by rw [hue]; exact kZ
          have hul : u.l = l := by rw [hue]
          have hur : u.r = r := by rw [hue]
          have hui : u.id = (1 + q, 100000) := by rw [hue]
          have nz : ∀ k, k ∈ T.ids → k ≠ Fo.none' := fun k hk e => hT0.none (e ▸ hk)
          have hL : (n = 0 ∧ u.l = Fo.none') ∨ (0 < n ∧ u.l ∈ T.ids ∧ T.pos u.l + 1 = n) := by
            rw [hul, hle]
            by_cases h0 : n = 0
            · exact .inl ⟨h0, if_pos h0⟩
            · rw [if_neg h0]
              obtain ⟨q1, q2⟩ := Fo.pos_get hT0.nd (n := n - 1) (by omega)
              exact .inr ⟨by omega, q2, by rw [q1]; omega⟩
          have hR : (n = T.sz ∧ u.r = Fo.none') ∨ (n < T.sz ∧ u.r ∈ T.ids ∧ T.pos u.r = n) := by
            rw [hur, hre]
            by_cases h0 : n = T.sz
            · exact .inl ⟨h0, if_pos h0⟩
            · rw [if_neg h0]
              obtain ⟨q1, q2⟩ := Fo.pos_get hT0.nd (n := n) (by omega)
              exact .inr ⟨by omega, q2, q1⟩
          have hM : Fo.May T u := by
            refine ⟨⟨?_, ?_, ?_, ?_⟩, ?_⟩
            · rw [hui]
              unfold Fo.rightId Fo.num
              simp
              omega
            · intro hm
              have := hids _ hm
              rw [hui] at this
              simp at this
            · exact hL.imp (fun h => h.2) fun h => h.2.1
            · exact hR.imp (fun h => h.2) fun h => h.2.1
            · rcases hL with h | h
              · exact .inl h.2
              · rcases hR with k | k
                · exact .inr (.inl k.2)
                · exact .inr (.inr (by omega))
          obtain ⟨ρ, hfit⟩ := hS.fits
          have hpos := Fo.put_at hT0 hfit hM (n := n) (fun e => by
            rcases hL with h | h
            · exact h.1
            · exact absurd e (nz _ h.2.1)) (fun e => by
            rcases hL with h | h
            · exact absurd h.2 e
            · exact h.2.2) (fun e => by
            rcases hR with h | h
            · exact h.1
            · exact absurd e (nz _ h.2.1)) (fun e => by
            rcases hR with h | h
            · exact absurd h.2 e
            · exact h.2.2)
          have hmay := Fo.may_iff.2 hM
          have hmem : u.id ∈ (Fo.put T u).ids := (Fo.put_ids hT0.nd _).2 (.inl rfl)
          have hn8 : ¬ F B8 := fun hf => by have := hS.lt hf; omega
          have kZ' := kZ
          unfold ucs at kZ'
          (refine Ga ?_)
          (apply Lst_call; (focus rfl); (focus rfl))
          refine (c_Insert u p F T Z (by omega) hSZ).mono ?_
          rintro v D ⟨rfl, F', hSD, hT⟩
          have hi : (Fo.insert T u).1 = Fo.put T u := by unfold Fo.insert; rw [hmay]; rfl
          rw [hi] at hSD
          rw [hmay]
          have kD := hT.blk kZ hn8
          have lD := kD.lt
          have hszD : (Fo.put T u).sz ≤ 1000000000 := by rw [Fo.put_sz hT0.nd]; omega
          have lowZ := hT.low hlow (Nat.le_trans hbA.size bZ.size)
          have bD : Below w.heap.size w D := (bA.trans (bZ.mono bA.size)).trans (lowZ.2.mono b2.size)
          unfold ucs at kD
          (refine Ga ?_)
          (apply Lst_call; (focus rfl); (focus rfl))
          refine (s_Find u.id hszD hSD).mono ?_
          rintro v E ⟨rfl, hSE, hTE⟩
          rw [if_pos hmem, hpos]
          have lowE := hTE.low lowZ.1 (Nat.le_trans (Nat.le_trans hbA.size bZ.size) hT.size)
          (refine Ga ?_)
          (apply retQ1; (focus rfl))
          exact ⟨rfl, bD.trans (lowE.2.mono b2.size)⟩
  · (refine Ga ?_)
    (apply retQ1; (focus rfl))
    exact ⟨rfl, hb1⟩
end Sq
end Go.Proofs.Ytmammcgdjjldbaa
