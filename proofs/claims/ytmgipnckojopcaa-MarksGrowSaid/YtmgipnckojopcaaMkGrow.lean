/- MarksGrow's walk. -/
import Derived.Test.YtmgipnckojopcaaMkEnds
namespace Go.Proofs.Ytmgipnckojopcaa
set_option maxRecDepth 100000
namespace Mk
open Go Go.RowKit Sx Tl Sq Val
/-- What is put in ahead of the unit in this place. -/
def vU (n j : Nat) : Un := ⟨(2, j + 1), if j = 0 then (0, 0) else (1, j), if j < n then (1, j + 1) else (0, 0)⟩
def gA (n i : Nat) : List Un := (List.range i).flatMap fun j => [vU n j, nxs kU j]
def gB (n i : Nat) : List Un := ((List.range n).drop i).map (nxs kU)
theorem gA_succ (n i : Nat) : gA n (i + 1) = gA n i ++ [vU n i, nxs kU i] := by
  unfold gA
  rw [List.range_succ, List.flatMap_append]
  simp
theorem gA_len (n : Nat) : ∀ i, (gA n i).length = 2 * i
  | 0 => rfl
  | i + 1 => by
    rw [gA_succ, List.length_append, gA_len n i]
    simp only [List.length_cons, List.length_nil]
    omega
theorem gB_cons {n i : Nat} (h : i < n) : gB n i = nxs kU i :: gB n (i + 1) := by
  unfold gB
  rw [List.drop_eq_getElem_cons (by rw [List.length_range]; exact h), List.map_cons, List.getElem_range]
theorem gB_end (n : Nat) : gB n n = [] := by
  unfold gB
  rw [List.drop_of_length_le (by rw [List.length_range]; exact Nat.le_refl _)]
  rfl
theorem gB_zero (n : Nat) : gB n 0 = (List.range n).map (nxs kU) := rfl
theorem nx_id (j : Nat) : (nxs kU j).id = (1, j + 1) := by
  unfold nxs kU
  dsimp only
  rw [Nat.add_comm]
/-- In the prefix of the whole. -/
theorem gA_split {n f m : Nat} (h : f < m) : ∃ C, gA n m = gA n f ++ vU n f :: nxs kU f :: C := by
  induction m with
  | zero => omega
  | succ m ih =>
    rcases Nat.lt_succ_iff_lt_or_eq.1 h with h | rfl
    · obtain ⟨C, hC⟩ := ih h
      exact ⟨C ++ [vU n m, nxs kU m], by rw [gA_succ, hC]; simp⟩
    · exact ⟨[], by rw [gA_succ]⟩
theorem gA_ids {n : Nat} : ∀ (i : Nat) (u : Un), u ∈ gA n i → (∃ j, j < i ∧ u.id = (2, j + 1)) ∨ ∃ j, j < i ∧ u.id = (1, j + 1)
  | 0, u, h => by cases h
  | i + 1, u, h => by
    rw [gA_succ, List.mem_append, List.mem_cons, List.mem_singleton] at h
    rcases h with h | rfl | rfl
    · rcases gA_ids i u h with ⟨j, hj, e⟩ | ⟨j, hj, e⟩
      · exact .inl ⟨j, by omega, e⟩
      · exact .inr ⟨j, by omega, e⟩
    · exact .inl ⟨i, by omega, rfl⟩
    · exact .inr ⟨i, by omega, nx_id i⟩
theorem grow_step {t : Fo} {n i : Nat} (hg : Fo.Good t) (hF : ∃ ρ, Fo.Fits ρ none t) (hf : t.flat = gA n i ++ gB n i) (hi : i ≤ n) (hn : n ≤ 1000) :
    Fo.may t (vU n i) = true ∧ (Fo.insert t (vU n i)).1.flat = gA n i ++ vU n i :: gB n i := by
  have hs : Site t (vU n i) (gA n i) (gB n i) 1 := by
    refine ⟨hg, hF, hf, ?_, ?_, fun j hj hm => ?_, by unfold vU; dsimp only; omega⟩
    · cases i with
      | zero => exact .inl ⟨rfl, rfl⟩
      | succ i =>
        refine .inr ⟨gA n i ++ [vU n i], nxs kU i, by rw [gA_succ]; simp, ?_⟩
        rw [nx_id]
        rfl
    · by_cases h : i < n
      · refine .inr ⟨nxs kU i, gB n (i + 1), gB_cons h, ?_⟩
        rw [nx_id]
        unfold vU
        dsimp only
        rw [if_pos h]
      · obtain rfl : i = n := by omega
        refine .inl ⟨?_, gB_end i⟩
        unfold vU
        dsimp only
        rw [if_neg h]
        rfl
    · unfold Fo.ids at hm
      rw [hf] at hm
      obtain ⟨u, hu, e⟩ := List.mem_map.1 hm
      have e0 : u.id = (2, i + 1 + j) := e
      rcases List.mem_append.1 hu with hu | hu
      · rcases gA_ids i u hu with ⟨k, hk, e'⟩ | ⟨k, hk, e'⟩
        · rw [e'] at e0
          injection e0 with _ e0
          omega
        · rw [e'] at e0
          injection e0 with e0 _
          omega
      · unfold gB at hu
        obtain ⟨k, _, rfl⟩ := List.mem_map.1 hu
        rw [nx_id] at e0
        injection e0 with e0 _
        omega
  have hmay := (site_run hs 0 (by omega)).2 (by omega)
  rw [trun_zero, nxs_zero] at hmay
  have hm := Fo.may_iff.2 hmay
  have hfl := (site_run hs 1 (Nat.le_refl _)).1.2.2
  have hins : (Fo.insert t (vU n i)).1 = trun t (vU n i) 1 := by
    unfold Fo.insert
    rw [hm, trun_succ, trun_zero, nxs_zero]
    rfl
  refine ⟨hm, ?_⟩
  rw [hins, hfl]
  simp [nxs_zero]
/-- The run, and its order. -/
theorem grow_run {n : Nat} (h1 : 1 ≤ n) (h2 : n ≤ 1000) : runOk .nil kU (n : Int) = true ∧ (runR .nil kU (n : Int)).flat = gA n 0 ++ gB n 0 := by
  have hs : Site .nil kU [] [] n := ⟨Fo.Good.nil, ⟨fun _ => ⟨default, none, [], [], 0⟩, trivial⟩, rfl, .inl ⟨rfl, rfl⟩, .inl ⟨rfl, rfl⟩, (fun i _ h => by cases h), by unfold kU; dsimp only; omega⟩
  have hok : runOk .nil kU (n : Int) = true := by
    unfold runOk
    rw [decide_eq_true (show (1 : Int) ≤ (n : Int) by omega), show Fo.rightId kU.id = true from rfl, decide_eq_true (show (n : Int) ≤ 9007199254740991 - (kU.id.2 : Int) + 1 by unfold kU; dsimp only; omega), show Fo.may .nil kU = true from rfl, Int.toNat_natCast]
    have : freeTo .nil kU n = true := free_iff.2 fun i _ h => by cases h
    rw [this]
    rfl
  refine ⟨hok, ?_⟩
  rw [runR_trun hok, Int.toNat_natCast, (site_run hs n (Nat.le_refl _)).1.2.2]
  show [] ++ _ ++ [] = [] ++ gB n 0
  rw [List.append_nil, gB_zero]
/-- What the mark is over, when all are in. -/
theorem grow_over {t : Fo} {n f g : Nat} (hn : t.ids.Nodup) (hf : t.flat = gA n n ++ [vU n n]) (h1 : f ≤ g) (h2 : g < n) : overV t ⟨(1, f + 1), false⟩ ⟨(1, g + 1), true⟩ = (2 * f + 1, 2 * g + 2) := by
  have hpos : ∀ k, k < n → t.pos (1, k + 1) = 2 * k + 1 ∧ (1, k + 1) ∈ t.ids := fun k hk => by
    obtain ⟨C, hC⟩ := gA_split (n := n) hk
    have hfl : t.flat = (gA n k ++ [vU n k]) ++ nxs kU k :: (C ++ [vU n n]) := by rw [hf, hC]; simp
    have h := Fo.pos_at hn hfl
    rw [nx_id, List.length_append, gA_len] at h
    refine ⟨h, ?_⟩
    unfold Fo.ids
    rw [hfl]
    simp [nx_id]
  have hgap : ∀ k b, k < n → gapV t ⟨(1, k + 1), b⟩ = (2 * k + 1 + (if b then 1 else 0), true) := fun k b hk => by
    obtain ⟨h1, h2⟩ := hpos k hk
    unfold gapV
    dsimp only
    rw [if_neg (by intro e; injection e with e _; cases e), if_pos h2, h1]
  unfold overV
  rw [hgap f false (by omega), hgap g true h2]
  rw [if_pos ⟨rfl, rfl, by simp; omega⟩]
  simp
def oG (f g : Nat) : Mo := mkO 1 1 kk 5 ⟨(1, f + 1), false⟩ ⟨(1, g + 1), true⟩
theorem grow_all {t : Fo} {n f g : Nat} (hn : t.ids.Nodup) (hf : t.flat = gA n n ++ [vU n n]) (h1 : f ≤ g) (h2 : g < n) : allL t [oG f g] = (List.range t.sz).map fun k => if 2 * f < k ∧ k < 2 * g + 2 then [(kk, ⟨2, 5, 0, ⟨#[]⟩⟩)] else [] := by
  unfold allL
  refine List.map_congr_left fun k _ => ?_
  have hov := grow_over hn hf h1 h2
  have hon : onV t (k : Int) (oG f g) = decide (2 * f < k ∧ k < 2 * g + 2) := by
    unfold onV
    rw [show overV t (oG f g).fr (oG f g).to = (2 * f + 1, 2 * g + 2) from hov]
    rw [decide_eq_true (show (oG f g).k = 3 from rfl), Bool.true_and, ← Bool.decide_and]
    exact decide_eq_decide.2 (by dsimp only; omega)
  rw [best_one, hon]
  by_cases h : 2 * f < k ∧ k < 2 * g + 2
  · rw [decide_eq_true h, if_pos rfl, if_pos h, told_one, if_neg (by show ¬ (2 : Int) = 0; decide)]
    rfl
  · rw [decide_eq_false h, if_neg (by simp), if_neg h, told_nil]
theorem grow_sz {t : Fo} {n : Nat} (hf : t.flat = gA n n ++ [vU n n]) : t.sz = 2 * n + 1 := by
  have h : t.flat.length = t.sz := rfl
  rw [hf, List.length_append, gA_len] at h
  exact h.symm
section
attribute [local irreducible] RnS
attribute [local irreducible] W Lst Qst Pu seqQ blkQ rndQ cutQ retQ Does Enters IntKind.wrap bits sb World.alloc World.putObj Blk
set_option maxHeartbeats 1000000 in
theorem c_at (i : Nat) (hi : i ≤ 1000) (w : World) : Does Try.prog 19 #[.int .i64 (i : Int)] w fun v w' => v = .agg #[.int .u64 1, .int .u64 ((i : Int) + 1)] ∧ Below w.heap.size w w' := by
  refine Does_of (args := [.int .i64 (i : Int)]) Try.func19 (by kernel_rfl) rfl rfl rfl rfl rfl ?_
  (refine Ga ?_)
  (refine Reta ?_)
  exact ⟨rfl, Bel⟩
set_option maxHeartbeats 4000000 in
theorem law_MarksGrow (n0 f0 g0 : Int) (w : World) :
    Does Try.prog 5 #[.int .i64 n0, .int .i64 f0, .int .i64 g0] w fun v w' => v = .bool true ∧ Below w.heap.size w w' := by
  refine Does_of (args := [.int .i64 n0, .int .i64 f0, .int .i64 g0]) Try.func5 (by kernel_rfl) rfl rfl rfl rfl rfl ?_
  (refine Ga ?_)
  (apply Lst_call; (focus rfl); (focus rfl))
  refine (c_known w).mono ?_
  rintro v w1 ⟨rfl, hb1⟩
  (refine Ga ?_)
  (apply Lst_call; (focus rfl); (focus rfl))
  refine (Wire.h_Place n0 20 w1 (by omega) (by omega)).mono ?_
  rintro v w' ⟨rfl, rfl⟩
  obtain ⟨n, hn, hn1, hn2⟩ : ∃ n : Nat, 2 + n0 % 20 = (n : Int) ∧ 2 ≤ n ∧ n ≤ 21 := ⟨(2 + n0 % 20).toNat, by omega, by omega, by omega⟩
  have hm0 : 0 ≤ n0 % 20 ∧ n0 % 20 < 20 := by omega
  (refine Ga ?_)
  rw [hn]
  (apply Lst_call; (focus rfl); (focus rfl))
  refine (Wire.h_Place f0 (n : Int) w1 (by omega) (by omega)).mono ?_
  rintro v w' ⟨rfl, rfl⟩
  obtain ⟨f1, hf1, hf2⟩ : ∃ k : Nat, f0 % (n : Int) = (k : Int) ∧ k < n := ⟨(f0 % (n : Int)).toNat, by have := Int.emod_nonneg f0 (show (n : Int) ≠ 0 by omega); omega, by have := Int.emod_lt_of_pos f0 (show 0 < (n : Int) by omega); have := Int.emod_nonneg f0 (show (n : Int) ≠ 0 by omega); omega⟩
  rw [hf1]
  (refine Ga ?_)
  (apply Lst_call; (focus rfl); (focus rfl))
  refine (Wire.h_Place g0 (n : Int) w1 (by omega) (by omega)).mono ?_
  rintro v w' ⟨rfl, rfl⟩
  obtain ⟨g1, hg1, hg2⟩ : ∃ k : Nat, g0 % (n : Int) = (k : Int) ∧ k < n := ⟨(g0 % (n : Int)).toNat, by have := Int.emod_nonneg g0 (show (n : Int) ≠ 0 by omega); omega, by have := Int.emod_lt_of_pos g0 (show 0 < (n : Int) by omega); have := Int.emod_nonneg g0 (show (n : Int) ≠ 0 by omega); omega⟩
  rw [hg1]
  clear hm0 hn hf1 hg1
  (refine Ga ?_)
  -- printed by gen_grow.py
  refine Lst_cut2 (α := Nat × Nat) (fun x => [(0, .int .i64 (n : Int)), (1, .int .i64 (x.1 : Int)), (2, .int .i64 (x.2 : Int))]) (fun x A => w1 = A ∧ x.1 ≤ x.2 ∧ x.2 < n) ?_ ?_
  · by_cases hle : f1 ≤ g1
    · (refine Ga ?_)
      exact cutQ_n (f1, g1) ⟨rfl, hle, hg2⟩ ⟨rfl, rfl, rfl, trivial⟩
    · (refine Ga ?_)
      exact cutQ_n (g1, f1) ⟨rfl, by dsimp only; omega, hf2⟩ ⟨rfl, rfl, rfl, trivial⟩
  rintro J ⟨f, g⟩ A ⟨rfl, hfg, hgn⟩
  dsimp only at hfg hgn ⊢
  clear hf2 hg2 f1 g1 f0 g0 n0
  (refine Ga ?_)
  (apply Lst_call; (focus rfl); (focus rfl))
  refine (c_New w1).mono ?_
  rintro v w2 ⟨p, F0, rfl, hS2, hlow2, hb2⟩
  (refine Ga ?_)
  (apply Lst_call; (focus rfl); (focus rfl))
  refine (c_at 0 (by omega) w2).mono ?_
  rintro v w3 ⟨rfl, hb3⟩
  have hS3 := hS2.below hb3
  have b3 := hb2.trans (hb3.mono hb2.size)
  obtain ⟨hok, hfl0⟩ := grow_run (n := n) (by omega) (by omega)
  have hrsz := runR_sz (t := .nil) (u := kU) (n := (n : Int)) Fo.Good.nil ⟨fun _ => ⟨default, none, [], [], 0⟩, trivial⟩
  (refine Ga ?_)
  (apply Lst_call; (focus rfl); (focus rfl))
  refine (c_Run kU (n : Int) p F0 .nil w3 (by rw [nil_sz]; omega) (by omega) hS3).mono ?_
  rintro v w4 ⟨rfl, F1, hS4, hT4⟩
  rw [hok]
  have low4 := hT4.low hlow2 b3.size
  have b4 := b3.trans low4.2
  have low41 := low4.1
  clear low4 hS2 hS3 hT4 hlow2 hb2 hb3 b3
  (refine Ga ?_)
  (apply Lst_call; (focus rfl); (focus rfl))
  refine (c_at f (by omega) w4).mono ?_
  rintro v w5 ⟨rfl, hb5⟩
  (refine Ga ?_)
  (apply Lst_call; (focus rfl); (focus rfl))
  refine (c_at g (by omega) w5).mono ?_
  rintro v w6 ⟨rfl, hb6⟩
  (refine Ga ?_)
  (apply Lst_call; (focus rfl); (focus rfl))
  refine (c_mark 1 1 kk 5 ⟨(1, f + 1), false⟩ ⟨(1, g + 1), true⟩ w6).mono ?_
  rintro v w7 ⟨rfl, hb7⟩
  have b47 : Below w4.heap.size w4 w7 := (hb5.trans (hb6.mono hb5.size)).trans (hb7.mono (hb5.trans (hb6.mono hb5.size)).size)
  have hS7 := hS4.below b47
  have b7 := b4.trans (b47.mono b4.size)
  unfold ocs mkO
  (refine Ga ?_)
  (apply Lst_slit; (focus rfl); (focus rfl); (focus rfl); (focus rfl); (focus rfl); (focus rfl); (focus rfl); (focus rfl); (focus rfl); (focus (repeat (first | apply FillO.nil | (apply FillO.cons; (focus constructor); (focus rfl); (focus rfl); (focus (repeat constructor)))))); (focus ((try simp only [Sx.sizes]); first | done | rfl)); (focus rfl))
  refine Lst_abs (fun A => Below w7.heap.size w7 A ∧ Blk A w7.heap.size (ocs (mkO 1 1 kk 5 ⟨(1, f + 1), false⟩ ⟨(1, g + 1), true⟩)) 32) ⟨Bel, (by (repeat (first | assumption | (apply Blk.below (hb := hb1); rotate_left; (focus ((try simp only [Sx.sizes]); omega)); rotate_right) | (apply Blk.below (hb := hb2); rotate_left; (focus ((try simp only [Sx.sizes]); omega)); rotate_right) | (apply Blk.below (hb := hb3); rotate_left; (focus ((try simp only [Sx.sizes]); omega)); rotate_right) | (apply Blk.below (hb := hb4); rotate_left; (focus ((try simp only [Sx.sizes]); omega)); rotate_right) | (apply Blk.below (hb := hb5); rotate_left; (focus ((try simp only [Sx.sizes]); omega)); rotate_right) | (apply Blk.below (hb := hb6); rotate_left; (focus ((try simp only [Sx.sizes]); omega)); rotate_right) | (apply Blk.below (hb := hb7); rotate_left; (focus ((try simp only [Sx.sizes]); omega)); rotate_right) | (apply Blk.below (hb := hb8); rotate_left; (focus ((try simp only [Sx.sizes]); omega)); rotate_right) | (apply Blk.below (hb := hb9); rotate_left; (focus ((try simp only [Sx.sizes]); omega)); rotate_right) | exact Blk.newE (by first | rfl | ((try simp only [Sx.sizes]); first | done | omega)) _ _ | exact Blk.put_same (by (try simp only [Sx.sizes]); first | done | omega) _ _ | (apply Blk.put_ne; (focus omega)) | apply Blk.alloc | apply Blk.drew)); done)⟩ ?_
  rintro w8 ⟨hb8, k9⟩
  have hS8 := hS7.below hb8
  have b8 := b7.trans (hb8.mono b7.size)
  have hn9 : ¬ F1 w7.heap.size := fun hf => by have := hS7.lt hf; omega
  generalize w7.heap.size = b9 at *
  generalize runR .nil kU (n : Int) = t0 at *
  clear hS7 hS4 hb8 hb7 hb6 hb5 b47 b7
  (refine Ga ?_)
  refine W_loop (α := Nat × (Nat → Prop) × Fo) (fun x => [(0, .int .i64 (n : Int)), (1, .int .i64 (f : Int)), (2, .int .i64 (g : Int)), (7, .pointer (some ⟨p, 0, none⟩)), (8, .func (.func 19) #[] #[]), (9, .slice (some ⟨b9, 0, none⟩) 1 1), (10, .int .i64 (x.1 : Int))])
    (fun x A => x.1 ≤ n + 1 ∧ SqAt A p x.2.1 x.2.2 ∧ (∀ g, x.2.1 g → w1.heap.size ≤ g) ∧ Below w1.heap.size w1 A ∧ ¬ x.2.1 b9 ∧ Blk A b9 (ocs (mkO 1 1 kk 5 ⟨(1, f + 1), false⟩ ⟨(1, g + 1), true⟩)) 32 ∧ (x.1 ≤ n → x.2.2.flat = gA n x.1 ++ gB n x.1) ∧ (x.1 = n + 1 → x.2.2.flat = gA n n ++ [vU n n])) (fun x _ => n + 1 - x.1) (0, F1, t0)
    ⟨by dsimp only; omega, hS8, low41, b8, hn9, k9, fun _ => hfl0, fun e => by dsimp only at e; omega⟩ ⟨rfl, rfl, rfl, rfl, rfl, rfl, rfl, trivial⟩ ?_
  clear hS8 low41 b8 hn9 k9 hfl0 hrsz b4
  rintro J ⟨i, F, t⟩ A ⟨hi, hS, hlow, hbA, hn9, k9, hfa, hfz⟩
  dsimp only at hi hS hlow hbA hn9 k9 hfa hfz ⊢
  by_cases hil : i ≤ n
  · obtain ⟨hmay, hflat⟩ := grow_step hS.good hS.fits (hfa hil) hil (by omega)
    have hts : t.sz ≤ 100 := by
      have h1 : t.flat.length = t.sz := rfl
      rw [hfa hil, List.length_append, gA_len] at h1
      unfold gB at h1
      rw [List.length_map, List.length_drop, List.length_range] at h1
      omega
    by_cases hz : i = 0
    · have hin : i < n := by omega
      have hvu : vU n i = ⟨(2, i + 1), (0, 0), (1, i + 1)⟩ := by unfold vU; rw [if_pos hz, if_pos hin]
      (refine Ga ?_)
      refine Lst_abs (fun B => Below A.heap.size A B ∧ Blk B A.heap.size (ucs ⟨(2, i + 1), (0, 0), (0, 0)⟩) 53) ⟨Bel, (by (repeat (first | assumption | (apply Blk.below (hb := hb1); rotate_left; (focus ((try simp only [Sx.sizes]); omega)); rotate_right) | (apply Blk.below (hb := hb2); rotate_left; (focus ((try simp only [Sx.sizes]); omega)); rotate_right) | (apply Blk.below (hb := hb3); rotate_left; (focus ((try simp only [Sx.sizes]); omega)); rotate_right) | (apply Blk.below (hb := hb4); rotate_left; (focus ((try simp only [Sx.sizes]); omega)); rotate_right) | (apply Blk.below (hb := hb5); rotate_left; (focus ((try simp only [Sx.sizes]); omega)); rotate_right) | (apply Blk.below (hb := hb6); rotate_left; (focus ((try simp only [Sx.sizes]); omega)); rotate_right) | (apply Blk.below (hb := hb7); rotate_left; (focus ((try simp only [Sx.sizes]); omega)); rotate_right) | (apply Blk.below (hb := hb8); rotate_left; (focus ((try simp only [Sx.sizes]); omega)); rotate_right) | (apply Blk.below (hb := hb9); rotate_left; (focus ((try simp only [Sx.sizes]); omega)); rotate_right) | exact Blk.newE (by first | rfl | ((try simp only [Sx.sizes]); first | done | omega)) _ _ | exact Blk.put_same (by (try simp only [Sx.sizes]); first | done | omega) _ _ | (apply Blk.put_ne; (focus omega)) | apply Blk.alloc | apply Blk.drew)); done)⟩ ?_
      rintro B ⟨hbB, kb⟩
      have hSB := hS.below hbB
      have bB := hbA.trans (hbB.mono hbA.size)
      have k9B := k9.below hbB k9.lt
      have nbb : ¬ F A.heap.size := fun hf => by have := hS.lt hf; omega
      have hbb9 : b9 ≠ A.heap.size := by have := k9.lt; omega
      have lbu : w1.heap.size ≤ A.heap.size := hbA.size
      generalize A.heap.size = bu at *
      (apply Lst_call; (focus rfl); (focus rfl))
      refine (c_at i (by omega) B).mono ?_
      rintro v C ⟨rfl, hbC⟩
      have hSC := hSB.below hbC
      have bC := bB.trans (hbC.mono bB.size)
      have kC := kb.below hbC kb.lt
      have k9C := k9B.below hbC k9B.lt
      have lC := kC.lt
      have sC := bC.size
      unfold ucs at kC
      (refine Ga ?_)
      refine Lst_abs (fun B' => SqAt B' p F t ∧ Below w1.heap.size w1 B' ∧ Blk B' b9 (ocs (mkO 1 1 kk 5 ⟨(1, f + 1), false⟩ ⟨(1, g + 1), true⟩)) 32) ⟨SqAt.putF hSC nbb _, Bel, (by (repeat (first | assumption | (apply Blk.below (hb := hb1); rotate_left; (focus ((try simp only [Sx.sizes]); omega)); rotate_right) | (apply Blk.below (hb := hb2); rotate_left; (focus ((try simp only [Sx.sizes]); omega)); rotate_right) | (apply Blk.below (hb := hb3); rotate_left; (focus ((try simp only [Sx.sizes]); omega)); rotate_right) | (apply Blk.below (hb := hb4); rotate_left; (focus ((try simp only [Sx.sizes]); omega)); rotate_right) | (apply Blk.below (hb := hb5); rotate_left; (focus ((try simp only [Sx.sizes]); omega)); rotate_right) | (apply Blk.below (hb := hb6); rotate_left; (focus ((try simp only [Sx.sizes]); omega)); rotate_right) | (apply Blk.below (hb := hb7); rotate_left; (focus ((try simp only [Sx.sizes]); omega)); rotate_right) | (apply Blk.below (hb := hb8); rotate_left; (focus ((try simp only [Sx.sizes]); omega)); rotate_right) | (apply Blk.below (hb := hb9); rotate_left; (focus ((try simp only [Sx.sizes]); omega)); rotate_right) | exact Blk.newE (by first | rfl | ((try simp only [Sx.sizes]); first | done | omega)) _ _ | exact Blk.put_same (by (try simp only [Sx.sizes]); first | done | omega) _ _ | (apply Blk.put_ne; (focus omega)) | apply Blk.alloc | apply Blk.drew)); done)⟩ ?_
      rintro B' ⟨hSB', bB', kB'⟩
      clear hSC bC kC k9C lC hSB bB k9B kb hbB hbC
      (apply Lst_call; (focus rfl); (focus rfl))
      refine (c_Insert ⟨(2, i + 1), (0, 0), (1, i + 1)⟩ p F t B' (by omega) hSB').mono ?_
      rintro v G ⟨rfl, F', hSG, hTG⟩
      rw [← hvu, hmay]
      rw [← hvu] at hSG
      have lowG := hTG.low hlow bB'.size
      have kG := hTG.blk kB' hn9
      have n9 : ¬ F' b9 := fun hf => hn9 ((hTG.own _ kB'.lt).1 hf)
      have bG := bB'.trans lowG.2
      (refine Ga ?_)
      refine rndQ_n (α := Nat × (Nat → Prop) × Fo) (i + 1, F', (Fo.insert t (vU n i)).1) ⟨by dsimp only; omega, hSG, lowG.1, bG, n9, kG, fun _ => by dsimp only; rw [hflat, gA_succ, gB_cons hin]; simp, fun e => by dsimp only at e; omega⟩ ⟨rfl, rfl, rfl, rfl, rfl, rfl, ?_, trivial⟩ (by dsimp only; omega)
      exact congrArg (Value.int .i64) (by dsimp only; omega)
    · (refine Ga ?_)
      refine Lst_abs (fun B => Below A.heap.size A B ∧ Blk B A.heap.size (ucs ⟨(2, i + 1), (0, 0), (0, 0)⟩) 53) ⟨Bel, (by (repeat (first | assumption | (apply Blk.below (hb := hb1); rotate_left; (focus ((try simp only [Sx.sizes]); omega)); rotate_right) | (apply Blk.below (hb := hb2); rotate_left; (focus ((try simp only [Sx.sizes]); omega)); rotate_right) | (apply Blk.below (hb := hb3); rotate_left; (focus ((try simp only [Sx.sizes]); omega)); rotate_right) | (apply Blk.below (hb := hb4); rotate_left; (focus ((try simp only [Sx.sizes]); omega)); rotate_right) | (apply Blk.below (hb := hb5); rotate_left; (focus ((try simp only [Sx.sizes]); omega)); rotate_right) | (apply Blk.below (hb := hb6); rotate_left; (focus ((try simp only [Sx.sizes]); omega)); rotate_right) | (apply Blk.below (hb := hb7); rotate_left; (focus ((try simp only [Sx.sizes]); omega)); rotate_right) | (apply Blk.below (hb := hb8); rotate_left; (focus ((try simp only [Sx.sizes]); omega)); rotate_right) | (apply Blk.below (hb := hb9); rotate_left; (focus ((try simp only [Sx.sizes]); omega)); rotate_right) | exact Blk.newE (by first | rfl | ((try simp only [Sx.sizes]); first | done | omega)) _ _ | exact Blk.put_same (by (try simp only [Sx.sizes]); first | done | omega) _ _ | (apply Blk.put_ne; (focus omega)) | apply Blk.alloc | apply Blk.drew)); done)⟩ ?_
      rintro B ⟨hbB, kb⟩
      have hSB := hS.below hbB
      have bB := hbA.trans (hbB.mono hbA.size)
      have k9B := k9.below hbB k9.lt
      have nbb : ¬ F A.heap.size := fun hf => by have := hS.lt hf; omega
      have hbb9 : b9 ≠ A.heap.size := by have := k9.lt; omega
      have lbu : w1.heap.size ≤ A.heap.size := hbA.size
      clear hS hbA k9
      generalize A.heap.size = bu at *
      rw [show (i : Int) - 1 = ((i - 1 : Nat) : Int) by omega]
      (apply Lst_call; (focus rfl); (focus rfl))
      refine (c_at (i - 1) (by omega) B).mono ?_
      rintro v C ⟨rfl, hbC⟩
      rw [show ((i - 1 : Nat) : Int) + 1 = (i : Int) by omega]
      have hSC := hSB.below hbC
      have bC := bB.trans (hbC.mono bB.size)
      have kC := kb.below hbC kb.lt
      have k9C := k9B.below hbC k9B.lt
      have lC := kC.lt
      have sC := bC.size
      unfold ucs at kC
      (refine Ga ?_)
      refine Lst_abs (fun B' => SqAt B' p F t ∧ Below w1.heap.size w1 B' ∧ Blk B' b9 (ocs (mkO 1 1 kk 5 ⟨(1, f + 1), false⟩ ⟨(1, g + 1), true⟩)) 32 ∧ Blk B' bu (ucs ⟨(2, i + 1), (1, i), (0, 0)⟩) 53) ⟨SqAt.putF hSC nbb _, Bel, (by (repeat (first | assumption | (apply Blk.below (hb := hb1); rotate_left; (focus ((try simp only [Sx.sizes]); omega)); rotate_right) | (apply Blk.below (hb := hb2); rotate_left; (focus ((try simp only [Sx.sizes]); omega)); rotate_right) | (apply Blk.below (hb := hb3); rotate_left; (focus ((try simp only [Sx.sizes]); omega)); rotate_right) | (apply Blk.below (hb := hb4); rotate_left; (focus ((try simp only [Sx.sizes]); omega)); rotate_right) | (apply Blk.below (hb := hb5); rotate_left; (focus ((try simp only [Sx.sizes]); omega)); rotate_right) | (apply Blk.below (hb := hb6); rotate_left; (focus ((try simp only [Sx.sizes]); omega)); rotate_right) | (apply Blk.below (hb := hb7); rotate_left; (focus ((try simp only [Sx.sizes]); omega)); rotate_right) | (apply Blk.below (hb := hb8); rotate_left; (focus ((try simp only [Sx.sizes]); omega)); rotate_right) | (apply Blk.below (hb := hb9); rotate_left; (focus ((try simp only [Sx.sizes]); omega)); rotate_right) | exact Blk.newE (by first | rfl | ((try simp only [Sx.sizes]); first | done | omega)) _ _ | exact Blk.put_same (by (try simp only [Sx.sizes]); first | done | omega) _ _ | (apply Blk.put_ne; (focus omega)) | apply Blk.alloc | apply Blk.drew)); done), (by (repeat (first | assumption | (apply Blk.below (hb := hb1); rotate_left; (focus ((try simp only [Sx.sizes]); omega)); rotate_right) | (apply Blk.below (hb := hb2); rotate_left; (focus ((try simp only [Sx.sizes]); omega)); rotate_right) | (apply Blk.below (hb := hb3); rotate_left; (focus ((try simp only [Sx.sizes]); omega)); rotate_right) | (apply Blk.below (hb := hb4); rotate_left; (focus ((try simp only [Sx.sizes]); omega)); rotate_right) | (apply Blk.below (hb := hb5); rotate_left; (focus ((try simp only [Sx.sizes]); omega)); rotate_right) | (apply Blk.below (hb := hb6); rotate_left; (focus ((try simp only [Sx.sizes]); omega)); rotate_right) | (apply Blk.below (hb := hb7); rotate_left; (focus ((try simp only [Sx.sizes]); omega)); rotate_right) | (apply Blk.below (hb := hb8); rotate_left; (focus ((try simp only [Sx.sizes]); omega)); rotate_right) | (apply Blk.below (hb := hb9); rotate_left; (focus ((try simp only [Sx.sizes]); omega)); rotate_right) | exact Blk.newE (by first | rfl | ((try simp only [Sx.sizes]); first | done | omega)) _ _ | exact Blk.put_same (by (try simp only [Sx.sizes]); first | done | omega) _ _ | (apply Blk.put_ne; (focus omega)) | apply Blk.alloc | apply Blk.drew)); done)⟩ ?_
      rintro D ⟨hSD, bD, k9D, kD⟩
      have lD := kD.lt
      clear hSC bC kC k9C lC sC hSB bB k9B kb hbB hbC
      by_cases hin : i < n
      · have hvu : vU n i = ⟨(2, i + 1), (1, i), (1, i + 1)⟩ := by unfold vU; rw [if_neg hz, if_pos hin]
        (refine Ga ?_)
        (apply Lst_call; (focus rfl); (focus rfl))
        refine (c_at i (by omega) D).mono ?_
        rintro v C ⟨rfl, hbC⟩
        have hSC := hSD.below hbC
        have bC := bD.trans (hbC.mono bD.size)
        have kC := kD.below hbC kD.lt
        have k9C := k9D.below hbC k9D.lt
        have lC := kC.lt
        have sC := bC.size
        unfold ucs at kC
        (refine Ga ?_)
        refine Lst_abs (fun B' => SqAt B' p F t ∧ Below w1.heap.size w1 B' ∧ Blk B' b9 (ocs (mkO 1 1 kk 5 ⟨(1, f + 1), false⟩ ⟨(1, g + 1), true⟩)) 32) ⟨SqAt.putF hSC nbb _, Bel, (by (repeat (first | assumption | (apply Blk.below (hb := hb1); rotate_left; (focus ((try simp only [Sx.sizes]); omega)); rotate_right) | (apply Blk.below (hb := hb2); rotate_left; (focus ((try simp only [Sx.sizes]); omega)); rotate_right) | (apply Blk.below (hb := hb3); rotate_left; (focus ((try simp only [Sx.sizes]); omega)); rotate_right) | (apply Blk.below (hb := hb4); rotate_left; (focus ((try simp only [Sx.sizes]); omega)); rotate_right) | (apply Blk.below (hb := hb5); rotate_left; (focus ((try simp only [Sx.sizes]); omega)); rotate_right) | (apply Blk.below (hb := hb6); rotate_left; (focus ((try simp only [Sx.sizes]); omega)); rotate_right) | (apply Blk.below (hb := hb7); rotate_left; (focus ((try simp only [Sx.sizes]); omega)); rotate_right) | (apply Blk.below (hb := hb8); rotate_left; (focus ((try simp only [Sx.sizes]); omega)); rotate_right) | (apply Blk.below (hb := hb9); rotate_left; (focus ((try simp only [Sx.sizes]); omega)); rotate_right) | exact Blk.newE (by first | rfl | ((try simp only [Sx.sizes]); first | done | omega)) _ _ | exact Blk.put_same (by (try simp only [Sx.sizes]); first | done | omega) _ _ | (apply Blk.put_ne; (focus omega)) | apply Blk.alloc | apply Blk.drew)); done)⟩ ?_
        rintro B' ⟨hSB', bB', kB'⟩
        clear hSC bC kC k9C lC sC hbC
        (apply Lst_call; (focus rfl); (focus rfl))
        refine (c_Insert ⟨(2, i + 1), (1, i), (1, i + 1)⟩ p F t B' (by omega) hSB').mono ?_
        rintro v G ⟨rfl, F', hSG, hTG⟩
        rw [← hvu, hmay]
        rw [← hvu] at hSG
        have lowG := hTG.low hlow bB'.size
        have kG := hTG.blk kB' hn9
        have n9 : ¬ F' b9 := fun hf => hn9 ((hTG.own _ kB'.lt).1 hf)
        have bG := bB'.trans lowG.2
        (refine Ga ?_)
        refine rndQ_n (α := Nat × (Nat → Prop) × Fo) (i + 1, F', (Fo.insert t (vU n i)).1) ⟨by dsimp only; omega, hSG, lowG.1, bG, n9, kG, fun _ => by dsimp only; rw [hflat, gA_succ, gB_cons hin]; simp, fun e => by dsimp only at e; omega⟩ ⟨rfl, rfl, rfl, rfl, rfl, rfl, ?_, trivial⟩ (by dsimp only; omega)
        exact congrArg (Value.int .i64) (by dsimp only; omega)
      · have hvu : vU n i = ⟨(2, i + 1), (1, i), (0, 0)⟩ := by unfold vU; rw [if_neg hz, if_neg hin]
        have hin' : i = n := by omega
        unfold ucs at kD
        (refine Ga ?_)
        have hSB' := hSD
        have kB' := k9D
        have bB' := bD
        (apply Lst_call; (focus rfl); (focus rfl))
        refine (c_Insert ⟨(2, i + 1), (1, i), (0, 0)⟩ p F t D (by omega) hSB').mono ?_
        rintro v G ⟨rfl, F', hSG, hTG⟩
        rw [← hvu, hmay]
        rw [← hvu] at hSG
        have lowG := hTG.low hlow bB'.size
        have kG := hTG.blk kB' hn9
        have n9 : ¬ F' b9 := fun hf => hn9 ((hTG.own _ kB'.lt).1 hf)
        have bG := bB'.trans lowG.2
        (refine Ga ?_)
        refine rndQ_n (α := Nat × (Nat → Prop) × Fo) (i + 1, F', (Fo.insert t (vU n i)).1) ⟨by dsimp only; omega, hSG, lowG.1, bG, n9, kG, fun e => by dsimp only at e; omega, fun _ => by dsimp only; subst hin'; rw [hflat, gB_end]⟩ ⟨rfl, rfl, rfl, rfl, rfl, rfl, ?_, trivial⟩ (by dsimp only; omega)
        exact congrArg (Value.int .i64) (by dsimp only; omega)
  · obtain rfl : i = n + 1 := by omega
    have hfl := hfz rfl
    have hsz := grow_sz hfl
    have hga := grow_all (f := f) (g := g) hS.good.nd hfl hfg hgn
    have hoK : Out F (.slice (some ⟨b9, 0, none⟩) [oG f g].length 1) := fun b off sp n c e => by
      cases e
      exact hn9
    have hrK : SRows A 22 (.slice (some ⟨b9, 0, none⟩) [oG f g].length 1) ([oG f g].map ocs) := one_row k9
    (refine Ga ?_)
    (apply Lst_call; (focus rfl); (focus rfl))
    refine (c_All [oG f g] (some ⟨b9, 0, none⟩) 1 (by omega) (show 1 ≤ 1000000 by decide) (fun o ho => by rw [List.mem_singleton.1 ho]; exact (show kk.size ≤ maxLen by decide)) hoK hrK hS).mono ?_
    rintro v M ⟨⟨ys, hoM, hall⟩, hSM, hTM⟩
    rw [hga, hsz] at hall
    have hyl : ys.length = 2 * n + 1 := by
      have := All2.len hall
      simpa using this
    obtain ⟨ya, yc, rfl, hyc⟩ := own_form hoM
    rw [hyl] at hoM ⊢
    have bM := hbA.trans (hTM.low hlow hbA.size).2
    clear hTM hSM hrK hoK hS k9 hn9 hfa hfz hlow hga hfl
    (refine Ga ?_)
    refine W_loop (α := Nat) (fun k => [(0, .int .i64 (n : Int)), (1, .int .i64 (f : Int)), (2, .int .i64 (g : Int)), (12, .slice ya (2 * n + 1) yc), (13, .int .i64 (k : Int))]) (fun k A => k ≤ 2 * n + 1 ∧ Below M.heap.size M A) (fun k _ => 2 * n + 1 - k) 0 ⟨Nat.zero_le _, Below.refl _ _⟩ ⟨rfl, rfl, rfl, rfl, rfl, trivial⟩ ?_
    rintro J k A ⟨hk, hbA⟩
    by_cases hkl : k < 2 * n + 1
    · obtain ⟨gy, cy, hye, hcy⟩ := own_cell hoM (k := k) (by omega)
      injection hye with e1 e2 e3
      subst e1
      have hyk := all_get hall k (by omega) (by rw [List.length_map, List.length_range]; exact hkl)
      rw [List.getElem_map, List.getElem_range] at hyk
      have hcyA := cell_below hbA hcy
      by_cases h1 : 2 * f < k
      · by_cases h2 : k < 2 * g + 2
        · rw [if_pos ⟨h1, h2⟩] at hyk
          obtain ⟨yk, ck, hke, _⟩ := own_form hyk
          change ys[k] = .slice yk 1 ck at hke
          rw [hke] at hcyA
          (refine Ga ?_)
          refine rndQ_n (α := Nat) (k + 1) ⟨hkl, hbA⟩ ⟨rfl, rfl, rfl, rfl, ?_, trivial⟩ (by omega)
          exact congrArg (Value.int .i64) (by omega)
        · rw [if_neg (fun h => h2 h.2)] at hyk
          obtain ⟨yk, ck, hke, _⟩ := own_form hyk
          change ys[k] = .slice yk 0 ck at hke
          rw [hke] at hcyA
          (refine Ga ?_)
          refine rndQ_n (α := Nat) (k + 1) ⟨hkl, hbA⟩ ⟨rfl, rfl, rfl, rfl, ?_, trivial⟩ (by omega)
          exact congrArg (Value.int .i64) (by omega)
      · rw [if_neg (fun h => h1 h.1)] at hyk
        obtain ⟨yk, ck, hke, _⟩ := own_form hyk
        change ys[k] = .slice yk 0 ck at hke
        rw [hke] at hcyA
        (refine Ga ?_)
        refine rndQ_n (α := Nat) (k + 1) ⟨hkl, hbA⟩ ⟨rfl, rfl, rfl, rfl, ?_, trivial⟩ (by omega)
        exact congrArg (Value.int .i64) (by omega)
    · (refine Ga ?_)
      (apply retQ1; (focus rfl))
      exact ⟨rfl, hb1.trans ((bM.trans (hbA.mono bM.size)).mono hb1.size)⟩
  -- end of the print
end
end Mk
end Go.Proofs.Ytmgipnckojopcaa
