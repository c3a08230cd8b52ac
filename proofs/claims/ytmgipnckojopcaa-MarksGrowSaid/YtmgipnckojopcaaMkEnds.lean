/- MarksEnds' walk. -/
import Derived.Test.YtmgipnckojopcaaMkF
import Derived.Test.YtmgipnckojopcaaMkU
namespace Go.Proofs.Ytmgipnckojopcaa
set_option maxRecDepth 100000
namespace Mk
open Go Go.RowKit Sx Tl Sq Val
def kk : ByteArray := ⟨#[107]⟩
/-- The mark from the beginning to the end. -/
def oE (v : Int) : Mo := mkO 1 1 kk v ⟨(0, 0), false⟩ ⟨(0, 0), true⟩
theorem win_one (o : Mo) : winM [] o = [(o.key, o)] := by
  unfold winM
  simp [Sx.look, Sx.put]
theorem clean_int (v : Int) : cleanV ⟨2, v, 0, ⟨#[]⟩⟩ = ⟨2, v, 0, ⟨#[]⟩⟩ := rfl
theorem best_one (t : Fo) (place : Int) (o : Mo) : bestL t place [o] = if onV t place o then [(o.key, o)] else [] := by
  unfold bestL
  cases h : onV t place o with
  | true => rw [List.filter_cons_of_pos h, List.filter_nil, List.foldl_cons, List.foldl_nil, win_one, if_pos rfl]
  | false => rw [List.filter_cons_of_neg (by rw [h]; simp), List.filter_nil, List.foldl_nil, if_neg (by simp)]
theorem ends_all (t : Fo) (v : Int) : allL t [oE v] = (List.range t.sz).map fun _ => [(kk, ⟨2, v, 0, ⟨#[]⟩⟩)] := by
  unfold allL
  refine List.map_congr_left fun i hi => ?_
  have hi := List.mem_range.1 hi
  have hov : overV t (oE v).fr (oE v).to = (0, t.sz) := by
    have h1 : gapV t (oE v).fr = (0, true) := rfl
    have h2 : gapV t (oE v).to = (t.sz, true) := rfl
    unfold overV
    rw [h1, h2, if_pos ⟨rfl, rfl, by dsimp only; omega⟩]
  have hon : onV t (i : Int) (oE v) = true := by
    unfold onV
    rw [hov]
    rw [decide_eq_true (show (oE v).k = 3 from rfl), decide_eq_true (by dsimp only; omega), decide_eq_true (by dsimp only; omega)]
    rfl
  rw [best_one, hon, if_pos rfl, told_one]
  rw [if_neg (by show ¬ (2 : Int) = 0; decide)]
  rfl
/-- A sequence of units of one client, so many. -/
structure Tn (t : Fo) (i : Nat) : Prop where
  sz : t.sz = i
  ids : ∀ k ∈ t.ids, k.1 = 3 ∧ k.2 ≤ i
theorem Tn.put {t : Fo} {i n : Nat} {u : Un} (h : Tn t i) (hg : Fo.Good t) (hF : ∃ ρ, Fo.Fits ρ none t) (hn : n ≤ i) (hi : i ≤ 1000) (hid : u.id = (3, i + 1)) (hl : u.l = if n = 0 then (0, 0) else (t.flat.getD (n - 1) default).id) (hr : u.r = if n = t.sz then (0, 0) else (t.flat.getD n default).id) :
    Fo.may t u = true ∧ Tn (Fo.insert t u).1 (i + 1) ∧ u.id ∈ (Fo.insert t u).1.ids ∧ (Fo.insert t u).1.pos u.id = n := by
  have hs := site_of (m := 1) hg hF (by rw [h.sz]; exact hn) hl hr (fun j hj hm => by
    have := (h.ids _ hm).2
    rw [hid] at this
    dsimp only at this
    omega) (by rw [hid]; dsimp only; omega)
  have hmay := (site_run hs 0 (by omega)).2 (by omega)
  rw [trun_zero, nxs_zero] at hmay
  have hm := Fo.may_iff.2 hmay
  have hins : (Fo.insert t u).1 = trun t u 1 := by
    unfold Fo.insert
    rw [hm, trun_succ, trun_zero, nxs_zero]
    rfl
  have hp := site_pos hs (i := 0) (by omega)
  rw [nxs_zero, ← hins] at hp
  have hlen : (t.flat.take n).length = n := by
    rw [List.length_take]
    have : t.flat.length = t.sz := rfl
    have := h.sz
    omega
  rw [hlen, Nat.add_zero] at hp
  have hput : (Fo.insert t u).1 = Fo.put t u := by unfold Fo.insert; rw [hm]; rfl
  refine ⟨hm, ⟨?_, fun k hk => ?_⟩, hp.1, hp.2⟩
  · rw [hput, Fo.put_sz hg.nd, h.sz]
  · rw [hput, Fo.put_ids hg.nd] at hk
    rcases hk with rfl | hk
    · rw [hid]
      exact ⟨rfl, Nat.le_refl _⟩
    · have := h.ids k hk
      exact ⟨this.1, by omega⟩
theorem own_cell {w : World} {B e n : Nat} {v : Value} {xs : List Value} (h : w.ownsRow B e 1 v n xs) {k : Nat} (hk : k < xs.length) : ∃ g c, v = .slice (some ⟨g, 0, none⟩) n c ∧ w.cell? ⟨g, 0 + k, none⟩ = some xs[k] := by
  obtain ⟨hl, h⟩ := h
  rcases h with ⟨rfl, rfl⟩ | ⟨g, cap, cur, rfl, _, hg, _, _, hs, ht⟩
  · omega
  · refine ⟨g, cap, rfl, ?_⟩
    have hg' : w.heap[g]? = some (.cells cur e) := hg
    have h1 : (cur.toList.take (n * 1))[k]? = some xs[k] := by rw [ht, List.getElem?_eq_getElem hk]
    rw [List.getElem?_take] at h1
    have h2 : cur.toList[k]? = some xs[k] := by
      split at h1
      · exact h1
      · cases h1
    simp only [World.cell?, hg']
    rw [← h2]
    simp
theorem mark_row {w : World} {b : Nat} {q : Mk} (h : Blk w b (mcs q) 67) : SRows w 5 (.slice (some ⟨b, 0, none⟩) 1 1) ([q].map mcs) := by
  refine SRows.of_own (base := 0) (e := 67) (nn := 1) ⟨rfl, .inr ⟨b, 1, (mcs q).toArray, rfl, Nat.zero_le _, h, Nat.le_refl _, by decide, rfl, rfl⟩⟩ (mcs_len [q]) (by decide)
theorem one_row {w : World} {b : Nat} {o : Mo} (h : Blk w b (ocs o) 32) : SRows w 22 (.slice (some ⟨b, 0, none⟩) 1 1) ([o].map ocs) := by
  refine SRows.of_own (base := 0) (e := 32) (nn := 1) ⟨rfl, .inr ⟨b, 1, (ocs o).toArray, rfl, Nat.zero_le _, h, Nat.le_refl _, by decide, rfl, rfl⟩⟩ (ocs_len [o]) (by decide)
section
attribute [local irreducible] RnS
attribute [local irreducible] W Lst Qst Pu seqQ blkQ rndQ cutQ retQ Does Enters IntKind.wrap bits sb World.alloc World.putObj Blk
set_option maxHeartbeats 4000000 in
theorem law_MarksEnds (xs : List Int) (a : Option Addr) (c : Nat) (hx : ∀ z ∈ xs, 0 ≤ z ∧ z < 65536) (vv : Int) (hv : -9223372036854775808 ≤ vv ∧ vv < 9223372036854775808) (w : World) (h : Ints w .u16 (.slice a xs.length c) xs) :
    Does Try.prog 6 #[.slice a xs.length c, .int .i64 vv] w fun v w' => v = .bool true ∧ Below w.heap.size w w' := by
  refine Does_of (args := [.slice a xs.length c, .int .i64 vv]) Try.func6 (by kernel_rfl) rfl rfl rfl rfl rfl ?_
  (refine Ga ?_)
  (apply Lst_call; (focus rfl); (focus rfl))
  refine (c_known w).mono ?_
  rintro v w1 ⟨rfl, hb1⟩
  by_cases hl : xs.length ≤ 40
  · have h1 := h.below hb1 (Nat.le_refl _)
    (refine Ga ?_)
    (apply Lst_call; (focus rfl); (focus rfl))
    refine (c_mark 1 1 kk vv ⟨(0, 0), false⟩ ⟨(0, 0), true⟩ w1).mono ?_
    rintro v w2 ⟨rfl, hb2⟩
    have b2 := hb1.trans (hb2.mono hb1.size)
    unfold ocs mkO
    (refine Ga ?_)
    (apply Lst_slit; (focus rfl); (focus rfl); (focus rfl); (focus rfl); (focus rfl); (focus rfl); (focus rfl); (focus rfl); (focus rfl); (focus (repeat (first | apply FillO.nil | (apply FillO.cons; (focus constructor); (focus rfl); (focus rfl); (focus (repeat constructor)))))); (focus ((try simp only [Sx.sizes]); first | done | rfl)); (focus rfl))
    refine Lst_abs (fun A => Below w2.heap.size w2 A ∧ Blk A w2.heap.size (ocs (oE vv)) 32) ⟨Bel, (by (repeat (first | assumption | (apply Blk.below (hb := hb1); rotate_left; (focus ((try simp only [Sx.sizes]); omega)); rotate_right) | (apply Blk.below (hb := hb2); rotate_left; (focus ((try simp only [Sx.sizes]); omega)); rotate_right) | (apply Blk.below (hb := hb3); rotate_left; (focus ((try simp only [Sx.sizes]); omega)); rotate_right) | (apply Blk.below (hb := hb4); rotate_left; (focus ((try simp only [Sx.sizes]); omega)); rotate_right) | (apply Blk.below (hb := hb5); rotate_left; (focus ((try simp only [Sx.sizes]); omega)); rotate_right) | (apply Blk.below (hb := hb6); rotate_left; (focus ((try simp only [Sx.sizes]); omega)); rotate_right) | (apply Blk.below (hb := hb7); rotate_left; (focus ((try simp only [Sx.sizes]); omega)); rotate_right) | (apply Blk.below (hb := hb8); rotate_left; (focus ((try simp only [Sx.sizes]); omega)); rotate_right) | (apply Blk.below (hb := hb9); rotate_left; (focus ((try simp only [Sx.sizes]); omega)); rotate_right) | exact Blk.newE (by first | rfl | ((try simp only [Sx.sizes]); first | done | omega)) _ _ | exact Blk.put_same (by (try simp only [Sx.sizes]); first | done | omega) _ _ | (apply Blk.put_ne; (focus omega)) | apply Blk.alloc | apply Blk.drew)); done)⟩ ?_
    rintro w3 ⟨hb3, k5⟩
    have b3 := b2.trans (hb3.mono b2.size)
    have l5 := k5.lt
    have hr3 := one_row k5
    have h3 := h.below b3 (Nat.le_refl _)
    generalize w2.heap.size = b5 at *
    (refine Ga ?_)
    (apply Lst_call; (focus rfl); (focus rfl))
    refine (c_New w3).mono ?_
    rintro v w4 ⟨p, F0, rfl, hS0, hlow0, hb4⟩
    (refine Ga ?_)
    refine W_loop (α := Nat × (Nat → Prop) × Fo) (fun x => [(0, .slice a xs.length c), (1, .int .i64 vv), (5, .slice (some ⟨b5, 0, none⟩) 1 1), (6, .pointer (some ⟨p, 0, none⟩)), (7, .int .i64 (x.1 : Int))])
      (fun x A => x.1 ≤ xs.length ∧ SqAt A p x.2.1 x.2.2 ∧ Tn x.2.2 x.1 ∧ (∀ g, x.2.1 g → w3.heap.size ≤ g) ∧ Below w3.heap.size w3 A) (fun x _ => xs.length - x.1) (0, F0, .nil) ⟨Nat.zero_le _, hS0, ⟨rfl, fun k hk => by cases hk⟩, hlow0, hb4⟩ ⟨rfl, rfl, rfl, rfl, rfl, trivial⟩ ?_
    clear hS0 hlow0 hb4
    rintro J ⟨i, F, t⟩ A ⟨hi, hS, hTn, hlow, hbA⟩
    dsimp only at hi hS hTn hlow hbA ⊢
    by_cases hil : i < xs.length
    · have hzA := h3.below hbA (Nat.le_refl _)
      obtain ⟨gz, oz, rfl, hcz⟩ := hzA.at hil
      have hz9 : 0 ≤ xs.getD i 0 ∧ xs.getD i 0 < 65536 := by
        rw [List.getD_eq_getElem?_getD, List.getElem?_eq_getElem hil]
        exact hx _ (List.getElem_mem hil)
      obtain ⟨zi, hzi⟩ : ∃ zi : Nat, xs.getD i 0 = (zi : Int) := ⟨(xs.getD i 0).toNat, by omega⟩
      rw [hzi] at hcz hz9
      have hgd := hS.good
      have hft := hS.fits
      have hsz := hTn.sz
      obtain ⟨at', hat, hat2⟩ : ∃ m : Nat, ((zi : Int)).tmod ((t.sz : Int) + 1) = (m : Int) ∧ m ≤ t.sz := ⟨zi % (t.sz + 1), rfl, Nat.lt_succ_iff.1 (Nat.mod_lt _ (by omega))⟩
      (refine Ga ?_)
      refine W_abs (fun B => Below A.heap.size A B ∧ Blk B A.heap.size (ucs ⟨(3, i + 1), (0, 0), (0, 0)⟩) 53) ⟨Bel, (by (repeat (first | assumption | (apply Blk.below (hb := hb1); rotate_left; (focus ((try simp only [Sx.sizes]); omega)); rotate_right) | (apply Blk.below (hb := hb2); rotate_left; (focus ((try simp only [Sx.sizes]); omega)); rotate_right) | (apply Blk.below (hb := hb3); rotate_left; (focus ((try simp only [Sx.sizes]); omega)); rotate_right) | (apply Blk.below (hb := hb4); rotate_left; (focus ((try simp only [Sx.sizes]); omega)); rotate_right) | (apply Blk.below (hb := hb5); rotate_left; (focus ((try simp only [Sx.sizes]); omega)); rotate_right) | (apply Blk.below (hb := hb6); rotate_left; (focus ((try simp only [Sx.sizes]); omega)); rotate_right) | (apply Blk.below (hb := hb7); rotate_left; (focus ((try simp only [Sx.sizes]); omega)); rotate_right) | (apply Blk.below (hb := hb8); rotate_left; (focus ((try simp only [Sx.sizes]); omega)); rotate_right) | (apply Blk.below (hb := hb9); rotate_left; (focus ((try simp only [Sx.sizes]); omega)); rotate_right) | exact Blk.newE (by first | rfl | ((try simp only [Sx.sizes]); first | done | omega)) _ _ | exact Blk.put_same (by (try simp only [Sx.sizes]); first | done | omega) _ _ | (apply Blk.put_ne; (focus omega)) | apply Blk.alloc | apply Blk.drew)); done)⟩ ?_
      rintro B ⟨hbB, k8⟩
      have hSB := hS.below hbB
      have bB := hbA.trans (hbB.mono hbA.size)
      have hczB := cell_below hbB hcz
      have n8 : ¬ F A.heap.size := fun hf => by have := hS.lt hf; omega
      have hw8 : w3.heap.size ≤ A.heap.size := hbA.size
      generalize A.heap.size = b8 at *
      clear hS hbA hcz hzA
      refine W_drawS 10 (fun Z => Below B.heap.size B Z) rfl rfl ?_
      refine S_takeV 0 9 rfl (by kernel_rfl) (by repeat (first | exact retQ_p | apply seqQ_p | apply blkQ_p | apply rndQ_p | apply cutQ_p)) (Below.drew (Below.refl B.heap.size B)) ?_
      (refine Qb ?_)
      refine S_takeV 1 8 rfl (by kernel_rfl) (by repeat (first | exact retQ_p | apply seqQ_p | apply blkQ_p | apply rndQ_p | apply cutQ_p)) (Below.drew (Below.refl B.heap.size B)) ?_
      (refine Qb ?_)
      refine S_takeV 2 7 rfl (by kernel_rfl) (by repeat (first | exact retQ_p | apply seqQ_p | apply blkQ_p | apply rndQ_p | apply cutQ_p)) (Below.drew (Below.refl B.heap.size B)) ?_
      apply Qst_pu
      · apply P_idx1 (j := i)
        focus rfl
        focus rfl
        focus rfl
        focus rfl
        focus rfl
        focus exact hil
      focus rfl
      (refine Qb ?_)
      refine S_takeV 3 6 rfl (by kernel_rfl) (by repeat (first | exact retQ_p | apply seqQ_p | apply blkQ_p | apply rndQ_p | apply cutQ_p)) (Below.drew (Below.refl B.heap.size B)) ?_
      apply Qst_loadc
      focus rfl
      focus rfl
      focus rfl
      focus exact fun A9 hA9 => cell_below hA9 hczB
      focus rfl
      (refine Qb ?_)
      refine S_takeV 4 5 rfl (by kernel_rfl) (by repeat (first | exact retQ_p | apply seqQ_p | apply blkQ_p | apply rndQ_p | apply cutQ_p)) (Below.drew (Below.refl B.heap.size B)) ?_
      (refine Qb ?_)
      refine S_takeV 5 4 rfl (by kernel_rfl) (by repeat (first | exact retQ_p | apply seqQ_p | apply blkQ_p | apply rndQ_p | apply cutQ_p)) (Below.drew (Below.refl B.heap.size B)) ?_
      (refine Qb ?_)
      refine S_any [6] 3 rfl (by kernel_rfl) (all1 ?_)
      (apply Lst_call; (focus rfl); (focus rfl))
      refine (s_Len (hSB.below (Below.drew (Below.refl B.heap.size B)))).mono ?_
      rintro v A' ⟨rfl, rfl⟩
      apply Lst_nil
      apply rnQ_n
      refine ⟨Below.drew (Below.refl B.heap.size B), ?_⟩
      refine S_takeV 7 2 rfl (by kernel_rfl) (by repeat (first | exact retQ_p | apply seqQ_p | apply blkQ_p | apply rndQ_p | apply cutQ_p)) (Below.drew (Below.refl B.heap.size B)) ?_
      (refine Qb ?_)
      refine S_takeV 8 1 rfl (by kernel_rfl) (by repeat (first | exact retQ_p | apply seqQ_p | apply blkQ_p | apply rndQ_p | apply cutQ_p)) (Below.drew (Below.refl B.heap.size B)) ?_
      apply Qst_pu
      · apply P_rem
        focus rfl
        focus rfl
        focus omega
        focus exact hat
      focus rfl
      (refine Qb ?_)
      refine S_takeV 9 0 rfl (by kernel_rfl) (by repeat (first | exact retQ_p | apply seqQ_p | apply blkQ_p | apply rndQ_p | apply cutQ_p)) (Below.drew (Below.refl B.heap.size B)) ?_
      (refine Qb ?_)
      refine S_done (by kernel_rfl) ?_
      have hSd := hSB.below (Below.drew (Below.refl B.heap.size B))
      have bd : Below w3.heap.size w3 B.drew := Below.drew bB
      have k8d := Blk.drew k8
      have l8 := k8d.lt
      generalize B.drew = D at *
      clear hSB bB k8 hczB
      (refine Ga ?_)
      refine Lst_cut2 (α := Id) (fun _ => [(0, .slice (some ⟨gz, oz, none⟩) xs.length c), (1, .int .i64 vv), (5, .slice (some ⟨b5, 0, none⟩) 1 1), (6, .pointer (some ⟨p, 0, none⟩)), (7, .int .i64 (i : Int)), (8, .pointer (some ⟨b8, 0, none⟩)), (9, .int .i64 (at' : Int))]) (fun l Z => l = (if at' = 0 then (0, 0) else (t.flat.getD (at' - 1) default).id) ∧ SqAt Z p F t ∧ Below w3.heap.size w3 Z ∧ Blk Z b8 (ucs ⟨(3, i + 1), l, (0, 0)⟩) 53) ?_ ?_
      · (apply Lst_call; (focus rfl); (focus rfl))
        refine (s_At ((at' : Int) - 1) hSd).mono ?_
        rintro v E ⟨rfl, hbE⟩
        have hSE := hSd.below hbE
        have bE := bd.trans (hbE.mono bd.size)
        have k8E := k8d.below hbE l8
        have l8E := k8E.lt
        have sE := bE.size
        unfold ucs at k8E
        by_cases h0 : at' = 0
        · rw [if_neg (show ¬ (0 ≤ (at' : Int) - 1 ∧ (at' : Int) - 1 < t.sz) by omega)]
          rw [show (ucs ⟨(0, 0), (0, 0), (0, 0)⟩).toArray = #[.int .u64 0, .int .u64 0, .int .u64 0, .int .u64 0, .int .u64 0, .int .u64 0] from rfl]
          (refine Ga ?_)
          refine cutQ_n (0, 0) ⟨by rw [if_pos h0], ?_, ?_, ?_⟩ ⟨rfl, rfl, rfl, rfl, rfl, rfl, rfl, trivial⟩
          · exact hSE.below Bel
          · exact Bel
          · exact (by (repeat (first | assumption | (apply Blk.below (hb := hb1); rotate_left; (focus ((try simp only [Sx.sizes]); omega)); rotate_right) | (apply Blk.below (hb := hb2); rotate_left; (focus ((try simp only [Sx.sizes]); omega)); rotate_right) | (apply Blk.below (hb := hb3); rotate_left; (focus ((try simp only [Sx.sizes]); omega)); rotate_right) | (apply Blk.below (hb := hb4); rotate_left; (focus ((try simp only [Sx.sizes]); omega)); rotate_right) | (apply Blk.below (hb := hb5); rotate_left; (focus ((try simp only [Sx.sizes]); omega)); rotate_right) | (apply Blk.below (hb := hb6); rotate_left; (focus ((try simp only [Sx.sizes]); omega)); rotate_right) | (apply Blk.below (hb := hb7); rotate_left; (focus ((try simp only [Sx.sizes]); omega)); rotate_right) | (apply Blk.below (hb := hb8); rotate_left; (focus ((try simp only [Sx.sizes]); omega)); rotate_right) | (apply Blk.below (hb := hb9); rotate_left; (focus ((try simp only [Sx.sizes]); omega)); rotate_right) | exact Blk.newE (by first | rfl | ((try simp only [Sx.sizes]); first | done | omega)) _ _ | exact Blk.put_same (by (try simp only [Sx.sizes]); first | done | omega) _ _ | (apply Blk.put_ne; (focus omega)) | apply Blk.alloc | apply Blk.drew)); done)
        · rw [if_pos (show 0 ≤ (at' : Int) - 1 ∧ (at' : Int) - 1 < t.sz by omega), show ((at' : Int) - 1).toNat = at' - 1 by omega]
          obtain ⟨u0, hu0⟩ : ∃ u0, t.flat.getD (at' - 1) default = u0 := ⟨_, rfl⟩
          rw [hu0]
          unfold ucs
          (refine Ga ?_)
          refine cutQ_n u0.id ⟨by rw [if_neg h0], ?_, ?_, ?_⟩ ⟨rfl, rfl, rfl, rfl, rfl, rfl, rfl, trivial⟩
          · exact SqAt.putF (hSE.below Bel) n8 _
          · exact Bel
          · exact (by (repeat (first | assumption | (apply Blk.below (hb := hb1); rotate_left; (focus ((try simp only [Sx.sizes]); omega)); rotate_right) | (apply Blk.below (hb := hb2); rotate_left; (focus ((try simp only [Sx.sizes]); omega)); rotate_right) | (apply Blk.below (hb := hb3); rotate_left; (focus ((try simp only [Sx.sizes]); omega)); rotate_right) | (apply Blk.below (hb := hb4); rotate_left; (focus ((try simp only [Sx.sizes]); omega)); rotate_right) | (apply Blk.below (hb := hb5); rotate_left; (focus ((try simp only [Sx.sizes]); omega)); rotate_right) | (apply Blk.below (hb := hb6); rotate_left; (focus ((try simp only [Sx.sizes]); omega)); rotate_right) | (apply Blk.below (hb := hb7); rotate_left; (focus ((try simp only [Sx.sizes]); omega)); rotate_right) | (apply Blk.below (hb := hb8); rotate_left; (focus ((try simp only [Sx.sizes]); omega)); rotate_right) | (apply Blk.below (hb := hb9); rotate_left; (focus ((try simp only [Sx.sizes]); omega)); rotate_right) | exact Blk.newE (by first | rfl | ((try simp only [Sx.sizes]); first | done | omega)) _ _ | exact Blk.put_same (by (try simp only [Sx.sizes]); first | done | omega) _ _ | (apply Blk.put_ne; (focus omega)) | apply Blk.alloc | apply Blk.drew)); done)
      · rintro J l Z ⟨hl0, hSZ, bZ, k8Z⟩
        clear hSd bd k8d l8 D
        have l8Z := k8Z.lt
        (refine Ga ?_)
        refine Lst_cut2 (α := Id) (fun _ => [(0, .slice (some ⟨gz, oz, none⟩) xs.length c), (1, .int .i64 vv), (5, .slice (some ⟨b5, 0, none⟩) 1 1), (6, .pointer (some ⟨p, 0, none⟩)), (7, .int .i64 (i : Int)), (8, .pointer (some ⟨b8, 0, none⟩)), (9, .int .i64 (at' : Int))]) (fun r Z => r = (if at' = t.sz then (0, 0) else (t.flat.getD at' default).id) ∧ SqAt Z p F t ∧ Below w3.heap.size w3 Z ∧ Blk Z b8 (ucs ⟨(3, i + 1), l, r⟩) 53) ?_ ?_
        · (apply Lst_call; (focus rfl); (focus rfl))
          refine (s_At (at' : Int) hSZ).mono ?_
          rintro v E ⟨rfl, hbE⟩
          have hSE := hSZ.below hbE
          have bE := bZ.trans (hbE.mono bZ.size)
          have k8E := k8Z.below hbE l8Z
          have l8E := k8E.lt
          have sE := bE.size
          unfold ucs at k8E
          by_cases h0 : at' = t.sz
          · rw [if_neg (show ¬ (0 ≤ (at' : Int) ∧ (at' : Int) < t.sz) by omega)]
            rw [show (ucs ⟨(0, 0), (0, 0), (0, 0)⟩).toArray = #[.int .u64 0, .int .u64 0, .int .u64 0, .int .u64 0, .int .u64 0, .int .u64 0] from rfl]
            (refine Ga ?_)
            refine cutQ_n (0, 0) ⟨by rw [if_pos h0], ?_, ?_, ?_⟩ ⟨rfl, rfl, rfl, rfl, rfl, rfl, rfl, trivial⟩
            · exact hSE.below Bel
            · exact Bel
            · exact (by (repeat (first | assumption | (apply Blk.below (hb := hb1); rotate_left; (focus ((try simp only [Sx.sizes]); omega)); rotate_right) | (apply Blk.below (hb := hb2); rotate_left; (focus ((try simp only [Sx.sizes]); omega)); rotate_right) | (apply Blk.below (hb := hb3); rotate_left; (focus ((try simp only [Sx.sizes]); omega)); rotate_right) | (apply Blk.below (hb := hb4); rotate_left; (focus ((try simp only [Sx.sizes]); omega)); rotate_right) | (apply Blk.below (hb := hb5); rotate_left; (focus ((try simp only [Sx.sizes]); omega)); rotate_right) | (apply Blk.below (hb := hb6); rotate_left; (focus ((try simp only [Sx.sizes]); omega)); rotate_right) | (apply Blk.below (hb := hb7); rotate_left; (focus ((try simp only [Sx.sizes]); omega)); rotate_right) | (apply Blk.below (hb := hb8); rotate_left; (focus ((try simp only [Sx.sizes]); omega)); rotate_right) | (apply Blk.below (hb := hb9); rotate_left; (focus ((try simp only [Sx.sizes]); omega)); rotate_right) | exact Blk.newE (by first | rfl | ((try simp only [Sx.sizes]); first | done | omega)) _ _ | exact Blk.put_same (by (try simp only [Sx.sizes]); first | done | omega) _ _ | (apply Blk.put_ne; (focus omega)) | apply Blk.alloc | apply Blk.drew)); done)
          · rw [if_pos (show 0 ≤ (at' : Int) ∧ (at' : Int) < t.sz by omega), Int.toNat_natCast]
            obtain ⟨u0, hu0⟩ : ∃ u0, t.flat.getD at' default = u0 := ⟨_, rfl⟩
            rw [hu0]
            unfold ucs
            (refine Ga ?_)
            refine cutQ_n u0.id ⟨by rw [if_neg h0], ?_, ?_, ?_⟩ ⟨rfl, rfl, rfl, rfl, rfl, rfl, rfl, trivial⟩
            · exact SqAt.putF (hSE.below Bel) n8 _
            · exact Bel
            · exact (by (repeat (first | assumption | (apply Blk.below (hb := hb1); rotate_left; (focus ((try simp only [Sx.sizes]); omega)); rotate_right) | (apply Blk.below (hb := hb2); rotate_left; (focus ((try simp only [Sx.sizes]); omega)); rotate_right) | (apply Blk.below (hb := hb3); rotate_left; (focus ((try simp only [Sx.sizes]); omega)); rotate_right) | (apply Blk.below (hb := hb4); rotate_left; (focus ((try simp only [Sx.sizes]); omega)); rotate_right) | (apply Blk.below (hb := hb5); rotate_left; (focus ((try simp only [Sx.sizes]); omega)); rotate_right) | (apply Blk.below (hb := hb6); rotate_left; (focus ((try simp only [Sx.sizes]); omega)); rotate_right) | (apply Blk.below (hb := hb7); rotate_left; (focus ((try simp only [Sx.sizes]); omega)); rotate_right) | (apply Blk.below (hb := hb8); rotate_left; (focus ((try simp only [Sx.sizes]); omega)); rotate_right) | (apply Blk.below (hb := hb9); rotate_left; (focus ((try simp only [Sx.sizes]); omega)); rotate_right) | exact Blk.newE (by first | rfl | ((try simp only [Sx.sizes]); first | done | omega)) _ _ | exact Blk.put_same (by (try simp only [Sx.sizes]); first | done | omega) _ _ | (apply Blk.put_ne; (focus omega)) | apply Blk.alloc | apply Blk.drew)); done)
        · rintro J r E ⟨hr0, hSE, bE, k8E⟩
          clear hSZ bZ k8Z l8Z Z
          obtain ⟨hmay, hTn', hin, hpos⟩ := hTn.put (n := at') (u := ⟨(3, i + 1), l, r⟩) hgd hft (by omega) (by omega) rfl hl0 hr0
          have l8E := k8E.lt
          have k8E' := k8E
          unfold ucs at k8E
          (refine Ga ?_)
          (apply Lst_call; (focus rfl); (focus rfl))
          refine (c_Insert ⟨(3, i + 1), l, r⟩ p F t E (by omega) hSE).mono ?_
          rintro v G ⟨rfl, F', hSG, hTG⟩
          rw [hmay]
          have k8G := hTG.blk k8E' n8
          have lowG := hTG.low hlow bE.size
          have bG := bE.trans lowG.2
          have l8G := k8G.lt
          unfold ucs at k8G
          have n8' : ¬ F' b8 := fun hf => n8 ((hTG.own _ l8E).1 hf)
          generalize (Fo.insert t ⟨(3, i + 1), l, r⟩).1 = T at *
          have hsz' := hTn'.sz
          (refine Ga ?_)
          (apply Lst_call; (focus rfl); (focus rfl))
          refine (s_Find (3, i + 1) (by omega) hSG).mono ?_
          rintro v K ⟨rfl, hSK, hTK⟩
          rw [if_pos hin, hpos]
          have bK := bG.trans (hTK.low lowG.1 bG.size).2
          have hoK : Out F' (.slice (some ⟨b5, 0, none⟩) [oE vv].length 1) := fun b off sp n c e => by
            cases e
            exact fun hf => by have := lowG.1 _ hf; omega
          have hrK : SRows K 22 (.slice (some ⟨b5, 0, none⟩) [oE vv].length 1) ([oE vv].map ocs) := SRows.below hr3 bK (Nat.le_refl _)
          (refine Ga ?_)
          (apply Lst_call; (focus rfl); (focus rfl))
          refine (c_All [oE vv] (some ⟨b5, 0, none⟩) 1 (by omega) (show 1 ≤ 1000000 by decide) (fun o ho => by rw [List.mem_singleton.1 ho]; exact (show kk.size ≤ maxLen by decide)) hoK hrK hSK).mono ?_
          rintro v M ⟨⟨ys, hoM, hall⟩, hSM, hTM⟩
          rw [ends_all, hsz'] at hall
          have hyl : ys.length = i + 1 := by
            have := All2.len hall
            simpa using this
          obtain ⟨ya, yc, rfl, hyc⟩ := own_form hoM
          rw [hyl] at hoM ⊢
          have bM := bK.trans (hTM.low lowG.1 bK.size).2
          have lowM := lowG.1
          clear hTM hTK hSK hrK hoK bK hTG hSG bG lowG hSE bE k8E k8E' k8G l8E l8G n8 n8' hin hpos hmay hTn hgd hft hl0 hr0 hlow
          (refine Ga ?_)
          refine W_loop (α := Nat) (fun k => [(0, .slice (some ⟨gz, oz, none⟩) xs.length c), (1, .int .i64 vv), (5, .slice (some ⟨b5, 0, none⟩) 1 1), (6, .pointer (some ⟨p, 0, none⟩)), (7, .int .i64 (i : Int)), (14, .slice ya (i + 1) yc), (15, .int .i64 (k : Int))]) (fun k A => k ≤ i + 1 ∧ Below M.heap.size M A) (fun k _ => i + 1 - k) 0 ⟨Nat.zero_le _, Below.refl _ _⟩ ⟨rfl, rfl, rfl, rfl, rfl, rfl, rfl, trivial⟩ ?_
          rintro J k A ⟨hk, hbA⟩
          by_cases hkl : k < i + 1
          · obtain ⟨gy, cy, hye, hcy⟩ := own_cell hoM (k := k) (by omega)
            injection hye with e1 e2 e3
            subst e1
            have hyk := all_get hall k (by omega) (by rw [List.length_map, List.length_range]; exact hkl)
            rw [List.getElem_map] at hyk
            have hrk := hyk.rows
            obtain ⟨yk, ck, hke, _⟩ := own_form hyk
            change ys[k] = .slice yk 1 ck at hke
            rw [hke] at hcy hrk
            have hcyA := cell_below hbA hcy
            have hrkA := SRows.below hrk hbA (Nat.le_refl _)
            (refine Ga ?_)
            (apply Lst_slit; (focus rfl); (focus rfl); (focus rfl); (focus rfl); (focus rfl); (focus rfl); (focus rfl); (focus rfl); (focus rfl); (focus (repeat (first | apply FillO.nil | (apply FillO.cons; (focus constructor); (focus rfl); (focus rfl); (focus (repeat constructor)))))); (focus ((try simp only [Sx.sizes]); first | done | rfl)); (focus rfl))
            refine Lst_abs (fun B => Below A.heap.size A B ∧ Blk B A.heap.size (mcs (kk, ⟨2, vv, 0, ⟨#[]⟩⟩)) 67) ⟨Bel, (by (repeat (first | assumption | (apply Blk.below (hb := hb1); rotate_left; (focus ((try simp only [Sx.sizes]); omega)); rotate_right) | (apply Blk.below (hb := hb2); rotate_left; (focus ((try simp only [Sx.sizes]); omega)); rotate_right) | (apply Blk.below (hb := hb3); rotate_left; (focus ((try simp only [Sx.sizes]); omega)); rotate_right) | (apply Blk.below (hb := hb4); rotate_left; (focus ((try simp only [Sx.sizes]); omega)); rotate_right) | (apply Blk.below (hb := hb5); rotate_left; (focus ((try simp only [Sx.sizes]); omega)); rotate_right) | (apply Blk.below (hb := hb6); rotate_left; (focus ((try simp only [Sx.sizes]); omega)); rotate_right) | (apply Blk.below (hb := hb7); rotate_left; (focus ((try simp only [Sx.sizes]); omega)); rotate_right) | (apply Blk.below (hb := hb8); rotate_left; (focus ((try simp only [Sx.sizes]); omega)); rotate_right) | (apply Blk.below (hb := hb9); rotate_left; (focus ((try simp only [Sx.sizes]); omega)); rotate_right) | exact Blk.newE (by first | rfl | ((try simp only [Sx.sizes]); first | done | omega)) _ _ | exact Blk.put_same (by (try simp only [Sx.sizes]); first | done | omega) _ _ | (apply Blk.put_ne; (focus omega)) | apply Blk.alloc | apply Blk.drew)); done)⟩ ?_
            rintro B ⟨hbB, kB⟩
            have hfit : ∀ q ∈ [((kk, ⟨2, vv, 0, ⟨#[]⟩⟩) : Mk)], q.2.Fit := fun q hq => by
              rw [List.mem_singleton.1 hq]
              exact ⟨by dsimp only; omega, by dsimp only; omega, hv.1, hv.2, by dsimp only; omega, (show (0 : Nat) < 140737488355328 by decide)⟩
            (apply Lst_call; (focus rfl); (focus rfl))
            refine (r_Same [(kk, ⟨2, vv, 0, ⟨#[]⟩⟩)] [(kk, ⟨2, vv, 0, ⟨#[]⟩⟩)] yk (some ⟨A.heap.size, 0, none⟩) ck 1 (show 1 ≤ 1000000 by decide) hfit hfit B (SRows.below hrkA hbB (Nat.le_refl _)) (mark_row kB)).mono ?_
            rintro v C ⟨rfl, hbC⟩
            rw [sameL_self]
            have bC := (hbA.trans (hbB.mono hbA.size)).trans (hbC.mono (hbA.trans (hbB.mono hbA.size)).size)
            (refine Ga ?_)
            refine rndQ_n (α := Nat) (k + 1) ⟨hkl, bC⟩ ⟨rfl, rfl, rfl, rfl, rfl, rfl, ?_, trivial⟩ (by omega)
            exact congrArg (Value.int .i64) (by omega)
          · (refine Ga ?_)
            refine rndQ_n (α := Nat × (Nat → Prop) × Fo) (i + 1, F', T) ⟨hil, hSM.below hbA, hTn', lowM, bM.trans (hbA.mono bM.size)⟩ ⟨rfl, rfl, rfl, rfl, ?_, trivial⟩ (by dsimp only; omega)
            exact congrArg (Value.int .i64) (by dsimp only; omega)
    · (refine Ga ?_)
      (apply retQ1; (focus rfl))
      exact ⟨rfl, b3.trans (hbA.mono b3.size)⟩
  · (refine Ga ?_)
    (apply retQ1; (focus rfl))
    exact ⟨rfl, hb1⟩
end
end Mk
end Go.Proofs.Ytmgipnckojopcaa
