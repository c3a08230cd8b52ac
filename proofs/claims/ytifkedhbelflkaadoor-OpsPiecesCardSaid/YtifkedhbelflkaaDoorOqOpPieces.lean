/- OpsPieces' walk. -/
import Derived.Test.YtifkedhbelflkaaDoorOqOpR
import Derived.Test.YtifkedhbelflkaaDoorOqPlace
namespace Go.Proofs.YtifkedhbelflkaaDoor
set_option maxRecDepth 100000
namespace Op
open Go Go.RowKit Sx Tl Val
open Utf (rs tl Tabs cutS)
section
attribute [local irreducible] RnS
attribute [local irreducible] W Lst Qst Pu seqQ blkQ rndQ cutQ retQ Does Enters IntKind.wrap bits sb World.alloc World.putObj Blk
set_option maxHeartbeats 8000000 in
theorem law_OpsPieces (o : Mo) (zs : List Int) (a : Option Addr) (c : Nat) (hz : ∀ z ∈ zs, 0 ≤ z ∧ z < 256) (turn : Int) (w : World) (hT : Tabs w) (hi : Ints w .u8 (.slice a zs.length c) zs) : Does Tryd.prog 3 #[.agg (ocs o).toArray, .slice a zs.length c, .int .i64 turn] w fun v w' => v = .bool true ∧ Below w.heap.size w w' := by
  refine Does_of (args := [.agg (ocs o).toArray, .slice a zs.length c, .int .i64 turn]) Tryd.func3 (by kernel_rfl) rfl rfl rfl rfl rfl ?_
  unfold ocs
  (refine Ga ?_)
  refine Lst_abs (fun A => Below w.heap.size w A ∧ Blk A w.heap.size (ocs o) 31) ⟨Bel, by unfold ocs; exact (by (repeat (first | assumption | (apply Blk.below (hb := hb1); rotate_left; (focus ((try simp only [Sx.sizes]); omega)); rotate_right) | (apply Blk.below (hb := hb2); rotate_left; (focus ((try simp only [Sx.sizes]); omega)); rotate_right) | (apply Blk.below (hb := hb3); rotate_left; (focus ((try simp only [Sx.sizes]); omega)); rotate_right) | (apply Blk.below (hb := hb4); rotate_left; (focus ((try simp only [Sx.sizes]); omega)); rotate_right) | (apply Blk.below (hb := hb5); rotate_left; (focus ((try simp only [Sx.sizes]); omega)); rotate_right) | (apply Blk.below (hb := hb6); rotate_left; (focus ((try simp only [Sx.sizes]); omega)); rotate_right) | (apply Blk.below (hb := hb7); rotate_left; (focus ((try simp only [Sx.sizes]); omega)); rotate_right) | (apply Blk.below (hb := hb8); rotate_left; (focus ((try simp only [Sx.sizes]); omega)); rotate_right) | (apply Blk.below (hb := hb9); rotate_left; (focus ((try simp only [Sx.sizes]); omega)); rotate_right) | exact Blk.newE (by first | rfl | ((try simp only [Sx.sizes]); first | done | omega)) _ _ | exact Blk.put_same (by (try simp only [Sx.sizes]); first | done | omega) _ _ | (apply Blk.put_ne; (focus omega)) | apply Blk.alloc | apply Blk.drew)); done)⟩ ?_
  rintro A ⟨bA, k0⟩
  have sA := bA.size
  (apply Lst_call; (focus rfl); (focus rfl))
  refine (c_known8 A (hT.below bA)).mono ?_
  rintro v B ⟨rfl, hB⟩
  have bB := bA.trans (hB.mono sA)
  have sB := bB.size
  have k0B := k0.below hB k0.lt
  have l0B := k0B.lt
  have u0 := k0B
  unfold ocs at u0
  (refine Ga ?_)
  (apply Lst_call; (focus rfl); (focus rfl))
  refine (c_light8 o B).mono ?_
  rintro v C ⟨⟨b, rfl, hli⟩, hC⟩
  have bC := bB.trans (hC.mono sB)
  have sC := bC.size
  have k0C := k0B.below hC l0B
  have l0C := k0C.lt
  cases b with
  | false =>
    (refine Ga ?_)
    (apply retQ1; (focus rfl))
    exact ⟨rfl, bC⟩
  | true =>
    obtain ⟨hs2, hk2, _⟩ := hli rfl
    have hs : o.tx.size ≤ 1000000 := by omega
    clear u0
    have u0 := k0C
    unfold ocs at u0
    (refine Ga ?_)
    (apply Lst_call; (focus rfl); (focus rfl))
    refine (o_Check o hk2 hs C).mono ?_
    rintro v D ⟨z, rfl, hz0, _, hD⟩
    have bD := bC.trans (hD.mono sC)
    have sD := bD.size
    have k0D := k0C.below hD l0C
    have l0D := k0D.lt
    by_cases hzz : z = 0
    · obtain ⟨hid, hok⟩ := hz0 hzz
      subst hzz
      clear u0
      have u0 := k0D
      unfold ocs at u0
      by_cases hcl : 40 < zs.length
      · (refine Ga ?_)
        (apply retQ1; (focus rfl))
        exact ⟨rfl, bD⟩
      by_cases hk : o.k = 1
      · have hO := hok hk
        have hlo := len_ok hO
        have hN2 := hO.n2
        have hclk := right_hi hid
        (refine Ga ?_)
        (apply Lst_call; (focus rfl); (focus rfl))
        refine (o_Len o hs D).mono ?_
        rintro v E ⟨rfl, hE⟩
        rw [hlo]
        have hEi := hO.hi
        obtain ⟨N, hN⟩ : ∃ N, (rs (tl o.tx)).length = N := ⟨_, rfl⟩
        rw [hN] at hlo hN2 hEi ⊢
        have hN1 : 1 ≤ N := by rw [← hN]; exact hO.n1
        have bE := bD.trans (hE.mono sD)
        have sE := bE.size
        have k0E := k0D.below hE l0D
        have l0E := k0E.lt
        clear k0 k0B k0C k0D u0 bA bB bC bD hB hC hD hE l0B l0C l0D sA sB sC sD
        (refine Ga ?_)
        refine Tl.W_cutB (α := Value × List Nat) (fun x => [(2, .int .i64 turn), (3, .pointer (some ⟨w.heap.size, 0, none⟩)), (8, x.1)]) (fun x A => IncP N 0 x.2 ∧ lastP 0 x.2 = N ∧ x.2.length ≤ 41 ∧ OwnO E.heap.size A x.1 (pcz o 0 x.2) ∧ Below E.heap.size E A) ?_ ?_
        · refine W_loop (α := Value × List Nat) (fun x => [(1, .slice a zs.length c), (2, .int .i64 turn), (3, .pointer (some ⟨w.heap.size, 0, none⟩)), (7, .int .i64 (N : Int)), (8, x.1), (9, .int .i64 (lastP 0 x.2 : Int)), (10, .int .i64 (x.2.length : Int))])
            (fun x A => IncP N 0 x.2 ∧ (x.2.length ≤ zs.length ∨ x.2.length = zs.length + 1 ∧ lastP 0 x.2 = N) ∧ lastP 0 x.2 ≤ N ∧ OwnO E.heap.size A x.1 (pcz o 0 x.2) ∧ Below E.heap.size E A) (fun x _ => zs.length + 1 - x.2.length) (.slice none 0 0, []) ⟨trivial, .inl (Nat.zero_le _), Nat.zero_le _, OwnO.nil _ _, Below.refl _ _⟩ ⟨rfl, rfl, rfl, rfl, rfl, rfl, rfl, trivial⟩ ?_
          rintro J ⟨lv, bs⟩ A ⟨hinc, hlen, hle, hoA, hA⟩
          dsimp only at hinc hlen hle hoA ⊢
          have bA := bE.trans (hA.mono sE)
          have sA := bA.size
          have k0A := k0E.below hA l0E
          have l0A := k0A.lt
          have hiA := hi.below bA (Nat.le_refl _)
          obtain ⟨at', hat⟩ : ∃ n, lastP 0 bs = n := ⟨_, rfl⟩
          have hsn := fun c => pcz_snoc o c 0 bs
          have hls := fun c => last_snoc c 0 bs
          have his := fun (c : Nat) (hc : c ≤ N) (h : at' < c) => inc_snoc hc hinc (by rw [hat]; exact h)
          rw [hat] at hlen hle ⊢
          by_cases hlt : at' < N
          · have hil : bs.length ≤ zs.length := by omega
            obtain ⟨q1, q2, q3, rfl⟩ := own_slice hoA
            (refine Ga ?_)
            refine Tl.Lst_cut2 (α := Nat) (fun t => [(1, .slice a zs.length c), (2, .int .i64 turn), (3, .pointer (some ⟨w.heap.size, 0, none⟩)), (7, .int .i64 (N : Int)), (8, .slice q1 q2 q3), (9, .int .i64 (at' : Int)), (10, .int .i64 (bs.length : Int)), (11, .int .i64 (t : Int))]) (fun t X => X = A ∧ at' < t ∧ t ≤ N ∧ (bs.length = zs.length → t = N)) ?_ ?_
            · by_cases hin : bs.length < zs.length
              · obtain ⟨gz, oz', rfl, hcz⟩ := hiA.at hin
                have hz9 : 0 ≤ zs.getD bs.length 0 ∧ zs.getD bs.length 0 < 256 := by
                  rw [List.getD_eq_getElem?_getD, List.getElem?_eq_getElem hin]
                  exact hz _ (List.getElem_mem hin)
                obtain ⟨zi, hzi⟩ : ∃ zi : Nat, zs.getD bs.length 0 = (zi : Int) := ⟨(zs.getD bs.length 0).toNat, by omega⟩
                rw [hzi] at hcz hz9
                obtain ⟨pl, hpl, hpl2⟩ : ∃ pl : Nat, ((zi : Int)).tmod 9 = (pl : Int) ∧ pl < 9 := ⟨zi % 9, rfl, Nat.mod_lt _ (by decide)⟩
                (refine Ga ?_)
                rw [hpl]
                (refine Ga ?_)
                refine cutQ_n (min N (at' + 1 + pl)) ⟨rfl, by omega, by omega, fun h => by omega⟩ ⟨rfl, rfl, rfl, rfl, rfl, rfl, rfl, ?_, trivial⟩
                exact congrArg (Value.int .i64) (by omega)
              · (refine Ga ?_)
                exact cutQ_n N ⟨rfl, hlt, Nat.le_refl _, fun _ => rfl⟩ ⟨rfl, rfl, rfl, rfl, rfl, rfl, rfl, rfl, trivial⟩
            · rintro J t X ⟨rfl, ht1, ht2, ht3⟩
              have hcut : cutR o (at' : Int) (t : Int) (cleanV o.v) = .tuple #[.agg (ocs (cutO o at' t)).toArray, .bool true] := by
                unfold cutR
                rw [hlo, if_pos ⟨by omega, by omega, by omega⟩, if_pos hk]
                rfl
              have u0 := k0A
              unfold ocs at u0
              (refine Ga ?_)
              (apply Lst_call; (focus rfl); (focus rfl))
              refine (c_OCut o hok hs (at' : Int) (t : Int) (by omega) X (hT.below bA)).mono ?_
              rintro v G ⟨rfl, hG⟩
              rw [hcut]
              have hG2 := hA.trans (hG.mono hA.size)
              have sG := hG2.size
              have hoG : OwnO E.heap.size G (.slice q1 q2 q3) (pcz o 0 bs) := own_below hoA hG (Nat.le_refl _)
              have hsn' := hsn t
              rw [hat] at hsn'
              obtain ⟨x, hx⟩ : ∃ x, cutO o at' t = x := ⟨_, rfl⟩
              rw [hx] at hsn' ⊢
              clear u0
              unfold ocs
              (refine Ga ?_)
              refine Lst_abs (fun H => Below E.heap.size E H ∧ OwnO E.heap.size H (.slice q1 q2 q3) (pcz o 0 bs) ∧ Blk H G.heap.size (ocs x) 31) ⟨Bel, ?_, by unfold ocs; exact (by (repeat (first | assumption | (apply Blk.below (hb := hb1); rotate_left; (focus ((try simp only [Sx.sizes]); omega)); rotate_right) | (apply Blk.below (hb := hb2); rotate_left; (focus ((try simp only [Sx.sizes]); omega)); rotate_right) | (apply Blk.below (hb := hb3); rotate_left; (focus ((try simp only [Sx.sizes]); omega)); rotate_right) | (apply Blk.below (hb := hb4); rotate_left; (focus ((try simp only [Sx.sizes]); omega)); rotate_right) | (apply Blk.below (hb := hb5); rotate_left; (focus ((try simp only [Sx.sizes]); omega)); rotate_right) | (apply Blk.below (hb := hb6); rotate_left; (focus ((try simp only [Sx.sizes]); omega)); rotate_right) | (apply Blk.below (hb := hb7); rotate_left; (focus ((try simp only [Sx.sizes]); omega)); rotate_right) | (apply Blk.below (hb := hb8); rotate_left; (focus ((try simp only [Sx.sizes]); omega)); rotate_right) | (apply Blk.below (hb := hb9); rotate_left; (focus ((try simp only [Sx.sizes]); omega)); rotate_right) | exact Blk.newE (by first | rfl | ((try simp only [Sx.sizes]); first | done | omega)) _ _ | exact Blk.put_same (by (try simp only [Sx.sizes]); first | done | omega) _ _ | (apply Blk.put_ne; (focus omega)) | apply Blk.alloc | apply Blk.drew)); done)⟩ ?_
              · exact own_below hoG (show Below G.heap.size G _ from Bel) (Nat.le_refl _)
              rintro H ⟨hH, hoH, kH⟩
              have sH := hH.size
              unfold ocs at kH
              (refine Ga ?_)
              (apply Lst_slit; (focus rfl); (focus rfl); (focus rfl); (focus rfl); (focus rfl); (focus rfl); (focus rfl); (focus rfl); (focus rfl); (focus (repeat (first | apply FillO.nil | (apply FillO.cons; (focus constructor); (focus rfl); (focus rfl); (focus (repeat constructor)))))); (focus ((try simp only [Sx.sizes]); first | done | rfl)); (focus rfl))
              refine Lst_abs (fun Y => Below H.heap.size H Y ∧ Blk Y H.heap.size (ocs x) 31) ⟨Bel, by unfold ocs; exact (by (repeat (first | assumption | (apply Blk.below (hb := hb1); rotate_left; (focus ((try simp only [Sx.sizes]); omega)); rotate_right) | (apply Blk.below (hb := hb2); rotate_left; (focus ((try simp only [Sx.sizes]); omega)); rotate_right) | (apply Blk.below (hb := hb3); rotate_left; (focus ((try simp only [Sx.sizes]); omega)); rotate_right) | (apply Blk.below (hb := hb4); rotate_left; (focus ((try simp only [Sx.sizes]); omega)); rotate_right) | (apply Blk.below (hb := hb5); rotate_left; (focus ((try simp only [Sx.sizes]); omega)); rotate_right) | (apply Blk.below (hb := hb6); rotate_left; (focus ((try simp only [Sx.sizes]); omega)); rotate_right) | (apply Blk.below (hb := hb7); rotate_left; (focus ((try simp only [Sx.sizes]); omega)); rotate_right) | (apply Blk.below (hb := hb8); rotate_left; (focus ((try simp only [Sx.sizes]); omega)); rotate_right) | (apply Blk.below (hb := hb9); rotate_left; (focus ((try simp only [Sx.sizes]); omega)); rotate_right) | exact Blk.newE (by first | rfl | ((try simp only [Sx.sizes]); first | done | omega)) _ _ | exact Blk.put_same (by (try simp only [Sx.sizes]); first | done | omega) _ _ | (apply Blk.put_ne; (focus omega)) | apply Blk.alloc | apply Blk.drew)); done)⟩ ?_
              rintro Y ⟨hY, kY⟩
              apply Lst_appendO (hown := own_below hoH hY (Nat.le_refl _)) (hy := one_row kY)
              focus (simp only [List.length_singleton, pcz_len]; omega)
              focus exact Nat.le_trans sH hY.size
              focus rfl
              focus rfl
              focus rfl
              intro v' U hoU hU
              obtain ⟨x1, x2, x3, rfl⟩ := own_slice hoU
              have hU2 := (hH.trans (hY.mono sH)).trans hU
              (refine Ga ?_)
              refine rndQ_n (α := Value × List Nat) (.slice x1 x2 x3, bs ++ [t]) ⟨his t ht2 ht1, ?_, by dsimp only; rw [hls]; exact ht2, by dsimp only; rw [hsn']; exact hoU, hU2⟩ ⟨rfl, rfl, rfl, rfl, rfl, ?_, ?_, trivial⟩ (by dsimp only; rw [List.length_append, List.length_singleton]; omega)
              · dsimp only
                rw [hls, List.length_append, List.length_singleton]
                by_cases hin : bs.length < zs.length
                · exact .inl hin
                · exact .inr ⟨by omega, ht3 (by omega)⟩
              · exact congrArg (Value.int .i64) (by dsimp only; rw [hls])
              · exact congrArg (Value.int .i64) (by dsimp only; rw [List.length_append, List.length_singleton]; omega)
          · obtain rfl : at' = N := by omega
            (refine Ga ?_)
            exact cutQ_n (lv, bs) ⟨hinc, hat, by dsimp only; omega, hoA, hA⟩ ⟨rfl, rfl, rfl, trivial⟩
        · rintro J ⟨lv, bs⟩ A ⟨hinc, hlast, hlen, hoA, hA⟩
          dsimp only at hinc hlast hlen hoA ⊢
          have bs1 : 1 ≤ bs.length := by
            cases bs with
            | nil =>
              change 0 = N at hlast
              omega
            | cons b bs => exact Nat.le_add_left 1 _
          obtain ⟨n, hn⟩ : ∃ n, bs.length = n := ⟨_, rfl⟩
          have hpl := pcz_len o 0 bs
          rw [hn] at hpl bs1 hlen
          have hch := pcz_chain hO (a := 0) (bs := bs) (by rw [hN]; exact hinc)
          have hcat := pcz_cat hO (bs := bs) (by rw [hN]; exact hinc) (by rw [hN]; exact hlast)
          have hoA2 := hoA
          unfold OwnO at hoA2
          rw [hpl] at hoA2
          obtain ⟨v1, v3, rfl, _⟩ := own_form hoA2
          have bA := bE.trans (hA.mono sE)
          (refine Ga ?_)
          (apply Lst_call; (focus rfl); (focus rfl))
          refine (Wire.h_Place turn 1000 A (by omega) (by omega)).mono ?_
          rintro v _ ⟨rfl, rfl⟩
          obtain ⟨T, hTn⟩ : ∃ T : Nat, turn % 1000 = (T : Int) := ⟨(turn % 1000).toNat, by omega⟩
          rw [hTn]
          have hT1 : T < 1000 := by omega
          (refine Ga ?_)
          refine W_loop (α := Nat) (fun i => [(2, .int .i64 (T : Int)), (3, .pointer (some ⟨w.heap.size, 0, none⟩)), (8, .slice v1 n v3), (14, .int .i64 (i : Int))])
            (fun i X => i ≤ n ∧ ∃ l, OwnO E.heap.size X (.slice v1 n v3) l ∧ Same' (pcz o 0 bs) l ∧ Below E.heap.size E X) (fun i _ => n - i) 0 ⟨Nat.zero_le _, pcz o 0 bs, by unfold OwnO; rw [hpl]; exact hoA2, ⟨rfl, fun _ => Iff.rfl, up_dis hch.up⟩, hA⟩ ⟨rfl, rfl, rfl, rfl, trivial⟩ ?_
          clear hoA hoA2 hA bA A
          rintro J i A ⟨hin, l, hoA, hsm, bA⟩
          have hlen := hsm.len.trans hpl
          by_cases hil : i < n
          · obtain ⟨k, hk1, hk2⟩ : ∃ k : Nat, ((T : Int) + 3 * (i : Int)).tmod (n : Int) = (k : Int) ∧ k < n := ⟨(T + 3 * i) % n, rfl, Nat.mod_lt _ bs1⟩
            (refine Ga ?_)
            rw [hk1]
            obtain ⟨g1, cap, l1, e1, _, hgB, kl, hl1, hset⟩ := own_setR0 (w := A.drew) (ls := l.map ocs) (nn := n) (by have h9 := hoA; unfold OwnO at h9; rw [hlen] at h9; exact own_drew h9) (ocs_len _) (by decide) (k := i) (by rw [List.length_map]; omega)
            cases e1
            obtain ⟨h1', h2', e', _, hcP⟩ := hoA.rows.at (i := i) (by rw [List.length_map]; omega)
            cases e'
            obtain ⟨h1', h2', e', _, hcQ⟩ := hoA.rows.at (i := k) (by rw [List.length_map]; omega)
            cases e'
            rw [List.getElem_map] at hcP hcQ
            have hfs := fid_swap (l := l) (i := i) (k := k) (by omega) (by omega)
            have hss := hsm.swap (i := i) (k := k) (by omega) (by omega)
            obtain ⟨mP, hmP⟩ : ∃ x9, l[i]'(by omega) = x9 := ⟨_, rfl⟩
            obtain ⟨mQ, hmQ⟩ : ∃ x9, l[k]'(by omega) = x9 := ⟨_, rfl⟩
            rw [hmP] at hcP hfs hss
            rw [hmQ] at hcQ hfs hss
            (refine Ga ?_)
            refine W_drawS 16 (fun _ => True) rfl rfl ?_
            have hS := trivial
            refine S_takeV 0 15 rfl (by kernel_rfl) (by repeat (first | exact retQ_p | apply seqQ_p | apply blkQ_p | apply rndQ_p | apply cutQ_p)) hS ?_
            (refine Qb ?_)
            refine S_takeV 1 14 rfl (by kernel_rfl) (by repeat (first | exact retQ_p | apply seqQ_p | apply blkQ_p | apply rndQ_p | apply cutQ_p)) hS ?_
            (refine Qb ?_)
            refine S_takeV 2 13 rfl (by kernel_rfl) (by repeat (first | exact retQ_p | apply seqQ_p | apply blkQ_p | apply rndQ_p | apply cutQ_p)) hS ?_
            (refine Qb ?_)
            refine S_takeV 3 12 rfl (by kernel_rfl) (by repeat (first | exact retQ_p | apply seqQ_p | apply blkQ_p | apply rndQ_p | apply cutQ_p)) hS ?_
            (refine Qb ?_)
            refine S_takeV 4 11 rfl (by kernel_rfl) (by repeat (first | exact retQ_p | apply seqQ_p | apply blkQ_p | apply rndQ_p | apply cutQ_p)) hS ?_
            (refine Qb ?_)
            refine S_takeV 5 10 rfl (by kernel_rfl) (by repeat (first | exact retQ_p | apply seqQ_p | apply blkQ_p | apply rndQ_p | apply cutQ_p)) hS ?_
            (refine Qb ?_)
            refine S_takeV 6 9 rfl (by kernel_rfl) (by repeat (first | exact retQ_p | apply seqQ_p | apply blkQ_p | apply rndQ_p | apply cutQ_p)) hS ?_
            apply Qst_pu
            · apply P_idxm (j := k) (sz := 22)
              focus rfl
              focus rfl
              focus rfl
              focus rfl
              focus rfl
              focus omega
            focus rfl
            (refine Qb ?_)
            refine S_takeV 8 8 rfl (by kernel_rfl) (by repeat (first | exact retQ_p | apply seqQ_p | apply blkQ_p | apply rndQ_p | apply cutQ_p)) hS ?_
            (refine Qb ?_)
            refine S_takeV 9 7 rfl (by kernel_rfl) (by repeat (first | exact retQ_p | apply seqQ_p | apply blkQ_p | apply rndQ_p | apply cutQ_p)) hS ?_
            (refine Qb ?_)
            refine S_takeV 10 6 rfl (by kernel_rfl) (by repeat (first | exact retQ_p | apply seqQ_p | apply blkQ_p | apply rndQ_p | apply cutQ_p)) hS ?_
            apply Qst_pu
            · apply P_idxm (j := i) (sz := 22)
              focus rfl
              focus rfl
              focus rfl
              focus rfl
              focus rfl
              focus omega
            focus rfl
            (refine Qb ?_)
            refine S_any [7, 11] 5 rfl (by kernel_rfl) (all2 ?_ ?_)
            · skip
              apply Lst_loadS' (cs := ocs mQ)
              focus rfl
              focus rfl
              focus rfl
              focus rfl
              focus rfl
              focus exact hcQ
              focus rfl
              apply Lst_nil
              apply rnQ_n
              refine ⟨trivial, ?_⟩
              refine S_any [11] 4 rfl (by kernel_rfl) (all1 ?_)
              apply Lst_loadS' (cs := ocs mP)
              focus rfl
              focus rfl
              focus rfl
              focus rfl
              focus rfl
              focus exact hcP
              focus rfl
              apply Lst_nil
              apply rnQ_n
              refine ⟨trivial, ?_⟩
              refine S_any [12] 3 rfl (by kernel_rfl) (all1 ?_)
              apply Lst_pu
              · apply P_idxm (j := i) (sz := 22)
                focus rfl
                focus rfl
                focus rfl
                focus rfl
                focus rfl
                focus omega
              focus rfl
              apply Lst_nil
              apply rnQ_n
              refine ⟨trivial, ?_⟩
              refine S_any [13] 2 rfl (by kernel_rfl) (all1 ?_)
              apply Lst_storeM (vs := ocs mQ) (hb := kl)
              focus rfl
              focus rfl
              focus rfl
              focus rfl
              focus exact fun u hu => ocs_one [mQ] u (by simpa using hu)
              focus exact hl1
              apply Lst_nil
              apply rnQ_n
              refine ⟨trivial, ?_⟩
              have ho1 := hset (ocs mQ) rfl
              rw [← List.map_set] at ho1
              have hn1 : (l.set (i) mQ).length = n := by rw [List.length_set, hlen]
              obtain ⟨g2, cap2, l2, e2, _, _, kl2, hl2, hset2⟩ := own_setR0 ho1 (ocs_len _) (by decide) (k := k) (by rw [List.length_map, hn1]; omega)
              cases e2
              have ho2 := hset2 (ocs mP) rfl
              rw [← List.map_set] at ho2
              have hn2 : ((l.set (i) mQ).set (k) mP).length = n := by rw [List.length_set, hn1]
              refine S_any [14] 1 rfl (by kernel_rfl) (all1 ?_)
              apply Lst_pu
              · apply P_idxm (j := k) (sz := 22)
                focus rfl
                focus rfl
                focus rfl
                focus rfl
                focus rfl
                focus omega
              focus rfl
              apply Lst_nil
              apply rnQ_n
              refine ⟨trivial, ?_⟩
              refine S_any [15] 0 rfl (by kernel_rfl) (all1 ?_)
              apply Lst_storeM (vs := ocs mP) (hb := kl2)
              focus rfl
              focus rfl
              focus rfl
              focus rfl
              focus exact fun u hu => ocs_one [mP] u (by simpa using hu)
              focus exact hl2
              apply Lst_nil
              apply rnQ_n
              refine ⟨trivial, ?_⟩
              refine S_done (by kernel_rfl) ?_
              (refine Ga ?_)
              refine rndQ_n (α := Nat) (i + 1) ⟨by omega, (l.set i mQ).set k mP, (by unfold OwnO; rw [hn2]; exact ho2), hss, Sx.Below.put (Sx.Below.put (Below.drew bA) hgB _) hgB _⟩ ⟨rfl, rfl, rfl, ?_, trivial⟩ (by omega)
              exact congrArg (Value.int .i64) (by omega)
            · skip
              apply Lst_loadS' (cs := ocs mP)
              focus rfl
              focus rfl
              focus rfl
              focus rfl
              focus rfl
              focus exact hcP
              focus rfl
              apply Lst_nil
              apply rnQ_n
              refine ⟨trivial, ?_⟩
              refine S_any [7] 4 rfl (by kernel_rfl) (all1 ?_)
              apply Lst_loadS' (cs := ocs mQ)
              focus rfl
              focus rfl
              focus rfl
              focus rfl
              focus rfl
              focus exact hcQ
              focus rfl
              apply Lst_nil
              apply rnQ_n
              refine ⟨trivial, ?_⟩
              refine S_any [12] 3 rfl (by kernel_rfl) (all1 ?_)
              apply Lst_pu
              · apply P_idxm (j := i) (sz := 22)
                focus rfl
                focus rfl
                focus rfl
                focus rfl
                focus rfl
                focus omega
              focus rfl
              apply Lst_nil
              apply rnQ_n
              refine ⟨trivial, ?_⟩
              refine S_any [13] 2 rfl (by kernel_rfl) (all1 ?_)
              apply Lst_storeM (vs := ocs mQ) (hb := kl)
              focus rfl
              focus rfl
              focus rfl
              focus rfl
              focus exact fun u hu => ocs_one [mQ] u (by simpa using hu)
              focus exact hl1
              apply Lst_nil
              apply rnQ_n
              refine ⟨trivial, ?_⟩
              have ho1 := hset (ocs mQ) rfl
              rw [← List.map_set] at ho1
              have hn1 : (l.set (i) mQ).length = n := by rw [List.length_set, hlen]
              obtain ⟨g2, cap2, l2, e2, _, _, kl2, hl2, hset2⟩ := own_setR0 ho1 (ocs_len _) (by decide) (k := k) (by rw [List.length_map, hn1]; omega)
              cases e2
              have ho2 := hset2 (ocs mP) rfl
              rw [← List.map_set] at ho2
              have hn2 : ((l.set (i) mQ).set (k) mP).length = n := by rw [List.length_set, hn1]
              refine S_any [14] 1 rfl (by kernel_rfl) (all1 ?_)
              apply Lst_pu
              · apply P_idxm (j := k) (sz := 22)
                focus rfl
                focus rfl
                focus rfl
                focus rfl
                focus rfl
                focus omega
              focus rfl
              apply Lst_nil
              apply rnQ_n
              refine ⟨trivial, ?_⟩
              refine S_any [15] 0 rfl (by kernel_rfl) (all1 ?_)
              apply Lst_storeM (vs := ocs mP) (hb := kl2)
              focus rfl
              focus rfl
              focus rfl
              focus rfl
              focus exact fun u hu => ocs_one [mP] u (by simpa using hu)
              focus exact hl2
              apply Lst_nil
              apply rnQ_n
              refine ⟨trivial, ?_⟩
              refine S_done (by kernel_rfl) ?_
              (refine Ga ?_)
              refine rndQ_n (α := Nat) (i + 1) ⟨by omega, (l.set i mQ).set k mP, (by unfold OwnO; rw [hn2]; exact ho2), hss, Sx.Below.put (Sx.Below.put (Below.drew bA) hgB _) hgB _⟩ ⟨rfl, rfl, rfl, ?_, trivial⟩ (by omega)
              exact congrArg (Value.int .i64) (by omega)
          · obtain rfl : i = n := by omega
            have hEA := bA
            have bA := bE.trans (hEA.mono sE)
            have k0A := k0E.below hEA l0E
            have l0A := k0A.lt
            have u0 := k0A
            unfold ocs at u0
            have hgw : ∀ Z, Below A.heap.size A Z → Below w.heap.size w Z := fun Z h => bA.trans (h.mono bA.size)
            have hgo : ∀ Z, Below A.heap.size A Z → Blk Z w.heap.size (ocs o) 31 := fun Z h => k0A.below h l0A
            have hjoin : ∀ Z, Below A.heap.size A Z → Does Tryd.prog 11 #[.slice v1 i v3] Z fun v w' => OwnO Z.heap.size w' v [o] ∧ Below Z.heap.size Z w' := fun Z hS => by
              have hoZ : OwnO E.heap.size Z (.slice v1 i v3) l := own_below hoA hS (Nat.le_refl _)
              subst hlen
              obtain ⟨b1, bs', rfl⟩ : ∃ b1 bs', bs = b1 :: bs' := by
                cases bs with
                | nil => exact absurd bs1 (by rw [← hn]; decide)
                | cons b1 bs' => exact ⟨b1, bs', rfl⟩
              have h9 := c_Join l (pcz o 0 (b1 :: bs')) v1 v3 (by omega) (by omega) (by omega) (fun x => (hsm.mem x).symm) hsm.dis hch (fun x hx => by have := pcz_size x hx; omega) (by rw [hcat.1]; exact hs) (by
                rw [hcat.2, hN]
                show o.id.2 + 0 + N ≤ _
                omega) Z (hT.below (hgw Z hS)) hoZ.rows
              refine h9.mono fun v w' h => ⟨?_, h.2⟩
              have h3 := h.1
              change OwnO _ _ _ (chunks (runesS (pcz o 0 (b1 :: bs'))).length (cutO o 0 b1) (runesS (pcz o 0 (b1 :: bs')))) at h3
              rw [hcat.2, pcz_head hO] at h3
              exact h3
            (refine Ga ?_)
            refine W_drawS 6 (fun Z => Below A.heap.size A Z) rfl rfl ?_
            have hS := Below.drew (Below.refl A.heap.size A)
            generalize A.drew = Z at *
            refine S_takeV 0 5 rfl (by kernel_rfl) (by repeat (first | exact retQ_p | apply seqQ_p | apply blkQ_p | apply rndQ_p | apply cutQ_p)) hS ?_
            (refine Qb ?_)
            refine S_takeV 2 4 rfl (by kernel_rfl) (by repeat (first | exact retQ_p | apply seqQ_p | apply blkQ_p | apply rndQ_p | apply cutQ_p)) hS ?_
            apply Qst_loadA
            focus rfl
            focus rfl
            focus rfl
            focus rfl
            focus rfl
            focus exact fun A9 hA9 => hgo A9 hA9
            focus (repeat constructor)
            focus rfl
            (refine Qb ?_)
            refine S_any [1, 3] 3 rfl (by kernel_rfl) (all2 ?_ ?_)
            · skip
              (apply Lst_call; (focus rfl); (focus rfl))
              refine (hjoin Z hS).mono ?_
              rintro v Z1 ⟨hov, hZ1⟩
              obtain ⟨va, vc, hv0, _⟩ := own_form hov
              have hv0 : v = .slice va 1 vc := hv0
              subst hv0
              apply Lst_nil
              apply rnQ_n
              have hS2 := hS.trans (hZ1.mono hS.size)
              refine ⟨hS2, ?_⟩
              clear hS
              have hS := hS2
              clear hS2
              refine S_any [3] 2 rfl (by kernel_rfl) (all1 ?_)
              (apply Lst_slit; (focus rfl); (focus rfl); (focus rfl); (focus rfl); (focus rfl); (focus rfl); (focus rfl); (focus rfl); (focus rfl); (focus (repeat (first | apply FillO.nil | (apply FillO.cons; (focus constructor); (focus rfl); (focus rfl); (focus (repeat constructor)))))); (focus ((try simp only [Sx.sizes]); first | done | rfl)); (focus rfl))
              refine Lst_abs (fun X => Below Z1.heap.size Z1 X ∧ Blk X Z1.heap.size (ocs o) 31) ⟨Bel, (by (repeat (first | assumption | (apply Blk.below (hb := hb1); rotate_left; (focus ((try simp only [Sx.sizes]); omega)); rotate_right) | (apply Blk.below (hb := hb2); rotate_left; (focus ((try simp only [Sx.sizes]); omega)); rotate_right) | (apply Blk.below (hb := hb3); rotate_left; (focus ((try simp only [Sx.sizes]); omega)); rotate_right) | (apply Blk.below (hb := hb4); rotate_left; (focus ((try simp only [Sx.sizes]); omega)); rotate_right) | (apply Blk.below (hb := hb5); rotate_left; (focus ((try simp only [Sx.sizes]); omega)); rotate_right) | (apply Blk.below (hb := hb6); rotate_left; (focus ((try simp only [Sx.sizes]); omega)); rotate_right) | (apply Blk.below (hb := hb7); rotate_left; (focus ((try simp only [Sx.sizes]); omega)); rotate_right) | (apply Blk.below (hb := hb8); rotate_left; (focus ((try simp only [Sx.sizes]); omega)); rotate_right) | (apply Blk.below (hb := hb9); rotate_left; (focus ((try simp only [Sx.sizes]); omega)); rotate_right) | exact Blk.newE (by first | rfl | ((try simp only [Sx.sizes]); first | done | omega)) _ _ | exact Blk.put_same (by (try simp only [Sx.sizes]); first | done | omega) _ _ | (apply Blk.put_ne; (focus omega)) | apply Blk.alloc | apply Blk.drew)); done)⟩ ?_
              rintro Z2 ⟨hZ2, kO⟩
              apply Lst_nil
              apply rnQ_n
              have hS2 := hS.trans (hZ2.mono hS.size)
              refine ⟨hS2, ?_⟩
              clear hS
              have hS := hS2
              clear hS2
              refine S_any [4] 1 rfl (by kernel_rfl) (all1 ?_)
              (apply Lst_call; (focus rfl); (focus rfl))
              refine (c_sameAll8 [o] _ _ _ _ (by simp) (fun p hp => by rw [List.mem_singleton.1 hp]; exact hO.v) Z2 ((show OwnO _ _ _ [o] from own_below hov hZ2 (Nat.le_refl _)).rows) (one_row kO)).mono ?_
              rintro v Y ⟨rfl, hY⟩
              apply Lst_nil
              apply rnQ_n
              have hS2 := hS.trans (hY.mono hS.size)
              refine ⟨hS2, ?_⟩
              clear hS
              have hS := hS2
              clear hS2
              refine S_takeV 5 0 rfl (by kernel_rfl) (by repeat (first | exact retQ_p | apply seqQ_p | apply blkQ_p | apply rndQ_p | apply cutQ_p)) hS ?_
              (refine Qb ?_)
              refine S_done (by kernel_rfl) ?_
              (refine Ga ?_)
              (apply retQ1; (focus rfl))
              exact ⟨rfl, hgw _ hS⟩
            · skip
              (apply Lst_slit; (focus rfl); (focus rfl); (focus rfl); (focus rfl); (focus rfl); (focus rfl); (focus rfl); (focus rfl); (focus rfl); (focus (repeat (first | apply FillO.nil | (apply FillO.cons; (focus constructor); (focus rfl); (focus rfl); (focus (repeat constructor)))))); (focus ((try simp only [Sx.sizes]); first | done | rfl)); (focus rfl))
              refine Lst_abs (fun X => Below Z.heap.size Z X ∧ Blk X Z.heap.size (ocs o) 31) ⟨Bel, (by (repeat (first | assumption | (apply Blk.below (hb := hb1); rotate_left; (focus ((try simp only [Sx.sizes]); omega)); rotate_right) | (apply Blk.below (hb := hb2); rotate_left; (focus ((try simp only [Sx.sizes]); omega)); rotate_right) | (apply Blk.below (hb := hb3); rotate_left; (focus ((try simp only [Sx.sizes]); omega)); rotate_right) | (apply Blk.below (hb := hb4); rotate_left; (focus ((try simp only [Sx.sizes]); omega)); rotate_right) | (apply Blk.below (hb := hb5); rotate_left; (focus ((try simp only [Sx.sizes]); omega)); rotate_right) | (apply Blk.below (hb := hb6); rotate_left; (focus ((try simp only [Sx.sizes]); omega)); rotate_right) | (apply Blk.below (hb := hb7); rotate_left; (focus ((try simp only [Sx.sizes]); omega)); rotate_right) | (apply Blk.below (hb := hb8); rotate_left; (focus ((try simp only [Sx.sizes]); omega)); rotate_right) | (apply Blk.below (hb := hb9); rotate_left; (focus ((try simp only [Sx.sizes]); omega)); rotate_right) | exact Blk.newE (by first | rfl | ((try simp only [Sx.sizes]); first | done | omega)) _ _ | exact Blk.put_same (by (try simp only [Sx.sizes]); first | done | omega) _ _ | (apply Blk.put_ne; (focus omega)) | apply Blk.alloc | apply Blk.drew)); done)⟩ ?_
              rintro Z1 ⟨hZ1, kO⟩
              apply Lst_nil
              apply rnQ_n
              have hS2 := hS.trans (hZ1.mono hS.size)
              refine ⟨hS2, ?_⟩
              clear hS
              have hS := hS2
              clear hS2
              refine S_any [1] 2 rfl (by kernel_rfl) (all1 ?_)
              (apply Lst_call; (focus rfl); (focus rfl))
              refine (hjoin Z1 hS).mono ?_
              rintro v Z2 ⟨hov, hZ2⟩
              obtain ⟨va, vc, hv0, _⟩ := own_form hov
              have hv0 : v = .slice va 1 vc := hv0
              subst hv0
              apply Lst_nil
              apply rnQ_n
              have hS2 := hS.trans (hZ2.mono hS.size)
              refine ⟨hS2, ?_⟩
              clear hS
              have hS := hS2
              clear hS2
              refine S_any [4] 1 rfl (by kernel_rfl) (all1 ?_)
              (apply Lst_call; (focus rfl); (focus rfl))
              refine (c_sameAll8 [o] _ _ _ _ (by simp) (fun p hp => by rw [List.mem_singleton.1 hp]; exact hO.v) Z2 (hov.rows) (one_row (kO.below hZ2 kO.lt))).mono ?_
              rintro v Y ⟨rfl, hY⟩
              apply Lst_nil
              apply rnQ_n
              have hS2 := hS.trans (hY.mono hS.size)
              refine ⟨hS2, ?_⟩
              clear hS
              have hS := hS2
              clear hS2
              refine S_takeV 5 0 rfl (by kernel_rfl) (by repeat (first | exact retQ_p | apply seqQ_p | apply blkQ_p | apply rndQ_p | apply cutQ_p)) hS ?_
              (refine Qb ?_)
              refine S_done (by kernel_rfl) ?_
              (refine Ga ?_)
              (apply retQ1; (focus rfl))
              exact ⟨rfl, hgw _ hS⟩
      · (refine Ga ?_)
        (apply retQ1; (focus rfl))
        exact ⟨rfl, bD⟩
    · (refine Ga ?_)
      (apply retQ1; (focus rfl))
      exact ⟨rfl, bD⟩
end
end Op
end Go.Proofs.YtifkedhbelflkaaDoor
