/- Both Patches. -/
import Derived.Test.YtglfoofclicfpaaGreatDoorVwE
namespace Go.Proofs.YtglfoofclicfpaaGreatDoor
set_option maxRecDepth 100000
namespace Vw
open Go Go.RowKit Sx Tl Fl Val Mk
open Utf (rs tl Tabs cutS)
/-- What a patch gives. -/
def patU (U : List Un) (at0 n : Int) (V : List Un) : List Un := U.take (min at0.toNat U.length) ++ V ++ U.drop (min at0.toNat U.length + min n.toNat (U.length - min at0.toNat U.length))
theorem patU_eq {U V : List Un} {at0 n : Int} {p q : Nat} (hp : min (max at0 0) (U.length : Int) = p) (hq : min (max n 0) ((U.length : Int) - p) = q) : patU U at0 n V = U.take p ++ V ++ U.drop (p + q) := by
  unfold patU
  have h1 : min at0.toNat U.length = p := by omega
  have h2 : min n.toNat (U.length - p) = q := by omega
  rw [h1, h2]
theorem us_app {K L : List Rv} : us ((K ++ L).map Prod.fst) = us (K.map Prod.fst) ++ us (L.map Prod.fst) := by rw [List.map_append, us_append]
theorem app_all {K L : List Rv} {p : Rv → Prop} (h : ∀ k ∈ K, p k) (g : ∀ k ∈ L, p k) : ∀ k ∈ K ++ L, p k := fun k hk => by
  rcases List.mem_append.1 hk with hk | hk
  · exact h k hk
  · exact g k hk
section
attribute [local irreducible] RnS RnT
attribute [local irreducible] W Lst Qst Pu seqQ blkQ rndQ cutQ retQ Does Enters IntKind.wrap bits sb World.alloc World.putObj Blk
set_option maxHeartbeats 8000000 in
theorem c_Patch (P L : List Rv) (A : Nat) (a b : Option Addr) (c d : Nat) (at0 n : Int) (w : World) (hA : A ≤ w.heap.size) (h : RunS A w (.slice a P.length c) P) (hl : RunS A w (.slice b L.length d) L) (ok : ∀ p ∈ P, OkR p.1) (okL : ∀ p ∈ L, OkR p.1) (hz : ∀ p ∈ P, p.1.ms.length ≤ 1000000) (hzL : ∀ p ∈ L, p.1.ms.length ≤ 1000000) (ht : tot P ≤ 100000) (htL : tot L ≤ 100000) (hL : lenP P ≤ 100000) (hat : -9223372036854775808 ≤ at0 ∧ at0 ≤ 9223372036854775807) (hn : -9223372036854775808 ≤ n ∧ n ≤ 9223372036854775807) (hT : Tabs w) : Does Tryz.prog 16 #[.slice a P.length c, .int .i64 at0, .int .i64 n, .slice b L.length d] w fun v w' => (∃ K, OwnR A w.heap.size w' v K ∧ Is (K.map Prod.fst) (patU (us (P.map Prod.fst)) at0 n (us (L.map Prod.fst))) ∧ ∀ k ∈ K, k.1.ms.length ≤ 1000000) ∧ Below w.heap.size w w' := by
  refine Does_of (args := [.slice a P.length c, .int .i64 at0, .int .i64 n, .slice b L.length d]) Tryz.func16 (by kernel_rfl) rfl rfl rfl rfl rfl ?_
  have hlP := tot_len P
  have hlL := tot_len L
  (refine Ga ?_)
  (apply Lst_call; (focus rfl); (focus rfl))
  refine (c_long P A a c (by omega) (fun p hp => Nat.le_trans (tot_mem hp) (by omega)) (by omega) w hT h).mono ?_
  rintro v V ⟨rfl, bV⟩
  have sV := bV.size
  obtain ⟨p, hp⟩ : ∃ p : Nat, min (max at0 0) (lenP P : Int) = (p : Int) := ⟨(min (max at0 0) (lenP P : Int)).toNat, by omega⟩
  obtain ⟨q, hq⟩ : ∃ q : Nat, min (max n 0) ((lenP P : Int) - (p : Int)) = (q : Int) := ⟨(min (max n 0) ((lenP P : Int) - (p : Int))).toNat, by omega⟩
  (refine Ga ?_)
  rw [hp]
  (refine Ga ?_)
  rw [hq]
  (refine Ga ?_)
  (apply Lst_call; (focus rfl); (focus rfl))
  refine (c_Cut P A a c V (Nat.le_trans hA sV) (h.below bV) ok hz ht hL 0 (p : Int) (by omega) (by omega) (hT.below bV)).mono ?_
  rintro v X ⟨⟨K1, hoK, is1, hz1⟩, bX⟩
  have sX := bX.size
  have bwX := bV.trans (bX.mono sV)
  have ht1 := is1.tot
  have hU1 : (((us (P.map Prod.fst)).take (p : Int).toNat).drop (0 : Int).toNat) = (us (P.map Prod.fst)).take p := rfl
  rw [hU1] at is1 ht1
  have hlU : (us (P.map Prod.fst)).length = lenP P := rfl
  rw [List.length_take, hlU] at ht1
  have hl1 := tot_len K1
  obtain ⟨x1, x3, rfl, _⟩ := hoK.form
  (refine Ga ?_)
  apply Lst_appendV (hown := hoK) (hy := hl.below bwX) (hAB := Nat.le_trans hA sV)
  focus omega
  focus exact sX
  focus rfl
  focus rfl
  focus rfl
  intro v' Y hoY hY _
  have bY := bX.trans hY
  have sY := bY.size
  have bwY := bV.trans (bY.mono sV)
  obtain ⟨y1, y2, y3, rfl⟩ := own_slice hoY.row
  (refine Ga ?_)
  (apply Lst_call; (focus rfl); (focus rfl))
  refine (c_Cut P A a c Y (Nat.le_trans hA (Nat.le_trans sV sY)) (h.below bwY) ok hz ht hL ((p : Int) + (q : Int)) (lenP P : Int) (by omega) (by omega) (hT.below bwY)).mono ?_
  rintro v Z ⟨⟨K2, hoK2, is2, hz2⟩, bZ⟩
  have sZ := bZ.size
  have ht2 := is2.tot
  have hU2 : (((us (P.map Prod.fst)).take (lenP P : Int).toNat).drop ((p : Int) + (q : Int)).toNat) = (us (P.map Prod.fst)).drop (p + q) := by
    rw [show ((p : Int) + (q : Int)).toNat = p + q by omega, Int.toNat_natCast, List.take_of_length_le (Nat.le_of_eq hlU)]
  rw [hU2] at is2 ht2
  rw [List.length_drop, hlU] at ht2
  have hl2 := tot_len K2
  obtain ⟨z1, z3, rfl, _⟩ := hoK2.form
  have hoZ := hoY.below bZ
  (refine Ga ?_)
  apply Lst_appendV (hown := hoZ) (hy := hoK2.read) (hAB := Nat.le_trans hA sV)
  focus (rw [List.length_append]; omega)
  focus exact Nat.le_trans sY sZ
  focus rfl
  focus rfl
  focus rfl
  intro v' U hoU hU _
  have bU := (bY.trans (bZ.mono sY)).trans hU
  have sU := bU.size
  obtain ⟨u1, u3, rfl, _⟩ := hoU.form
  (refine Ga ?_)
  (apply Lst_call; (focus rfl); (focus rfl))
  refine (c_Clean (K1 ++ L ++ K2) A u1 u3 U (Nat.le_trans hA (Nat.le_trans sV sU)) hoU.read (app_all (app_all (mem_ok is1) okL) (mem_ok is2)) (app_all (app_all hz1 hzL) hz2) (by rw [tot_append, tot_append]; omega)).mono ?_
  rintro v O ⟨⟨K, hoK, hcl, _, hzK⟩, bO⟩
  (refine Ga ?_)
  (apply retQ1; (focus rfl))
  refine ⟨⟨K, hoK.low (Nat.le_trans sV sU), ⟨hcl.ok, hcl.neat, ?_⟩, hzK⟩, bV.trans ((bU.trans (bO.mono sU)).mono sV)⟩
  rw [hcl.us, us_app, us_app, is1.us, is2.us, patU_eq (p := p) (q := q) hp hq]
set_option maxHeartbeats 8000000 in
theorem r_Patch (P L : List Rv) (A : Nat) (a b : Option Addr) (c d : Nat) (at0 n : Int) (w : World) (hA : A ≤ w.heap.size) (h : RunS A w (.slice a P.length c) P) (hl : RunS A w (.slice b L.length d) L) (ok : ∀ p ∈ P, OkR p.1) (okL : ∀ p ∈ L, OkR p.1) (hz : ∀ p ∈ P, p.1.ms.length ≤ 1000000) (hzL : ∀ p ∈ L, p.1.ms.length ≤ 1000000) (ht : tot P ≤ 100000) (htL : tot L ≤ 100000) (hL : lenP P ≤ 100000) (hat : -9223372036854775808 ≤ at0 ∧ at0 ≤ 9223372036854775807) (hn : -9223372036854775808 ≤ n ∧ n ≤ 9223372036854775807) : Does Tryz.prog 17 #[.slice a P.length c, .int .i64 at0, .int .i64 n, .slice b L.length d] w fun v w' => (∃ K, OwnR A w.heap.size w' v K ∧ Is (K.map Prod.fst) (patU (us (P.map Prod.fst)) at0 n (us (L.map Prod.fst))) ∧ ∀ k ∈ K, k.1.ms.length ≤ 1000000) ∧ Below w.heap.size w w' := by
  refine Does_of (args := [.slice a P.length c, .int .i64 at0, .int .i64 n, .slice b L.length d]) Tryz.func17 (by kernel_rfl) rfl rfl rfl rfl rfl ?_
  have hlP := tot_len P
  have hlL := tot_len L
  (refine Ga ?_)
  (apply Lst_call; (focus rfl); (focus rfl))
  refine (r_Units P A a c w hA h ok ht hL).mono ?_
  rintro v V ⟨hoQ, bV⟩
  obtain ⟨hun, hus⟩ := units_uni ok
  have hms := units_ms hz
  have htQ := flat_tot ok
  have hlQ := flat_len2 P
  have hlU : (us (P.map Prod.fst)).length = lenP P := rfl
  obtain ⟨Q, hQ⟩ : ∃ Q, P.flatMap splitV = Q := ⟨_, rfl⟩
  rw [hQ] at hoQ hun hus hms htQ hlQ
  have hokQ : ∀ k ∈ Q, OkR k.1 := fun k hk => (hun k.1 (List.mem_map_of_mem hk)).1
  obtain ⟨q1, q3, rfl, hq13⟩ := hoQ.form
  have sV := bV.size
  obtain ⟨p, hp⟩ : ∃ p : Nat, min (max at0 0) (Q.length : Int) = (p : Int) := ⟨(min (max at0 0) (Q.length : Int)).toNat, by omega⟩
  obtain ⟨q, hq⟩ : ∃ q : Nat, min (max n 0) ((Q.length : Int) - (p : Int)) = (q : Int) := ⟨(min (max n 0) ((Q.length : Int) - (p : Int))).toNat, by omega⟩
  (refine Ga ?_)
  rw [hp]
  (refine Ga ?_)
  rw [hq]
  (refine Ga ?_)
  refine W_drawS 14 (fun Z => Below w.heap.size w Z) rfl rfl ?_
  have bZ := Below.drew bV
  have hVZ := Below.drew (Below.refl V.heap.size V)
  have hS := bZ
  have sZ := hVZ.size
  have hqZ := hoQ.read.below hVZ
  have hlZ := hl.below bZ
  generalize V.drew = Z at *
  refine S_takeV 0 13 rfl (by kernel_rfl) (by repeat (first | exact retQ_p | apply seqQ_p | apply blkQ_p | apply rndQ_p | apply cutQ_p)) hS ?_
  (refine Qb ?_)
  refine S_takeV 1 12 rfl (by kernel_rfl) (by repeat (first | exact retQ_p | apply seqQ_p | apply blkQ_p | apply rndQ_p | apply cutQ_p)) hS ?_
  (refine Qb ?_)
  refine S_takeV 2 11 rfl (by kernel_rfl) (by repeat (first | exact retQ_p | apply seqQ_p | apply blkQ_p | apply rndQ_p | apply cutQ_p)) hS ?_
  apply Qst_pu
  · apply P_lslice_hi (m' := (p : Int)) (sz := 7)
    focus rfl
    focus rfl
    focus rfl
    focus rfl
    focus rfl
    focus omega
    focus omega
  focus rfl
  (refine Qb ?_)
  refine S_takeV 4 10 rfl (by kernel_rfl) (by repeat (first | exact retQ_p | apply seqQ_p | apply blkQ_p | apply rndQ_p | apply cutQ_p)) hS ?_
  (refine Qb ?_)
  refine S_takeV 6 9 rfl (by kernel_rfl) (by repeat (first | exact retQ_p | apply seqQ_p | apply blkQ_p | apply rndQ_p | apply cutQ_p)) hS ?_
  (refine Qb ?_)
  refine S_takeV 7 8 rfl (by kernel_rfl) (by repeat (first | exact retQ_p | apply seqQ_p | apply blkQ_p | apply rndQ_p | apply cutQ_p)) hS ?_
  (refine Qb ?_)
  refine S_takeV 8 7 rfl (by kernel_rfl) (by repeat (first | exact retQ_p | apply seqQ_p | apply blkQ_p | apply rndQ_p | apply cutQ_p)) hS ?_
  (refine Qb ?_)
  refine S_takeV 9 6 rfl (by kernel_rfl) (by repeat (first | exact retQ_p | apply seqQ_p | apply blkQ_p | apply rndQ_p | apply cutQ_p)) hS ?_
  (refine Qb ?_)
  refine S_takeV 10 5 rfl (by kernel_rfl) (by repeat (first | exact retQ_p | apply seqQ_p | apply blkQ_p | apply rndQ_p | apply cutQ_p)) hS ?_
  apply Qst_pu
  · apply P_lslice_lo (m := (p : Int) + (q : Int)) (sz := 7)
    focus rfl
    focus rfl
    focus rfl
    focus rfl
    focus rfl
    focus omega
    focus omega
  focus rfl
  (refine Qb ?_)
  have hq1 := hqZ.sub hq13 (m := 0) (n := p) (by omega) (by omega)
  rw [List.drop_zero] at hq1
  have hq2 := hqZ.sub hq13 (m := p + q) (n := Q.length) (by omega) (by omega)
  rw [List.take_length] at hq2
  have e2 : ((p : Int) + (q : Int)).toNat = p + q := by omega
  rw [e2]
  refine S_any [3] 4 rfl (by kernel_rfl) (all1 ?_)
  apply Lst_appendV (hown := OwnR.nil A Z.heap.size Z) (hy := hq1) (hAB := Nat.le_trans hA (Nat.le_trans sV sZ))
  focus (rw [List.length_take]; simp only [List.length_nil]; omega)
  focus exact Nat.le_refl _
  focus rfl
  focus rfl
  focus rfl
  intro v' X hoX hX _
  have sX := hX.size
  have hS2 := hS.trans (hX.mono hS.size)
  obtain ⟨x1, x2, x3, rfl⟩ := own_slice hoX.row
  apply Lst_nil
  apply rnQ_n
  refine ⟨hS2, ?_⟩
  clear hS
  have hS := hS2
  clear hS2
  refine S_any [5] 3 rfl (by kernel_rfl) (all1 ?_)
  apply Lst_appendV (hown := hoX) (hy := hlZ.below hX) (hAB := Nat.le_trans hA (Nat.le_trans sV sZ))
  focus (rw [List.nil_append, List.length_take]; omega)
  focus exact sX
  focus rfl
  focus rfl
  focus rfl
  intro v' Y hoY hY _
  have hZY := hX.trans hY
  have sY := hZY.size
  have hS2 := bZ.trans (hZY.mono bZ.size)
  obtain ⟨y1, y2, y3, rfl⟩ := own_slice hoY.row
  apply Lst_nil
  apply rnQ_n
  refine ⟨hS2, ?_⟩
  clear hS
  have hS := hS2
  clear hS2
  refine S_any [11] 2 rfl (by kernel_rfl) (all1 ?_)
  apply Lst_appendV (hown := hoY) (hy := hq2.below hZY) (hAB := Nat.le_trans hA (Nat.le_trans sV sZ))
  focus (rw [List.nil_append, List.length_append, List.length_take, List.length_drop]; omega)
  focus exact sY
  focus rfl
  focus rfl
  focus rfl
  intro v' U hoU hU _
  have hZU := hZY.trans hU
  have sU := hZU.size
  have hS2 := bZ.trans (hZU.mono bZ.size)
  rw [List.nil_append] at hoU
  obtain ⟨u1, u3, rfl, _⟩ := hoU.form
  apply Lst_nil
  apply rnQ_n
  refine ⟨hS2, ?_⟩
  clear hS
  have hS := hS2
  clear hS2
  refine S_any [12] 1 rfl (by kernel_rfl) (all1 ?_)
  (apply Lst_call; (focus rfl); (focus rfl))
  have h1 : tot (Q.take p) + tot (Q.drop p) = tot Q := by rw [← tot_append, List.take_append_drop]
  have h2 := tot_drop_le (Q.drop p) q
  rw [List.drop_drop] at h2
  refine (r_Clean (Q.take p ++ L ++ Q.drop (p + q)) A u1 u3 U (Nat.le_trans hA (Nat.le_trans sV (Nat.le_trans sZ sU))) hoU.read (app_all (app_all (fun k hk => hokQ k (List.mem_of_mem_take hk)) okL) (fun k hk => hokQ k (List.mem_of_mem_drop hk))) (app_all (app_all (fun k hk => hms k (List.mem_of_mem_take hk)) hzL) (fun k hk => hms k (List.mem_of_mem_drop hk))) (by rw [tot_append, tot_append]; omega)).mono ?_
  rintro v O ⟨⟨K, hoK, hcl, _, hzK⟩, bO⟩
  have hS2 := hS.trans (bO.mono hS.size)
  obtain ⟨o1, o2, o3, rfl⟩ := own_slice hoK.row
  apply Lst_nil
  apply rnQ_n
  refine ⟨hS2, ?_⟩
  clear hS
  have hS := hS2
  clear hS2
  refine S_any [13] 0 rfl (by kernel_rfl) (all1 ?_)
  (refine Ga ?_)
  apply rnQ_n
  refine ⟨hS, ?_⟩
  refine S_done (by kernel_rfl) ?_
  (refine Ga ?_)
  (apply retQ1; (focus rfl))
  refine ⟨⟨K, hoK.low (Nat.le_trans sV (Nat.le_trans sZ sU)), ⟨hcl.ok, hcl.neat, ?_⟩, hzK⟩, hS⟩
  rw [hcl.us, us_app, us_app, List.map_take, List.map_drop, uni_take hun, uni_drop hun, hus, patU_eq (p := p) (q := q) (by rw [hlU]; rw [← hlQ]; exact hp) (by rw [hlU, ← hlQ]; exact hq)]
end
end Vw
end Go.Proofs.YtglfoofclicfpaaGreatDoor
