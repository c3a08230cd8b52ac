/- SeqStays' walk. -/
import Derived.Test.YtmammcgdjjldbaaSqAll
import Derived.Test.YtmammcgdjjldbaaSqBetween
namespace Go.Proofs.Ytmammcgdjjldbaa
set_option maxRecDepth 100000
namespace Sq
open Go Go.RowKit Sx Tl
theorem id_at {w : World} {v1 : Option Addr} {n c : Nat} {us : List Id} (h : SRows w 2 (.slice v1 n c) (us.map idcs)) {k : Nat} (hk : k < us.length) : ∃ g off, v1 = some ⟨g, off, none⟩ ∧ ∀ A, Grown w A → ∀ j u, (idcs us[k])[j]? = some u → A.cell? ⟨g, off + k * 2 + j, none⟩ = some u := by
  obtain ⟨b, off, rfl, _, hc⟩ := h.at (i := k) (by rw [List.length_map]; exact hk)
  refine ⟨b, off, rfl, fun A hA j u hu => cell_below hA (hc j u ?_)⟩
  rw [List.getElem_map]
  exact hu
theorem ids_split {t : Fo} {A B : List Un} (h : t.flat = A ++ B) : t.ids = A.map (·.id) ++ B.map (·.id) := by unfold Fo.ids; rw [h, List.map_append]
theorem OwnI.keep {B : Nat} {w w' : World} {v : Value} {ks : List Id} {F F' : Nat → Prop} (h : OwnI B w v ks) (hT : Turn F F' w w') (hn : ∀ g, v.ownBlock = some g → ¬ F g) : OwnI B w' v ks ∧ ∀ g, v.ownBlock = some g → ¬ F' g :=
  ⟨own_kept h fun g hg => hT.block g (own_ltg h hg) (hn g hg), fun g hg hf => hn g hg ((hT.own g (own_ltg h hg)).1 hf)⟩
theorem ucs_id {u : Un} {j : Nat} {v : Value} (h : (idcs u.id)[j]? = some v) : (ucs u)[j]? = some v := by
  have hj : j < (idcs u.id).length := (List.getElem?_eq_some_iff.1 h).1
  have e : ucs u = idcs u.id ++ (idcs u.l ++ idcs u.r) := rfl
  rw [e, List.getElem?_append_left hj]
  exact h
theorem cell_turn {F F' : Nat → Prop} {w w' : World} {b o : Nat} {v : Value} (hT : Turn F F' w w') (hn : ¬ F b) (h : w.cell? ⟨b, o, none⟩ = some v) : w'.cell? ⟨b, o, none⟩ = some v := by
  rw [World.cell?_of_block (hT.block b (cell_lt h) hn)]
  exact h
attribute [local irreducible] W Lst Qst Pu seqQ blkQ rndQ cutQ retQ Does Enters IntKind.wrap bits sb World.alloc World.putObj Blk
theorem law_SeqStays (zs : List Int) (a : Option Addr) (c : Nat) (hz : ∀ z ∈ zs, 0 ≤ z ∧ z < 65536) (w : World) (h : Ints w .u16 (.slice a zs.length c) zs) :
    Does Try.prog 5 #[.slice a zs.length c] w fun v w' => v = .bool true ∧ Below w.heap.size w w' := by
  refine Does_of (args := [.slice a zs.length c]) Try.func5 (by kernel_rfl) rfl rfl rfl rfl rfl ?_
  (refine Ga ?_)
  (apply Lst_call; (focus rfl); (focus rfl))
  refine (c_known w).mono ?_
  rintro v w1 ⟨rfl, hb1⟩
  by_cases hl : zs.length ≤ 40
  · have h1 := h.below hb1 (Nat.le_refl _)
    (refine Ga ?_)
    (apply Lst_call; (focus rfl); (focus rfl))
    refine (c_grown zs a c hz (by omega) w1 h1).mono ?_
    rintro v w2 ⟨us, hO, hul, hok, hsm, hb2⟩
    have b2 := hb1.trans (hb2.mono hb1.size)
    obtain ⟨v1, v2, v3, rfl⟩ := own_slice hO
    have hrow := hO.rows
    obtain ⟨_, _, hform⟩ := own_form hO
    obtain ⟨hfe, _⟩ := hform
    injection hfe with e1 e2 e3
    subst e2
    (refine Ga ?_)
    (apply Lst_call; (focus rfl); (focus rfl))
    refine (c_New w2).mono ?_
    rintro v w3 ⟨p, F0, rfl, hS0, hlow0, hb3⟩
    (refine Ga ?_)
    have sS := hb3.size
    refine W_loop (α := Nat × (Nat → Prop) × Value) (fun x => [(3, .slice v1 us.length v3), (4, .pointer (some ⟨p, 0, none⟩)), (5, x.2.2), (6, .int .i64 (x.1 : Int))])
      (fun x A => x.1 ≤ us.length ∧ SqAt A p x.2.1 (Fo.putL .nil (us.take x.1)) ∧ (∀ g, x.2.1 g → w2.heap.size ≤ g) ∧ Below w2.heap.size w2 A ∧ OwnI w2.heap.size A x.2.2 (Fo.putL .nil (us.take x.1)).ids ∧ ∀ g, x.2.2.ownBlock = some g → ¬ x.2.1 g) (fun x _ => us.length - x.1) (0, F0, .slice none 0 0) ⟨Nat.zero_le _, hS0, hlow0, hb3, OwnI.nil _ _, fun g hg => by cases hg⟩ ⟨rfl, rfl, rfl, rfl, trivial⟩ ?_
    clear hS0 hlow0 hb3 sS
    rintro J ⟨k, F, was⟩ A ⟨hk, hS, hlow, hbA, hw, hwn⟩
    dsimp only at hk hS hlow hw hwn ⊢
    by_cases hkl : k < us.length
    · obtain ⟨g, off, rfl, hc⟩ := unit_at hrow hkl
      have hg2 : g < w2.heap.size := cell_lt (hc w2 (Below.refl _ _) 0 _ rfl)
      have hcA := hc A hbA
      obtain ⟨hmay, hins⟩ := take_put hkl hok
      have hsz : (Fo.putL .nil (us.take k)).sz ≤ 60 := by
        have := Fo.putL_sz Fo.Good.nil (take_ok k hok)
        rw [nil_sz, List.length_take] at this
        omega
      obtain ⟨ρ, hfit⟩ := hS.fits
      obtain ⟨P, R, hP1, hP2, hPl, hPr⟩ := Fo.between hS.good hfit (Fo.may_iff.1 hmay)
      have hM := Fo.may_iff.1 hmay
      have hi : (Fo.insert (Fo.putL .nil (us.take k)) us[k]).1 = Fo.put (Fo.putL .nil (us.take k)) us[k] := by unfold Fo.insert; rw [hmay]; rfl
      obtain ⟨x1, x3, rfl, _⟩ := own_form hw
      (refine Ga ?_)
      apply Lst_pu
      · apply P_idxm (j := k)
        focus rfl
        focus rfl
        focus rfl
        focus rfl
        focus rfl
        focus exact hkl
      focus rfl
      (refine Ga ?_)
      apply Lst_loadS' (cs := ucs us[k])
      focus rfl
      focus rfl
      focus rfl
      focus rfl
      focus rfl
      focus exact hcA
      focus rfl
      (refine Ga ?_)
      (apply Lst_call; (focus rfl); (focus rfl))
      refine (c_Insert us[k] p F _ A (by omega) hS).mono ?_
      rintro v D ⟨rfl, F', hSD, hT⟩
      have hlow' := hT.low hlow hbA.size
      have hbD := hbA.trans hlow'.2
      obtain ⟨hwD, hwnD⟩ := hw.keep hT hwn
      have hputL : Fo.putL .nil (us.take (k + 1)) = Fo.put (Fo.putL .nil (us.take k)) us[k] := hins.symm.trans hi
      have hTg := hS.good
      rw [hmay]
      rw [hi] at hSD
      generalize Fo.putL .nil (us.take k) = T at *
      have hc9 := hc
      generalize us[k] = u at *
      have hszD : (Fo.put T u).sz ≤ 61 := by rw [Fo.put_sz hTg.nd]; omega
      (refine Ga ?_)
      (apply Lst_call; (focus rfl); (focus rfl))
      refine (c_all hSD (by omega)).mono ?_
      rintro v G ⟨hn, hbG⟩
      have hSG := hSD.below hbG
      have hbG2 := hbD.trans (hbG.mono hbD.size)
      obtain ⟨y1, y3, rfl, _⟩ := own_form hn
      have hwG : OwnI w2.heap.size G (.slice x1 T.ids.length x3) T.ids := own_below hwD hbG (Nat.le_refl _)
      have hnn : ∀ g, (Value.slice y1 (Fo.put T u).ids.length y3).ownBlock = some g → ¬ F' g := fun g hg hf => by
        have h1 := (hn.lt g hg).1
        have h2 := hSD.lt hf
        omega
      have hTids : T.ids = P.map (·.id) ++ R.map (·.id) := ids_split hP1
      have hNids : (Fo.put T u).ids = P.map (·.id) ++ u.id :: R.map (·.id) := by rw [ids_split hP2, List.map_cons]
      have hsN : (Fo.put T u).ids.length ≤ 61 := by rw [Fo.ids_len]; exact hszD
      have hsT : T.ids.length ≤ 60 := by rw [Fo.ids_len]; exact hsz
      (refine Ga ?_)
      refine W_cutB (α := Unit) (fun _ => [(3, .slice (some ⟨g, off, none⟩) us.length v3), (4, .pointer (some ⟨p, 0, none⟩)), (5, .slice x1 T.ids.length x3), (6, .int .i64 (k : Int)), (7, .slice y1 (Fo.put T u).ids.length y3), (8, .int .i64 (T.ids.length : Int))]) (fun _ Z => Grown G Z) ?_ ?_
      · refine W_loop (α := Nat) (fun n => [(3, .slice (some ⟨g, off, none⟩) us.length v3), (4, .pointer (some ⟨p, 0, none⟩)), (5, .slice x1 T.ids.length x3), (6, .int .i64 (k : Int)), (7, .slice y1 (Fo.put T u).ids.length y3), (8, .int .i64 ((if n ≤ P.length then n else n - 1 : Nat) : Int)), (9, .int .i64 (n : Int))]) (fun n Z => n ≤ (Fo.put T u).ids.length ∧ Grown G Z) (fun n _ => (Fo.put T u).ids.length - n) 0 ⟨Nat.zero_le _, Below.refl _ _⟩ ⟨rfl, rfl, rfl, rfl, rfl, ?_, rfl, trivial⟩ ?_
        · rw [if_pos (Nat.zero_le _)]
          rfl
        rintro J n Z ⟨hnl, hbZ⟩
        by_cases hn' : n < (Fo.put T u).ids.length
        · obtain ⟨g2, off2, rfl, hcn⟩ := id_at hn.rows hn'
          by_cases hnP : n = P.length
          · have hx : (Fo.put T u).ids[n] = u.id := by
              simp only [hNids]
              rw [List.getElem_append_right (by rw [List.length_map]; omega)]
              simp [hnP]
            rw [hx] at hcn
            (refine Ga ?_)
            refine W_draws (Grown _) rfl (by kernel_rfl) (grown_start _) ?_
            (refine Qb ?_)
            apply Qst_pu
            · apply P_idxm (j := n)
              focus rfl
              focus rfl
              focus rfl
              focus rfl
              focus rfl
              focus exact hn'
            focus rfl
            (refine Qb ?_)
            apply Qst_loadS (cs := idcs u.id)
            focus rfl
            focus rfl
            focus rfl
            focus rfl
            focus rfl
            focus exact fun A9 hA9 => hcn A9 (hbZ.trans (hA9.mono hbZ.size))
            focus rfl
            (refine Qb ?_)
            apply Qst_pu
            · apply P_idxm (j := k)
              focus rfl
              focus rfl
              focus rfl
              focus rfl
              focus rfl
              focus exact hkl
            focus rfl
            (refine Qb ?_)
            apply Qst_loadS (cs := idcs u.id)
            focus rfl
            focus rfl
            focus rfl
            focus rfl
            focus rfl
            focus exact fun A9 hA9 j v hv => hc A9 (hbG2.trans ((hbZ.trans (hA9.mono hbZ.size)).mono hbG2.size)) j v (ucs_id hv)
            focus rfl
            (refine Qb ?_)
            intro w8 hb8
            have hb8' := hbZ.trans (hb8.mono hbZ.size)
            (refine Ga ?_)
            refine rndQ_n (α := Nat) (n + 1) ⟨hn', hb8'⟩ ⟨rfl, rfl, rfl, rfl, rfl, ?_, rfl, trivial⟩ (by omega)
            rw [if_pos (by omega), if_neg (by omega)]
            rfl
          · obtain ⟨m, hm⟩ : ∃ m : Nat, (if n ≤ P.length then n else n - 1) = m := ⟨_, rfl⟩
            have hmT : m < T.ids.length := by
              rw [hTids, List.length_append, List.length_map, List.length_map]
              rw [hNids, List.length_append, List.length_cons, List.length_map, List.length_map] at hn'
              split at hm <;> omega
            obtain ⟨x, hx⟩ : ∃ x, (Fo.put T u).ids[n] = x := ⟨_, rfl⟩
            have hxm : T.ids[m] = x := by
              rw [← hx]
              simp only [hNids, hTids]
              by_cases hlt : n < P.length
              · rw [if_pos (by omega)] at hm
                subst hm
                rw [List.getElem_append_left (by rw [List.length_map]; exact hlt), List.getElem_append_left (by rw [List.length_map]; exact hlt)]
              · rw [if_neg (by omega)] at hm
                rw [List.getElem_append_right (by rw [List.length_map]; omega), List.getElem_append_right (by rw [List.length_map]; omega)]
                rw [List.getElem_cons, dif_neg (by rw [List.length_map]; omega)]
                congr 1
                omega
            have hxu : x ≠ u.id := fun e => hM.new (e ▸ hxm ▸ List.getElem_mem hmT)
            rw [hx] at hcn
            obtain ⟨g3, off3, rfl, hcw⟩ := id_at hwG.rows hmT
            rw [hxm] at hcw
            rw [hm]
            have hid : Eqv Try.prog 3 32 (idv x) (idv u.id) false := by
              have := id_eq x u.id
              rwa [decide_eq_false hxu] at this
            have hid2 : Eqv Try.prog 3 32 (idv x) (idv x) true := by
              have := id_eq x x
              rwa [decide_eq_true rfl] at this
            (refine Ga ?_)
            refine W_draws (Grown _) rfl (by kernel_rfl) (grown_start _) ?_
            (refine Qb ?_)
            apply Qst_pu
            · apply P_idxm (j := n)
              focus rfl
              focus rfl
              focus rfl
              focus rfl
              focus rfl
              focus exact hn'
            focus rfl
            (refine Qb ?_)
            apply Qst_loadS (cs := idcs x)
            focus rfl
            focus rfl
            focus rfl
            focus rfl
            focus rfl
            focus exact fun A9 hA9 => hcn A9 (hbZ.trans (hA9.mono hbZ.size))
            focus rfl
            (refine Qb ?_)
            apply Qst_pu
            · apply P_idxm (j := k)
              focus rfl
              focus rfl
              focus rfl
              focus rfl
              focus rfl
              focus exact hkl
            focus rfl
            (refine Qb ?_)
            apply Qst_loadS (cs := idcs u.id)
            focus rfl
            focus rfl
            focus rfl
            focus rfl
            focus rfl
            focus exact fun A9 hA9 j v hv => hc A9 (hbG2.trans ((hbZ.trans (hA9.mono hbZ.size)).mono hbG2.size)) j v (ucs_id hv)
            focus rfl
            (refine Qb ?_)
            apply Qst_pu
            · apply P_eqA
              focus rfl
              focus rfl
              focus kernel_rfl
              focus exact hid
              focus rfl
            focus rfl
            (refine Qb ?_)
            intro w8 hb8
            have hb8' := hbZ.trans (hb8.mono hbZ.size)
            (refine Ga ?_)
            refine W_draws (Grown _) rfl (by kernel_rfl) (grown_start _) ?_
            (refine Qb ?_)
            apply Qst_pu
            · apply P_idxm (j := m)
              focus rfl
              focus rfl
              focus rfl
              focus rfl
              focus rfl
              focus exact hmT
            focus rfl
            (refine Qb ?_)
            apply Qst_loadS (cs := idcs x)
            focus rfl
            focus rfl
            focus rfl
            focus rfl
            focus rfl
            focus exact fun A9 hA9 => hcw A9 (hb8'.trans (hA9.mono hb8'.size))
            focus rfl
            (refine Qb ?_)
            apply Qst_pu
            · apply P_idxm (j := n)
              focus rfl
              focus rfl
              focus rfl
              focus rfl
              focus rfl
              focus exact hn'
            focus rfl
            (refine Qb ?_)
            apply Qst_loadS (cs := idcs x)
            focus rfl
            focus rfl
            focus rfl
            focus rfl
            focus rfl
            focus exact fun A9 hA9 => hcn A9 (hb8'.trans (hA9.mono hb8'.size))
            focus rfl
            (refine Qb ?_)
            intro w9 hb9
            (refine Ga ?_)
            refine rndQ_n (α := Nat) (n + 1) ⟨hn', hb8'.trans (hb9.mono hb8'.size)⟩ ⟨rfl, rfl, rfl, rfl, rfl, ?_, rfl, trivial⟩ (by omega)
            have e8 : (if n + 1 ≤ P.length then n + 1 else n + 1 - 1) = m + 1 := by
              split at hm <;> split <;> omega
            rw [e8]
            exact congrArg (Value.int .i64) (by omega)
        · have hne : n = (Fo.put T u).ids.length := by omega
          have hk8 : (if n ≤ P.length then n else n - 1) = T.ids.length := by
            have e1 : (Fo.put T u).ids.length = P.length + (R.length + 1) := by rw [hNids, List.length_append, List.length_cons, List.length_map, List.length_map]
            have e2 : T.ids.length = P.length + R.length := by rw [hTids, List.length_append, List.length_map, List.length_map]
            rw [if_neg (by omega)]
            omega
          rw [hk8]
          (refine Ga ?_)
          exact cutQ_n () hbZ ⟨rfl, rfl, rfl, rfl, rfl, rfl, trivial⟩
      · rintro J _ Z hbZ
        have hSZ := hSG.below hbZ
        have hZ2 : Below w2.heap.size w2 Z := hbG2.trans (hbZ.mono hbG2.size)
        have hcZ := hc Z hZ2
        have hgw : g < w2.heap.size := hg2
        have hgF : ¬ F' g := fun hf => by have := hlow'.1 g hf; omega
        have hcZ0 : ∀ j v, (idcs u.id)[j]? = some v → Z.cell? ⟨g, off + k * 6 + j, none⟩ = some v := fun j v hv => hcZ j v (ucs_id hv)
        have hcZ1 : ∀ j v, (idcs u.l)[j]? = some v → Z.cell? ⟨g, off + k * 6 + 2 + j, none⟩ = some v := cells2 (hcZ 2 _ rfl) (hcZ 3 _ rfl) rfl
        have hcZr : ∀ j v, (idcs u.r)[j]? = some v → Z.cell? ⟨g, off + k * 6 + 4 + j, none⟩ = some v := cells2 (hcZ 4 _ rfl) (hcZ 5 _ rfl) rfl
        (refine Ga ?_)
        refine W_draws (fun A => SqAt A p F' (Fo.put T u) ∧ Turn F' F' Z A) rfl (by kernel_rfl) ⟨hSZ.below (Below.drew (Below.refl _ _)), .of (Below.drew (Below.refl _ _))⟩ ?_
        (refine Qb ?_)
        apply Qst_pu
        · apply P_idxm (j := k)
          focus rfl
          focus rfl
          focus rfl
          focus rfl
          focus rfl
          focus exact hkl
        focus rfl
        (refine Qb ?_)
        apply Qst_loadS (cs := idcs u.id)
        focus rfl
        focus rfl
        focus rfl
        focus rfl
        focus rfl
        focus exact fun A9 hA9 j v hv => cell_turn hA9.2 hgF (hcZ0 j v hv)
        focus rfl
        (refine Qb ?_)
        apply Qst_call (.int .i64 (if u.id ∈ (Fo.put T u).ids then ((Fo.put T u).pos u.id : Int) else -1))
        focus rfl
        focus rfl
        focus exact fun A9 hA9 => (s_Find u.id (by omega) hA9.1).mono fun v w' hv => ⟨hv.1, hv.2.1, hA9.2.trans hv.2.2⟩
        (refine Qb ?_)
        apply Qst_pu
        · apply P_idxm (j := k)
          focus rfl
          focus rfl
          focus rfl
          focus rfl
          focus rfl
          focus exact hkl
        focus rfl
        (refine Qb ?_)
        apply Qst_loadS (cs := idcs u.l)
        focus rfl
        focus rfl
        focus rfl
        focus rfl
        focus rfl
        focus exact fun A9 hA9 j v hv => cell_turn hA9.2 hgF (hcZ1 j v hv)
        focus rfl
        (refine Qb ?_)
        apply Qst_call (.int .i64 (if u.l ∈ (Fo.put T u).ids then ((Fo.put T u).pos u.l : Int) else -1))
        focus rfl
        focus rfl
        focus exact fun A9 hA9 => (s_Find u.l (by omega) hA9.1).mono fun v w' hv => ⟨hv.1, hv.2.1, hA9.2.trans hv.2.2⟩
        (refine Qb ?_)
        apply Qst_pu
        · apply P_idxm (j := k)
          focus rfl
          focus rfl
          focus rfl
          focus rfl
          focus rfl
          focus exact hkl
        focus rfl
        (refine Qb ?_)
        apply Qst_loadS (cs := idcs u.r)
        focus rfl
        focus rfl
        focus rfl
        focus rfl
        focus rfl
        focus exact fun A9 hA9 j v hv => cell_turn hA9.2 hgF (hcZr j v hv)
        focus rfl
        (refine Qb ?_)
        apply Qst_call (.int .i64 (if u.r ∈ (Fo.put T u).ids then ((Fo.put T u).pos u.r : Int) else -1))
        focus rfl
        focus rfl
        focus exact fun A9 hA9 => (s_Find u.r (by omega) hA9.1).mono fun v w' hv => ⟨hv.1, hv.2.1, hA9.2.trans hv.2.2⟩
        (refine Qb ?_)
        rintro E ⟨hSE, hTE⟩
        have hnd := Fo.put_nodup hTg.nd hM.new
        have hpu := Fo.pos_at hnd hP2
        have hme : (if u.id ∈ (Fo.put T u).ids then ((Fo.put T u).pos u.id : Int) else -1) = (P.length : Int) := by
          rw [if_pos ((Fo.put_ids hTg.nd _).2 (.inl rfl)), hpu]
        have hTno := hTg.none
        have hmn : Fo.none' ∉ (Fo.put T u).ids := fun h => by
          rcases (Fo.put_ids hTg.nd _).1 h with h | h
          · have := hM.right
            rw [← h] at this
            cases this
          · exact hTno h
        obtain ⟨L, hL⟩ : ∃ L, (if u.l ∈ (Fo.put T u).ids then ((Fo.put T u).pos u.l : Int) else -1) = L := ⟨_, rfl⟩
        have hLlt : -1 ≤ L ∧ L < P.length := by
          rw [← hL]
          by_cases e : u.l = Fo.none'
          · rw [if_neg (by rw [e]; exact hmn)]
            omega
          · have := Fo.pos_lt hP2 (hPl e)
            split <;> omega
        obtain ⟨R', hR⟩ : ∃ R', (if u.r ∈ (Fo.put T u).ids then ((Fo.put T u).pos u.r : Int) else -1) = R' := ⟨_, rfl⟩
        have hPT : P.length ≤ 60 := by
          have := hTids ▸ hsT
          rw [List.length_append, List.length_map] at this
          omega
        have hRgt : (R' = -1 ∨ (P.length : Int) < R') ∧ R' ≤ 100 := by
          rw [← hR]
          by_cases e : u.r = Fo.none'
          · rw [if_neg (by rw [e]; exact hmn)]
            exact ⟨.inl rfl, by omega⟩
          · have h1 := hPr e
            have hP3 : (Fo.put T u).flat = (P ++ [u]) ++ R := by rw [hP2]; simp
            have h2 := Fo.pos_ge hnd hP3 h1
            rw [List.length_append, List.length_singleton] at h2
            have h3 : u.r ∈ (Fo.put T u).ids := by rw [hNids]; exact List.mem_append_right _ (List.mem_cons_of_mem _ h1)
            have h4 : (Fo.put T u).pos u.r < (Fo.put T u).ids.length := List.idxOf_lt_length_iff.2 h3
            rw [if_pos h3]
            exact ⟨.inr (by omega), by omega⟩
        rw [hme, hL, hR]
        have lowE := hTE.low hlow'.1 (Nat.le_trans hbD.size (Nat.le_trans hbG.size hbZ.size))
        have hbE : Below w2.heap.size w2 E := hZ2.trans lowE.2
        have hwZ : OwnI D.heap.size Z (.slice y1 (Fo.put T u).ids.length y3) (Fo.put T u).ids := own_below hn hbZ (Nat.le_refl _)
        have hwE := (OwnI.keep (B := w2.heap.size) (own_low hwZ hbD.size) hTE hnn)
        have hS8 : SqAt E p F' (Fo.putL .nil (us.take (k + 1))) := by rw [hputL]; exact hSE
        have hw8 : OwnI w2.heap.size E (.slice y1 (Fo.put T u).ids.length y3) (Fo.putL .nil (us.take (k + 1))).ids := by rw [hputL]; exact hwE.1
        by_cases hR0 : R' < 0
        · (refine Ga ?_)
          refine rndQ_n (α := Nat × (Nat → Prop) × Value) (k + 1, F', .slice y1 (Fo.put T u).ids.length y3) ⟨hkl, hS8, lowE.1, hbE, hw8, hwE.2⟩ ⟨rfl, rfl, rfl, ?_, trivial⟩ (by dsimp only; omega)
          exact congrArg (Value.int .i64) (by dsimp only; omega)
        · (refine Ga ?_)
          refine rndQ_n (α := Nat × (Nat → Prop) × Value) (k + 1, F', .slice y1 (Fo.put T u).ids.length y3) ⟨hkl, hS8, lowE.1, hbE, hw8, hwE.2⟩ ⟨rfl, rfl, rfl, ?_, trivial⟩ (by dsimp only; omega)
          exact congrArg (Value.int .i64) (by dsimp only; omega)
    · (refine Ga ?_)
      (apply retQ1; (focus rfl))
      exact ⟨rfl, b2.trans (hbA.mono b2.size)⟩
  · (refine Ga ?_)
    (apply retQ1; (focus rfl))
    exact ⟨rfl, hb1⟩
end Sq
end Go.Proofs.Ytmammcgdjjldbaa
