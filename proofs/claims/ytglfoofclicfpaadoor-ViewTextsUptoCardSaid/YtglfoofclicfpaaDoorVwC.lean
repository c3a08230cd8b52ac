/- Package view and the reference: Clean. -/
import Derived.Test.YtglfoofclicfpaaDoorVwB
namespace Go.Proofs.YtglfoofclicfpaaDoor
set_option maxRecDepth 100000
namespace Vw
open Go Go.RowKit Sx Tl Fl Val Mk
open Utf (rs tl Tabs cutS)
/-- All their bytes, and one for each. -/
def tot (P : List Rv) : Nat := (P.map fun p => 1 + p.1.tx.size).sum
theorem tot_append (P K : List Rv) : tot (P ++ K) = tot P + tot K := by unfold tot; rw [List.map_append, List.sum_append]
theorem tot_one (p : Rv) : tot [p] = 1 + p.1.tx.size := by unfold tot; rw [List.map_cons, List.map_nil, List.sum_cons, List.sum_nil, Nat.add_zero]
theorem tot_take_succ {P : List Rv} {i : Nat} (h : i < P.length) : tot (P.take (i + 1)) = tot (P.take i) + (1 + P[i].1.tx.size) := by rw [List.take_succ_eq_append_getElem h, tot_append, tot_one]
theorem tot_take_le (P : List Rv) (i : Nat) : tot (P.take i) ≤ tot P := by
  conv => rhs; rw [← List.take_append_drop i P, tot_append]
  omega
theorem tot_len : ∀ P : List Rv, P.length ≤ tot P
  | [] => Nat.zero_le _
  | p :: P => by
    have := tot_len P
    show P.length + 1 ≤ tot ([p] ++ P)
    rw [tot_append, tot_one]
    omega
theorem tot_mem : ∀ {P : List Rv} {p : Rv}, p ∈ P → p.1.tx.size ≤ tot P
  | q :: P, p, h => by
    show _ ≤ tot ([q] ++ P)
    rw [tot_append, tot_one]
    rcases List.mem_cons.1 h with rfl | h
    · omega
    · have := tot_mem h
      omega
theorem last_fst {K : List Rv} {q : Rn} (h : (K.map Prod.fst).getLast? = some q) : ∃ p, K.getLast? = some p ∧ p.1 = q := by
  rw [List.getLast?_map] at h
  cases hk : K.getLast? with
  | none => rw [hk] at h; cases h
  | some p => rw [hk] at h; exact ⟨p, rfl, Option.some.inj h⟩
theorem flat_last {K : List Rv} {p : Rv} {t : ByteArray} : (((K ++ [p]).map pcs).flatten).set (K.length * 7) (.string t) = ((K ++ [(({ p.1 with tx := t } : Rn), p.2)]).map pcs).flatten := by
  have hl : ((K.map pcs).flatten).length = K.length * 7 := by rw [flat_len _ (pcs_len K), List.length_map]
  rw [List.map_append, List.map_append, List.flatten_append, List.flatten_append, List.set_append_right _ _ (by omega), hl, Nat.sub_self]
  rfl
theorem pcs_mod {p : Rv} {t : ByteArray} : (pcs p).set 0 (.string t) = pcs ({ p.1 with tx := t }, p.2) := rfl
section
attribute [local irreducible] RnS RnT
attribute [local irreducible] W Lst Qst Pu seqQ blkQ rndQ cutQ retQ Does Enters IntKind.wrap bits sb World.alloc World.putObj Blk
set_option maxHeartbeats 8000000 in
theorem c_Clean (P : List Rv) (A : Nat) (a : Option Addr) (c : Nat) (w : World) (hA : A ≤ w.heap.size) (h : RunS A w (.slice a P.length c) P) (ok : ∀ p ∈ P, OkR p.1) (hz : ∀ p ∈ P, p.1.ms.length ≤ 1000000) (ht : tot P ≤ 1000000) : Does Tryd.prog 15 #[.slice a P.length c] w fun v w' => (∃ K, OwnR A w.heap.size w' v K ∧ Cln (K.map Prod.fst) (P.map Prod.fst) ∧ tot K ≤ tot P ∧ ∀ k ∈ K, k.1.ms.length ≤ 1000000) ∧ Below w.heap.size w w' := by
  refine Does_of (args := [.slice a P.length c]) Tryd.func15 (by kernel_rfl) rfl rfl rfl rfl rfl ?_
  have hlP := tot_len P
  (refine Ga ?_)
  refine W_loop (α := Nat × List Rv × Value) (fun x => [(3, x.2.2), (7, .slice a P.length c), (8, .int .i64 (P.length : Int)), (9, .int .i64 (x.1 : Int))])
    (fun x X => x.1 ≤ P.length ∧ OwnR A w.heap.size X x.2.2 x.2.1 ∧ Cln (x.2.1.map Prod.fst) ((P.take x.1).map Prod.fst) ∧ tot x.2.1 ≤ tot (P.take x.1) ∧ (∀ k ∈ x.2.1, k.1.ms.length ≤ 1000000) ∧ Below w.heap.size w X) (fun x _ => P.length - x.1) (0, [], .slice none 0 0) ⟨Nat.zero_le _, OwnR.nil _ _ _, Cln.nil, Nat.le_refl _, fun k hk => absurd hk List.not_mem_nil, Bel⟩ ⟨rfl, rfl, rfl, rfl, trivial⟩ ?_
  rintro J ⟨i, K, v⟩ X ⟨hi, hoX, hcl, htt, hzK, bX⟩
  dsimp only at hi hoX hcl htt hzK bX ⊢
  have sX := bX.size
  by_cases hil : i < P.length
  · have hX := h.below bX
    obtain ⟨g, off, rfl, _, hc⟩ := hX.at hil
    have hmk := hX.mks _ (List.getElem_mem hil)
    have hok := ok _ (List.getElem_mem hil)
    have hzp := hz _ (List.getElem_mem hil)
    have htk := tot_take_succ hil
    have htl := tot_take_le P (i + 1)
    have hta : (P.take (i + 1)).map Prod.fst = (P.take i).map Prod.fst ++ [P[i].1] := by rw [List.take_succ_eq_append_getElem hil, List.map_append]; rfl
    obtain ⟨p, hp⟩ : ∃ p, P[i] = p := ⟨_, rfl⟩
    rw [hp] at hc hmk hok hzp htk hta
    (refine Ga ?_)
    apply Lst_pu
    · apply P_idxm (j := i) (sz := 7)
      focus rfl
      focus rfl
      focus rfl
      focus rfl
      focus rfl
      focus omega
    focus rfl
    (refine Ga ?_)
    apply Lst_loadS' (cs := pcs p)
    focus rfl
    focus rfl
    focus rfl
    focus rfl
    focus rfl
    focus exact hc
    focus rfl
    obtain ⟨r, mv⟩ := p
    obtain ⟨ma, mc, he⟩ := hmk.form
    dsimp only at he hok hzp htk hta hmk
    subst he
    obtain ⟨v1, v3, hve, hv13⟩ := hoX.form
    have hKl : K.length ≤ 1000000 := Nat.le_trans (tot_len K) (by omega)
    obtain ⟨n1, hn1⟩ : ∃ n, K.length = n := ⟨_, rfl⟩
    rw [hn1] at hve hv13 hKl
    subst hve
    unfold pcs rcs
    dsimp only
    (refine Ga ?_)
    refine Lst_abs (fun B => Below X.heap.size X B ∧ Blk B X.heap.size (pcs (r, .slice ma r.ms.length mc)) 40) ⟨Bel, by unfold pcs rcs; exact (by (repeat (first | assumption | (apply Blk.below (hb := hb1); rotate_left; (focus ((try simp only [Sx.sizes]); omega)); rotate_right) | (apply Blk.below (hb := hb2); rotate_left; (focus ((try simp only [Sx.sizes]); omega)); rotate_right) | (apply Blk.below (hb := hb3); rotate_left; (focus ((try simp only [Sx.sizes]); omega)); rotate_right) | (apply Blk.below (hb := hb4); rotate_left; (focus ((try simp only [Sx.sizes]); omega)); rotate_right) | (apply Blk.below (hb := hb5); rotate_left; (focus ((try simp only [Sx.sizes]); omega)); rotate_right) | (apply Blk.below (hb := hb6); rotate_left; (focus ((try simp only [Sx.sizes]); omega)); rotate_right) | (apply Blk.below (hb := hb7); rotate_left; (focus ((try simp only [Sx.sizes]); omega)); rotate_right) | (apply Blk.below (hb := hb8); rotate_left; (focus ((try simp only [Sx.sizes]); omega)); rotate_right) | (apply Blk.below (hb := hb9); rotate_left; (focus ((try simp only [Sx.sizes]); omega)); rotate_right) | exact Blk.newE (by first | rfl | ((try simp only [Sx.sizes]); first | done | omega)) _ _ | exact Blk.put_same (by (try simp only [Sx.sizes]); first | done | omega) _ _ | (apply Blk.put_ne; (focus omega)) | apply Blk.alloc | apply Blk.drew)); done)⟩ ?_
    rintro B ⟨hB, kB⟩
    have bB := bX.trans (hB.mono sX)
    have sB := bB.size
    have hoB := hoX.below hB
    have hmB := hmk.below hB
    have lB := kB.lt
    obtain ⟨bo, hbo⟩ : ∃ n, X.heap.size = n := ⟨_, rfl⟩
    rw [hbo] at kB lB ⊢
    unfold pcs rcs at kB
    dsimp only at kB
    clear hc hX hoX hmk
    have hnext : ∀ (K' : List Rv) (v' : Value) (Y : World), OwnR A w.heap.size Y v' K' → Cln (K'.map Prod.fst) ((P.take i).map Prod.fst ++ [r]) → tot K' ≤ tot (P.take (i + 1)) → (∀ k ∈ K', k.1.ms.length ≤ 1000000) → Below w.heap.size w Y → (fun x X => x.1 ≤ P.length ∧ OwnR A w.heap.size X x.2.2 x.2.1 ∧ Cln (x.2.1.map Prod.fst) ((P.take x.1).map Prod.fst) ∧ tot x.2.1 ≤ tot (P.take x.1) ∧ (∀ k ∈ x.2.1, k.1.ms.length ≤ 1000000) ∧ Below w.heap.size w X : Nat × List Rv × Value → World → Prop) (i + 1, K', v') Y := fun K' v' Y h1 h2 h3 h4 h5 => ⟨hil, h1, by dsimp only; rw [hta]; exact h2, h3, h4, h5⟩
    refine Tl.Lst_cut2 (α := Unit) (fun _ => [(3, .slice v1 n1 v3), (5, .pointer (some ⟨bo, 0, none⟩)), (7, .slice (some ⟨g, off, none⟩) P.length c), (8, .int .i64 (P.length : Int)), (9, .int .i64 (i : Int))]) (fun _ Y => Y = B ∧ ¬ Mt r) ?_ ?_
    · cases hem : r.em with
      | true =>
        (refine Ga ?_)
        exact cutQ_n () ⟨rfl, fun hm => absurd (hem.symm.trans hm.1) (by decide)⟩ ⟨rfl, rfl, rfl, rfl, rfl, trivial⟩
      | false =>
        rw [hem] at kB
        by_cases ht0 : r.tx = ⟨#[]⟩
        · (refine Ga ?_)
          refine rndQ_n (α := Nat × List Rv × Value) (i + 1, K, .slice v1 n1 v3) (hnext _ _ _ hoB (hcl.skip ⟨hem, ht0⟩) (by omega) hzK bB) ⟨rfl, rfl, rfl, ?_, trivial⟩ (by dsimp only; omega)
          exact congrArg (Value.int .i64) (by dsimp only; omega)
        · (refine Ga ?_)
          exact cutQ_n () ⟨rfl, fun hm => ht0 hm.2⟩ ⟨rfl, rfl, rfl, rfl, rfl, trivial⟩
    rintro J _ Y ⟨rfl, hnm⟩
    have hne := not_mt hok hnm
    apply W_seq
    refine Tl.W_cutS (α := World) (fun _ => [(3, .slice v1 n1 v3), (5, .pointer (some ⟨bo, 0, none⟩)), (7, .slice (some ⟨g, off, none⟩) P.length c), (8, .int .i64 (P.length : Int)), (9, .int .i64 (i : Int))]) (fun Z Y' => Y' = Z ∧ Below Y.heap.size Y Z ∧ ∀ q, K.getLast? = some q → ¬ Joins q.1 r) ?_ ?_
    · skip
      rcases List.eq_nil_or_concat K with rfl | ⟨K', q, rfl⟩
      · obtain rfl : n1 = 0 := hn1.symm
        have hj1 : arith .sub .i64 ((0 : Nat) : Int) 1 = -1 := by
          show IntKind.i64.wrap (((0 : Nat) : Int) - 1) = -1
          rw [show ((0 : Nat) : Int) - 1 = -1 by omega]
          exact wi64 (by omega) (by omega)
        (refine Ga ?_)
        refine W_draw 23 (fun A' => A' = World.drew _) rfl (by kernel_rfl) rfl ?_
        (refine Qa ?_)
        rintro _ rfl
        (refine Ga ?_)
        (refine Gf ?_)
        (refine Ga ?_)
        exact cutQ_n Y.drew ⟨rfl, Below.drew (Below.refl _ _), fun q hq => by cases hq⟩ ⟨rfl, rfl, rfl, rfl, rfl, trivial⟩
      · rw [List.concat_eq_append] at *
        have hkl : (K' ++ [q]).length = K'.length + 1 := by rw [List.length_append, List.length_singleton]
        rw [hkl] at hn1
        obtain ⟨k, hk⟩ : ∃ k, K'.length = k := ⟨_, rfl⟩
        have hn2 : n1 = k + 1 := by omega
        subst hn2
        have hj1 : arith .sub .i64 ((k + 1 : Nat) : Int) 1 = (k : Int) := by
          have : ((k + 1 : Nat) : Int) - 1 = (k : Int) := by omega
          show IntKind.i64.wrap (((k + 1 : Nat) : Int) - 1) = _
          rw [this]
          exact wi64 (by omega) (by omega)
        have hgl : ∀ h, (K' ++ [q])[K'.length]'h = q := fun _ => by simp
        have hlast : (K' ++ [q]).getLast? = some q := List.getLast?_concat
        have hmq := hoB.mks q (List.mem_append_right _ List.mem_cons_self)
        have hzq := hzK q (List.mem_append_right _ List.mem_cons_self)
        have hokq := hcl.ok q.1 (by rw [List.map_append]; exact List.mem_append_right _ List.mem_cons_self)
        obtain ⟨g1, off1, rfl, _, hcq⟩ := hoB.read.at (i := K'.length) (by omega)
        rw [hgl, hk] at hcq
        obtain ⟨qa, qc, he⟩ := hmq.form
        obtain ⟨qr, qm⟩ := q
        dsimp only at he hzq hokq hmq hcq
        subst he
        have hce := hcq 1 (.bool qr.em) rfl
        have hcm := hcq 6 _ rfl
        have hct := hcq 0 (.string qr.tx) rfl
        cases hem : r.em with
        | true =>
          rw [hem] at kB
          (refine Ga ?_)
          refine W_draw 23 (fun A' => A' = World.drew _) rfl (by kernel_rfl) rfl ?_
          (refine Qa ?_)
          rintro _ rfl
          (refine Ga ?_)
          (refine Gf ?_)
          (refine Ga ?_)
          exact cutQ_n Y.drew ⟨rfl, Below.drew (Below.refl _ _), fun q hq hj => absurd (hem.symm.trans hj.2.1) (by decide)⟩ ⟨rfl, rfl, rfl, rfl, rfl, trivial⟩
        | false =>
          rw [hem] at kB
          cases hqe : qr.em with
          | true =>
            rw [hqe] at hce
            (refine Ga ?_)
            refine W_draw 23 (fun A' => A' = World.drew _) rfl (by kernel_rfl) rfl ?_
            (refine Qa ?_)
            apply Qst_pu
            · apply P_idxm (j := k) (sz := 7)
              focus rfl
              focus rfl
              focus rfl
              focus rfl
              focus rfl
              focus omega
            focus rfl
            (refine Qa ?_)
            rintro _ rfl
            (refine Ga ?_)
            (refine Gf ?_)
            (refine Ga ?_)
            refine cutQ_n Y.drew ⟨rfl, Below.drew (Below.refl _ _), fun q hq hj => ?_⟩ ⟨rfl, rfl, rfl, rfl, rfl, trivial⟩
            rw [hlast] at hq
            cases hq
            exact absurd (hqe.symm.trans hj.1) (by decide)
          | false =>
            rw [hqe] at hce
            (refine Ga ?_)
            refine W_draw 23 (fun A' => A' = World.drew _) rfl (by kernel_rfl) rfl ?_
            (refine Qa ?_)
            apply Qst_pu
            · apply P_idxm (j := k) (sz := 7)
              focus rfl
              focus rfl
              focus rfl
              focus rfl
              focus rfl
              focus omega
            focus rfl
            (refine Qa ?_)
            apply Qst_pu
            · apply P_idxm (j := k) (sz := 7)
              focus rfl
              focus rfl
              focus rfl
              focus rfl
              focus rfl
              focus omega
            focus rfl
            (refine Qa ?_)
            rintro _ rfl
            have bZ := Below.drew bB
            have hYZ := Below.drew (Below.refl Y.heap.size Y)
            generalize Y.drew = Z at *
            (refine Ga ?_)
            (apply Lst_call; (focus rfl); (focus rfl))
            refine (Mk.c_MSame qr.ms r.ms qa ma qc mc hzq (fun x hx => (hokq.ms x hx).2) (fun x hx => (hok.ms x hx).2) Z (hmq.below hYZ).read (hmB.below hYZ).read).mono ?_
            rintro v V ⟨rfl, hV⟩
            have hYV := hYZ.trans (hV.mono hYZ.size)
            have hsc := sameL_cl (fun x hx => (hokq.ms x hx).2) (fun x hx => (hok.ms x hx).2)
            cases hsm : sameL qr.ms r.ms with
            | false =>
              (refine Ga ?_)
              refine cutQ_n V ⟨rfl, hYV, fun q hq hj => ?_⟩ ⟨rfl, rfl, rfl, rfl, rfl, trivial⟩
              rw [hlast] at hq
              cases hq
              rw [hsc.2 hj.2.2] at hsm
              cases hsm
            | true =>
              have hjn : Joins qr r := ⟨hqe, hem, hsc.1 hsm⟩
              have hoV := hoB.below hYV
              have kV := kB.below hYV lB
              have bV := bB.trans (hYV.mono sB)
              have lV := kV.lt
              have hctV := cell_below hYV hct
              have htq : qr.tx.size ≤ tot K' + (1 + qr.tx.size) := by omega
              have htK : tot (K' ++ [((qr, .slice qa qr.ms.length qc) : Rv)]) = tot K' + (1 + qr.tx.size) := by rw [tot_append, tot_one]
              have hsz2 : qr.tx.size + r.tx.size ≤ 9223372036854775807 := by omega
              have hrow : V.drew.ownsRow w.heap.size 40 7 (.slice (some ⟨g1, off1, none⟩) (k + 1) v3) (k + 1) ((K' ++ [((qr, .slice qa qr.ms.length qc) : Rv)]).map pcs).flatten := by
                have h9 := hoV.row
                rw [hkl, hk] at h9
                exact own_drew h9
              have hfl : ((K' ++ [((qr, .slice qa qr.ms.length qc) : Rv)]).map pcs).flatten.length = (k + 1) * 7 := by rw [flat_len _ (pcs_len _), List.length_map, hkl, hk]
              obtain ⟨g2, c2, l2, e2, _, hgB, kl, hl2, hset⟩ := own_set hrow (k := k * 7) (by rw [hfl]; omega)
              cases e2
              have hs2 := hset (.string (qr.tx ++ r.tx))
              have hctV0 : V.cell? ⟨g1, 0 + k * 7, none⟩ = some (.string qr.tx) := hctV
              have hctV1 : V.cell? ⟨g1, k * 7, none⟩ = some (.string qr.tx) := by rw [← Nat.zero_add (k * 7)]; exact hctV
              have hfl2 := flat_last (K := K') (p := (qr, .slice qa qr.ms.length qc)) (t := qr.tx ++ r.tx)
              rw [hk] at hfl2
              rw [hfl2] at hs2
              (refine Ga ?_)
              refine W_draw 10 (fun A' => A' = World.drew _) rfl (by kernel_rfl) rfl ?_
              (refine Qa ?_)
              apply Qst_pu
              · apply P_idxm (j := k) (sz := 7)
                focus rfl
                focus rfl
                focus rfl
                focus rfl
                focus rfl
                focus omega
              focus rfl
              (refine Qa ?_)
              apply Qst_pu
              · apply P_idxm (j := k) (sz := 7)
                focus rfl
                focus rfl
                focus rfl
                focus rfl
                focus rfl
                focus omega
              focus rfl
              (refine Qa ?_)
              rintro _ rfl
              apply Lst_storeN (v := .string (qr.tx ++ r.tx)) (hb := kl)
              focus rfl
              focus constructor
              focus rfl
              focus rfl
              focus rfl
              focus rfl
              focus exact hl2
              have hgl2 : g1 < V.drew.heap.size := lt_of_some (by unfold Blk at kl; exact kl)
              (refine Ga ?_)
              refine rndQ_n (α := Nat × List Rv × Value) (i + 1, K' ++ [(({ qr with tx := qr.tx ++ r.tx } : Rn), .slice qa qr.ms.length qc)], .slice (some ⟨g1, 0, none⟩) (k + 1) v3) (hnext _ _ _ ⟨?_, fun p hp => ?_⟩ ?_ ?_ (fun p hp => ?_) (Sx.Below.put (Below.drew bV) hgB _)) ⟨rfl, rfl, rfl, ?_, trivial⟩ (by dsimp only; omega)
              · rw [show (K' ++ [(({ qr with tx := qr.tx ++ r.tx } : Rn), Value.slice qa qr.ms.length qc)]).length = k + 1 by rw [List.length_append, List.length_singleton, hk]]
                exact hs2
              · have h9 : MkO A V.drew p.2 p.1.ms := by
                  rcases List.mem_append.1 hp with hp | hp
                  · exact (hoV.mks p (List.mem_append_left _ hp)).below (Below.drew (Below.refl _ _))
                  · rw [List.mem_singleton.1 hp]
                    exact (hoV.mks (qr, .slice qa qr.ms.length qc) (List.mem_append_right _ List.mem_cons_self)).below (Below.drew (Below.refl _ _))
                refine MkO.row h9 hrow hA (by simp only [Sx.sizes]; exact Nat.le_refl _) fun b _ hb => World.putObj_heap_other fun e => hb ?_
                rw [e]
                rfl
              · rw [List.map_append] at hcl ⊢
                exact Cln.join hcl hok hjn
              · rw [tot_append, tot_one]
                show tot K' + (1 + (qr.tx ++ r.tx).size) ≤ _
                rw [ByteArray.size_append]
                omega
              · rcases List.mem_append.1 hp with hp | hp
                · exact hzK p (List.mem_append_left _ hp)
                · rw [List.mem_singleton.1 hp]
                  exact hzq
              · exact congrArg (Value.int .i64) (by dsimp only; omega)
    · rintro J Z Y' ⟨rfl, hYZ, hnj⟩
      have hoZ := hoB.below hYZ
      have kZ := kB.below hYZ lB
      have hmZ := hmB.below hYZ
      have bZ := bB.trans (hYZ.mono sB)
      have sZ := bZ.size
      have lZ := kZ.lt
      (refine Ga ?_)
      (apply Lst_call; (focus rfl); (focus rfl))
      refine (c_own (r, .slice ma r.ms.length mc) A Y' hmZ hzp).mono ?_
      rintro v V ⟨⟨mv', rfl, hmV⟩, hV⟩
      have hoV := hoZ.below hV
      have bV := bZ.trans (hV.mono sZ)
      have sV := bV.size
      obtain ⟨va, vc, he⟩ := hmV.form
      subst he
      unfold pcs rcs
      dsimp only
      (refine Ga ?_)
      (apply Lst_slit; (focus rfl); (focus rfl); (focus rfl); (focus rfl); (focus rfl); (focus rfl); (focus rfl); (focus rfl); (focus rfl); (focus (repeat (first | apply FillO.nil | (apply FillO.cons; (focus constructor); (focus rfl); (focus rfl); (focus (repeat constructor)))))); (focus ((try simp only [Sx.sizes]); first | done | rfl)); (focus rfl))
      refine Lst_abs (fun E => Below V.heap.size V E ∧ Blk E V.heap.size (pcs (cl r, .slice va (cl r).ms.length vc)) 40) ⟨Bel, by unfold pcs rcs; exact (by (repeat (first | assumption | (apply Blk.below (hb := hb1); rotate_left; (focus ((try simp only [Sx.sizes]); omega)); rotate_right) | (apply Blk.below (hb := hb2); rotate_left; (focus ((try simp only [Sx.sizes]); omega)); rotate_right) | (apply Blk.below (hb := hb3); rotate_left; (focus ((try simp only [Sx.sizes]); omega)); rotate_right) | (apply Blk.below (hb := hb4); rotate_left; (focus ((try simp only [Sx.sizes]); omega)); rotate_right) | (apply Blk.below (hb := hb5); rotate_left; (focus ((try simp only [Sx.sizes]); omega)); rotate_right) | (apply Blk.below (hb := hb6); rotate_left; (focus ((try simp only [Sx.sizes]); omega)); rotate_right) | (apply Blk.below (hb := hb7); rotate_left; (focus ((try simp only [Sx.sizes]); omega)); rotate_right) | (apply Blk.below (hb := hb8); rotate_left; (focus ((try simp only [Sx.sizes]); omega)); rotate_right) | (apply Blk.below (hb := hb9); rotate_left; (focus ((try simp only [Sx.sizes]); omega)); rotate_right) | exact Blk.newE (by first | rfl | ((try simp only [Sx.sizes]); first | done | omega)) _ _ | exact Blk.put_same (by (try simp only [Sx.sizes]); first | done | omega) _ _ | (apply Blk.put_ne; (focus omega)) | apply Blk.alloc | apply Blk.drew)); done)⟩ ?_
      rintro E ⟨hE, kE⟩
      have bE := bV.trans (hE.mono sV)
      apply Lst_appendV (hown := hoV.below hE) (hy := one_run kE (hmV.below hE)) (hAB := hA)
      focus (have hKt := tot_len K; simp only [List.length_singleton]; omega)
      focus exact bE.size
      focus rfl
      focus rfl
      focus rfl
      intro v' U hoU hU _
      obtain ⟨u1, u3, rfl, _⟩ := hoU.form
      (refine Ga ?_)
      refine rndQ_n (α := Nat × List Rv × Value) (i + 1, K ++ [(cl r, .slice va (cl r).ms.length vc)], _) (hnext _ _ _ hoU ?_ ?_ (fun p hp => ?_) (bE.trans (hU.mono (Nat.le_refl _)))) ⟨rfl, rfl, rfl, ?_, trivial⟩ (by dsimp only; omega)
      · rw [List.map_append]
        refine Cln.push hcl (ok_cl hok) (usR_cl r) hne fun q hq hj => ?_
        obtain ⟨p, hp, rfl⟩ := last_fst hq
        refine hnj p hp ⟨hj.1, hj.2.1, ?_⟩
        rw [hj.2.2]
        exact map_clM r.ms
      · rw [tot_append, tot_one]
        show tot K + (1 + r.tx.size) ≤ _
        omega
      · rcases List.mem_append.1 hp with hp | hp
        · exact hzK p hp
        · rw [List.mem_singleton.1 hp]
          show (r.ms.map clM).length ≤ _
          rw [List.length_map]
          exact hzp
      · exact congrArg (Value.int .i64) (by dsimp only; omega)
  · obtain rfl : i = P.length := by omega
    obtain ⟨v1, v3, rfl, hv13⟩ := hoX.form
    (refine Ga ?_)
    (apply retQ1; (focus rfl))
    rw [List.take_length] at hcl htt
    exact ⟨⟨K, hoX, hcl, htt, hzK⟩, bX⟩
end
end Vw
end Go.Proofs.YtglfoofclicfpaaDoor
