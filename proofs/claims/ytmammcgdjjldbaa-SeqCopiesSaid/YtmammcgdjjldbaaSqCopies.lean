/- SeqCopies' walk. -/
import Derived.Test.YtmammcgdjjldbaaSqTwo
import Derived.Test.YtmammcgdjjldbaaSqCpC
namespace Go.Proofs.Ytmammcgdjjldbaa
set_option maxRecDepth 100000
namespace Sq
open Go Go.RowKit Sx Tl
/-- What At tells: a unit, and whether there is one. -/
def atU (t : Fo) (n : Nat) : Un := if n < t.sz then t.flat.getD n default else ⟨(0, 0), (0, 0), (0, 0)⟩
theorem s_AtU {w : World} {p : Nat} {F : Nat → Prop} {t : Fo} (n : Nat) (h : SqAt w p F t) : Does Try.prog 18 #[.pointer (some ⟨p, 0, none⟩), .int .i64 (n : Int)] w fun v w' => v = .tuple #[.agg (ucs (atU t n)).toArray, .bool (decide (n < t.sz))] ∧ Below w.heap.size w w' := by
  refine (s_At (n : Int) h).mono ?_
  rintro v w' ⟨rfl, hb⟩
  refine ⟨?_, hb⟩
  unfold atU
  by_cases e : n < t.sz
  · rw [if_pos (by omega), if_pos e, decide_eq_true e, Int.toNat_natCast]
  · rw [if_neg (by omega), if_neg e, decide_eq_false e]
/-- A copy that grows beside what it is of. -/
structure Grow (T : Fo) (i : Nat) (tc : Fo) : Prop where
  sz : tc.sz = T.sz + i
  sub : ∀ k ∈ T.ids, k ∈ tc.ids
  new : ∀ k ∈ tc.ids, k ∈ T.ids ∨ (k.1 = 50 ∧ k.2 ≤ i)
theorem Grow.step {T tc : Fo} {i : Nat} {l : Id} (h : Grow T i tc) (hg : Fo.Good tc) (hs : ∀ k ∈ T.ids, k.1 ≤ 4) (hl : l = (0, 0) ∨ l ∈ tc.ids) (hi : i < 100) : Fo.may tc ⟨(50, i + 1), l, (0, 0)⟩ = true ∧ Grow T (i + 1) (Fo.insert tc ⟨(50, i + 1), l, (0, 0)⟩).1 := by
  have hnew : ((50, i + 1) : Id) ∉ tc.ids := fun hm => by
    rcases h.new _ hm with h1 | h1
    · have := hs _ h1
      dsimp only at this
      omega
    · have := h1.2
      dsimp only at this
      omega
  have hr : Fo.rightId (50, i + 1) = true := by
    unfold Fo.rightId Fo.num
    simp only [Bool.and_eq_true, decide_eq_true_eq]
    omega
  have hM : Fo.May tc ⟨(50, i + 1), l, (0, 0)⟩ := ⟨⟨hr, hnew, hl, .inl rfl⟩, .inr (.inl rfl)⟩
  have hm := Fo.may_iff.2 hM
  have e : (Fo.insert tc ⟨(50, i + 1), l, (0, 0)⟩).1 = Fo.put tc ⟨(50, i + 1), l, (0, 0)⟩ := by
    unfold Fo.insert
    rw [hm]
    rfl
  refine ⟨hm, ?_⟩
  rw [e]
  refine ⟨?_, fun k hk => ?_, fun k hk => ?_⟩
  · rw [Fo.put_sz hg.nd, h.sz]
    omega
  · exact (Fo.put_ids hg.nd k).2 (.inr (h.sub k hk))
  · rcases (Fo.put_ids hg.nd k).1 hk with rfl | hk
    · exact .inr ⟨rfl, Nat.le_refl _⟩
    · exact (h.new k hk).imp id fun h => ⟨h.1, Nat.le_succ_of_le h.2⟩
theorem atU_in {t : Fo} {n : Nat} (h : n < t.sz) : (atU t n).id ∈ t.ids := by
  unfold atU
  rw [if_pos h]
  have h1 : n < t.flat.length := h
  rw [List.getD_eq_getElem?_getD, List.getElem?_eq_getElem h1]
  exact List.mem_map.2 ⟨_, List.getElem_mem h1, rfl⟩
theorem SqAt.putX {w : World} {p : Nat} {F : Nat → Prop} {t : Fo} {b : Nat} (h : SqAt w p F t) (hb : ¬ F b) (o : Obj) : SqAt (w.putObj b o) p F t :=
  h.kept rfl rfl rfl (by rw [World.putObj_size]; exact Nat.le_refl _) fun g hg => World.putObj_heap_other fun e => hb (e ▸ hg)
attribute [local irreducible] W Lst Qst Pu seqQ blkQ rndQ cutQ retQ Does Enters IntKind.wrap bits sb World.alloc World.putObj Blk
set_option maxHeartbeats 4000000 in
theorem law_SeqCopies (xs : List Int) (a : Option Addr) (c : Nat) (hx : ∀ z ∈ xs, 0 ≤ z ∧ z < 65536) (zs : List Int) (a2 : Option Addr) (c2 : Nat) (hz : ∀ z ∈ zs, 0 ≤ z ∧ z < 65536) (w : World) (h : Ints w .u16 (.slice a xs.length c) xs) (hh : Ints w .u16 (.slice a2 zs.length c2) zs) :
    Does Try.prog 11 #[.slice a xs.length c, .slice a2 zs.length c2] w fun v w' => v = .bool true ∧ Below w.heap.size w w' := by
  refine Does_of (args := [.slice a xs.length c, .slice a2 zs.length c2]) Try.func11 (by kernel_rfl) rfl rfl rfl rfl rfl ?_
  (refine Ga ?_)
  (apply Lst_call; (focus rfl); (focus rfl))
  refine (c_known w).mono ?_
  rintro v w1 ⟨rfl, hb1⟩
  by_cases hl : xs.length ≤ 30
  · by_cases hl2 : zs.length ≤ 30
    · (refine Ga ?_)
      (apply Lst_call; (focus rfl); (focus rfl))
      refine (c_New w1).mono ?_
      rintro v wa ⟨pa, Fa0, rfl, hSa, hla, hbA0⟩
      (refine Ga ?_)
      (apply Lst_call; (focus rfl); (focus rfl))
      refine (c_New wa).mono ?_
      rintro v wb ⟨pb, Fb0, rfl, hSb, hlb, hbb⟩
      have hTwo : Two w1 wb pa Fa0 .nil pb Fb0 .nil := ⟨hSa.below hbb, hSb, fun g hg hf => by have := hSa.lt hg; have := hlb g hf; omega, hla, fun g hg => Nat.le_trans hbA0.size (hlb g hg), hbA0.trans (hbb.mono hbA0.size)⟩
      clear hSa hSb hla hlb hbb hbA0
      have h1 := (h.below hb1 (Nat.le_refl _)).below hTwo.bel (Nat.le_refl _)
      (refine Ga ?_)
      (apply Lst_call; (focus rfl); (focus rfl))
      refine (c_grown xs a c hx (by omega) wb h1).mono ?_
      rintro v w2 ⟨us, hO, hul, hok, hsm, hb2⟩
      obtain ⟨v1, v2, v3, rfl⟩ := own_slice hO
      have hrow := hO.rows
      obtain ⟨_, _, hform⟩ := own_form hO
      obtain ⟨hfe, _⟩ := hform
      injection hfe with e1 e2 e3
      subst e2
      have hTwo2 := hTwo.grown hb2
      have hng : ∀ g, (Value.slice v1 us.length v3).ownBlock = some g → ¬ Fa0 g ∧ ¬ Fb0 g := fun g hg => by
        have h1 := (hO.lt g hg).1
        exact ⟨fun hf => by have := hTwo.sa.lt hf; omega, fun hf => by have := hTwo.sb.lt hf; omega⟩
      clear hTwo h1 hrow hb2
      (refine Ga ?_)
      refine W_loop (α := Nat × (Nat → Prop) × (Nat → Prop)) (fun x => [(1, .slice a2 zs.length c2), (5, .pointer (some ⟨pa, 0, none⟩)), (6, .pointer (some ⟨pb, 0, none⟩)), (7, .slice v1 us.length v3), (8, .int .i64 (x.1 : Int))])
        (fun x A => x.1 ≤ us.length ∧ Two w1 A pa x.2.1 (Fo.putL .nil (us.take x.1)) pb x.2.2 (Fo.putL .nil (us.take x.1)) ∧ OwnU wb.heap.size A (.slice v1 us.length v3) us ∧ ∀ g, (Value.slice v1 us.length v3).ownBlock = some g → ¬ x.2.1 g ∧ ¬ x.2.2 g) (fun x _ => us.length - x.1) (0, Fa0, Fb0) ⟨Nat.zero_le _, hTwo2, hO, hng⟩ ⟨rfl, rfl, rfl, rfl, rfl, trivial⟩ ?_
      clear hTwo2 hO hng
      rintro J ⟨k, Fa, Fb⟩ A ⟨hk, hT, hO, hng⟩
      dsimp only at hk hT hO hng ⊢
      by_cases hkl : k < us.length
      · obtain ⟨g, off, rfl, hc⟩ := unit_at hO.rows hkl
        obtain ⟨hmay, hins⟩ := take_put hkl hok
        have hsz : (Fo.putL .nil (us.take k)).sz ≤ 60 := by
          have := Fo.putL_sz Fo.Good.nil (take_ok k hok)
          rw [nil_sz, List.length_take] at this
          omega
        (refine Ga ?_)
        apply Lst_pu
        · apply P_idxm (j := k)
          focus rfl
          focus rfl
          focus rfl
          focus rfl
          focus rfl
          focus exact hkl
        focus rfl
        (refine Ga ?_)
        apply Lst_loadS' (cs := ucs us[k])
        focus rfl
        focus rfl
        focus rfl
        focus rfl
        focus rfl
        focus exact hc A (Below.refl _ _)
        focus rfl
        (refine Ga ?_)
        (apply Lst_call; (focus rfl); (focus rfl))
        refine (c_Insert us[k] pa Fa _ A (by omega) hT.sa).mono ?_
        rintro v D ⟨rfl, Fa', hSD, hTD⟩
        rw [hins] at hSD
        have hT2 := hT.a hSD hTD
        have hO2 : OwnU wb.heap.size D _ us := own_kept hO fun g hg => hTD.block g (own_ltg hO hg) (hng g hg).1
        have hng2 : ∀ g', (Value.slice (some ⟨g, off, none⟩) us.length v3).ownBlock = some g' → ¬ Fa' g' ∧ ¬ Fb g' := fun g' hg => ⟨fun hf => (hng g' hg).1 ((hTD.own _ (own_ltg hO hg)).1 hf), (hng g' hg).2⟩
        obtain ⟨g2, off2, he2, hc2⟩ := unit_at hO2.rows hkl
        obtain ⟨rfl, rfl⟩ : g = g2 ∧ off = off2 := by injection he2 with he2; injection he2 with h1 h2; exact ⟨h1, h2⟩
        clear he2 hc
        (refine Ga ?_)
        apply Lst_pu
        · apply P_idxm (j := k)
          focus rfl
          focus rfl
          focus rfl
          focus rfl
          focus rfl
          focus exact hkl
        focus rfl
        (refine Ga ?_)
        apply Lst_loadS' (cs := ucs us[k])
        focus rfl
        focus rfl
        focus rfl
        focus rfl
        focus rfl
        focus exact hc2 D (Below.refl _ _)
        focus rfl
        (refine Ga ?_)
        (apply Lst_call; (focus rfl); (focus rfl))
        refine (c_Insert us[k] pb Fb _ D (by omega) hT2.sb).mono ?_
        rintro v D2 ⟨rfl, Fb', hSD2, hTD2⟩
        rw [hins] at hSD2
        have hT3 := hT2.b hSD2 hTD2
        have hO3 : OwnU wb.heap.size D2 _ us := own_kept hO2 fun g hg => hTD2.block g (own_ltg hO2 hg) (hng2 g hg).2
        have hng3 : ∀ g', (Value.slice (some ⟨g, off, none⟩) us.length v3).ownBlock = some g' → ¬ Fa' g' ∧ ¬ Fb' g' := fun g' hg => ⟨(hng2 g' hg).1, fun hf => (hng2 g' hg).2 ((hTD2.own _ (own_ltg hO2 hg)).1 hf)⟩
        (refine Ga ?_)
        refine rndQ_n (α := Nat × (Nat → Prop) × (Nat → Prop)) (k + 1, Fa', Fb') ⟨hkl, hT3, hO3, hng3⟩ ⟨rfl, rfl, rfl, rfl, ?_, trivial⟩ (by dsimp only; omega)
        exact congrArg (Value.int .i64) (by dsimp only; omega)
      · obtain rfl : k = us.length := by omega
        rw [List.take_length] at hT
        have hsz : (Fo.putL .nil us).sz = us.length := by
          have := Fo.putL_sz Fo.Good.nil hok
          rw [nil_sz] at this
          omega
        have hids : ∀ k, k ∈ (Fo.putL .nil us).ids → k.1 ≤ 4 := fun k hk => by
          rcases (Fo.putL_ids Fo.Good.nil hok k).1 hk with h | ⟨u, hu, rfl⟩
          · cases h
          · exact (hsm u hu).2.1
        generalize Fo.putL .nil us = T at *
        have hT30 : T.sz ≤ 30 := by omega
        clear hO hng hsm hok hul hk hkl
        (refine Ga ?_)
        (apply Lst_call; (focus rfl); (focus rfl))
        refine (c_Copy hT.sa (by omega)).mono ?_
        rintro v A1 ⟨pc, Fc0, rfl, hSc, hlc, hbc⟩
        have hz1 := (hh.below hb1 (Nat.le_refl _)).below hT.bel (Nat.le_refl _)
        (refine Ga ?_)
        refine W_loop (α := Nat × (Nat → Prop) × Fo) (fun x => [(1, .slice a2 zs.length c2), (5, .pointer (some ⟨pa, 0, none⟩)), (6, .pointer (some ⟨pb, 0, none⟩)), (9, .pointer (some ⟨pc, 0, none⟩)), (10, .int .i64 (x.1 : Int))])
          (fun x Z => x.1 ≤ zs.length ∧ Below A.heap.size A Z ∧ SqAt Z pc x.2.1 x.2.2 ∧ (∀ g, x.2.1 g → A.heap.size ≤ g) ∧ Grow T x.1 x.2.2) (fun x _ => zs.length - x.1) (0, Fc0, T) ⟨Nat.zero_le _, hbc, hSc, hlc, ⟨rfl, fun _ h => h, fun _ h => .inl h⟩⟩ ⟨rfl, rfl, rfl, rfl, rfl, trivial⟩ ?_
        clear hSc hlc hbc
        rintro J ⟨i, Fc, tc⟩ Z ⟨hi, hbZ, hSZ, hlZ, hG⟩
        dsimp only at hi hbZ hSZ hlZ hG ⊢
        by_cases hil : i < zs.length
        · obtain ⟨hz0, hz9⟩ := hz _ (List.getElem_mem hil)
          have hzZ := hz1.below hbZ (Nat.le_refl _)
          have htz : tc.sz ≤ 60 := by have := hG.sz; omega
          (refine Ga ?_)
          (apply Lst_call; (focus rfl); (focus rfl))
          refine (c_id 50 (i + 1) Z).mono ?_
          rintro v Z1 ⟨rfl, hbZ1⟩
          unfold idv idcs
          obtain ⟨W1, hW1⟩ : ∃ W1, (Z1.alloc (.cells [.int .u64 0, .int .u64 0, .int .u64 0, .int .u64 0, .int .u64 0, .int .u64 0].toArray 34)).putObj Z1.heap.size (.cells [.int .u64 ((50 : Nat) : Int), .int .u64 ((i + 1 : Nat) : Int), .int .u64 0, .int .u64 0, .int .u64 0, .int .u64 0].toArray 34) = W1 := ⟨_, rfl⟩
          have bW1 : Below Z.heap.size Z W1 := by rw [← hW1]; have := hbZ1.size; exact Bel
          have kW1 : Blk W1 Z1.heap.size [.int .u64 ((50 : Nat) : Int), .int .u64 ((i + 1 : Nat) : Int), .int .u64 0, .int .u64 0, .int .u64 0, .int .u64 0] 34 := by rw [← hW1]; exact (by (repeat (first | assumption | (apply Blk.below (hb := hb1); rotate_left; (focus ((try simp only [Sx.sizes]); omega)); rotate_right) | (apply Blk.below (hb := hb2); rotate_left; (focus ((try simp only [Sx.sizes]); omega)); rotate_right) | (apply Blk.below (hb := hb3); rotate_left; (focus ((try simp only [Sx.sizes]); omega)); rotate_right) | (apply Blk.below (hb := hb4); rotate_left; (focus ((try simp only [Sx.sizes]); omega)); rotate_right) | (apply Blk.below (hb := hb5); rotate_left; (focus ((try simp only [Sx.sizes]); omega)); rotate_right) | (apply Blk.below (hb := hb6); rotate_left; (focus ((try simp only [Sx.sizes]); omega)); rotate_right) | (apply Blk.below (hb := hb7); rotate_left; (focus ((try simp only [Sx.sizes]); omega)); rotate_right) | (apply Blk.below (hb := hb8); rotate_left; (focus ((try simp only [Sx.sizes]); omega)); rotate_right) | (apply Blk.below (hb := hb9); rotate_left; (focus ((try simp only [Sx.sizes]); omega)); rotate_right) | exact Blk.newE (by first | rfl | ((try simp only [Sx.sizes]); first | done | omega)) _ _ | exact Blk.put_same (by (try simp only [Sx.sizes]); first | done | omega) _ _ | (apply Blk.put_ne; (focus omega)) | apply Blk.alloc | apply Blk.drew)); done)
          have hZ1s : Z.heap.size ≤ Z1.heap.size := hbZ1.size
          have hSW := hSZ.below bW1
          have lW1 := kW1.lt
          (refine Ga ?_)
          rw [hW1]
          clear hW1
          generalize Z1.heap.size = b11 at *
          obtain ⟨gz, oz, rfl, hcz⟩ := (hz1.below (hbZ.trans (bW1.mono hbZ.size)) (Nat.le_refl _)).at hil
          rw [List.getD_eq_getElem?_getD, List.getElem?_eq_getElem hil] at hcz
          dsimp only [Option.getD_some] at hcz
          obtain ⟨zi, hzi⟩ : ∃ zi : Nat, zs[i] = (zi : Int) := ⟨zs[i].toNat, by omega⟩
          rw [hzi] at hcz hz9
          obtain ⟨pl, hpl⟩ : ∃ pl : Nat, ((zi : Int)).tmod ((tc.sz : Int) + 1) = (pl : Int) := ⟨zi % (tc.sz + 1), rfl⟩
          refine W_cutS (α := Nat) (fun y => [(1, .slice (some ⟨gz, oz, none⟩) zs.length c2), (5, .pointer (some ⟨pa, 0, none⟩)), (6, .pointer (some ⟨pb, 0, none⟩)), (9, .pointer (some ⟨pc, 0, none⟩)), (10, .int .i64 (i : Int)), (11, .pointer (some ⟨b11, 0, none⟩)), (12, .pointer (some ⟨y, 0, none⟩)), (13, .bool (decide (pl < tc.sz)))]) (fun y Z' => Grown W1 Z' ∧ W1.heap.size ≤ y ∧ Blk Z' y (ucs (atU tc pl)) 34) ?_ ?_
          · refine W_drawS 17 (fun Z' => Grown W1 Z') rfl rfl ?_
            refine S_takeV 0 16 rfl (by kernel_rfl) (by repeat (first | exact retQ_p | apply seqQ_p | apply blkQ_p | apply rndQ_p | apply cutQ_p)) (grown_start W1) ?_
            (refine Qb ?_)
            refine S_takeV 1 15 rfl (by kernel_rfl) (by repeat (first | exact retQ_p | apply seqQ_p | apply blkQ_p | apply rndQ_p | apply cutQ_p)) (grown_start W1) ?_
            (refine Qb ?_)
            refine S_takeV 2 14 rfl (by kernel_rfl) (by repeat (first | exact retQ_p | apply seqQ_p | apply blkQ_p | apply rndQ_p | apply cutQ_p)) (grown_start W1) ?_
            (refine Qb ?_)
            refine S_takeV 3 13 rfl (by kernel_rfl) (by repeat (first | exact retQ_p | apply seqQ_p | apply blkQ_p | apply rndQ_p | apply cutQ_p)) (grown_start W1) ?_
            apply Qst_pu
            · apply P_idx1 (j := i)
              focus rfl
              focus rfl
              focus rfl
              focus rfl
              focus rfl
              focus exact hil
            focus rfl
            (refine Qb ?_)
            refine S_takeV 4 12 rfl (by kernel_rfl) (by repeat (first | exact retQ_p | apply seqQ_p | apply blkQ_p | apply rndQ_p | apply cutQ_p)) (grown_start W1) ?_
            apply Qst_loadc
            focus rfl
            focus rfl
            focus rfl
            focus exact fun A9 hA9 => cell_below hA9 hcz
            focus rfl
            (refine Qb ?_)
            refine S_takeV 5 11 rfl (by kernel_rfl) (by repeat (first | exact retQ_p | apply seqQ_p | apply blkQ_p | apply rndQ_p | apply cutQ_p)) (grown_start W1) ?_
            (refine Qb ?_)
            refine S_takeV 6 10 rfl (by kernel_rfl) (by repeat (first | exact retQ_p | apply seqQ_p | apply blkQ_p | apply rndQ_p | apply cutQ_p)) (grown_start W1) ?_
            (refine Qb ?_)
            refine S_any [7, 14] 9 rfl (by kernel_rfl) (all2 ?_ ?_)
            · (apply Lst_call; (focus rfl); (focus rfl))
              refine (s_Len (hSW.below (grown_start W1))).mono ?_
              rintro v A' ⟨rfl, rfl⟩
              apply Lst_nil
              apply rnQ_n
              refine ⟨(grown_start W1), ?_⟩
              refine S_takeV 8 8 rfl (by kernel_rfl) (by repeat (first | exact retQ_p | apply seqQ_p | apply blkQ_p | apply rndQ_p | apply cutQ_p)) (grown_start W1) ?_
              (refine Qb ?_)
              refine S_takeV 9 7 rfl (by kernel_rfl) (by repeat (first | exact retQ_p | apply seqQ_p | apply blkQ_p | apply rndQ_p | apply cutQ_p)) (grown_start W1) ?_
              apply Qst_pu
              · apply P_rem
                focus rfl
                focus rfl
                focus omega
                focus exact hpl
              focus rfl
              (refine Qb ?_)
              refine S_any [10, 14] 6 rfl (by kernel_rfl) (all2 ?_ ?_)
              · (apply Lst_call; (focus rfl); (focus rfl))
                refine (s_AtU pl (hSW.below (grown_start W1))).mono ?_
                rintro v Y1 ⟨rfl, hbY1⟩
                have bY1 : Grown W1 Y1 := ((grown_start W1) : Grown W1 _).trans (hbY1.mono ((grown_start W1) : Grown W1 _).size)
                have sY1 := bY1.size
                obtain ⟨x, hx⟩ : ∃ x, atU tc pl = x := ⟨_, rfl⟩
                rw [hx]
                unfold ucs
                apply Lst_nil
                apply rnQ_n
                refine ⟨bY1, ?_⟩
                refine S_takeV 11 5 rfl (by kernel_rfl) (by repeat (first | exact retQ_p | apply seqQ_p | apply blkQ_p | apply rndQ_p | apply cutQ_p)) bY1 ?_
                (refine Qb ?_)
                refine S_takeV 12 4 rfl (by kernel_rfl) (by repeat (first | exact retQ_p | apply seqQ_p | apply blkQ_p | apply rndQ_p | apply cutQ_p)) bY1 ?_
                (refine Qb ?_)
                refine S_takeV 13 3 rfl (by kernel_rfl) (by repeat (first | exact retQ_p | apply seqQ_p | apply blkQ_p | apply rndQ_p | apply cutQ_p)) bY1 ?_
                (refine Qb ?_)
                refine S_any [14] 2 rfl (by kernel_rfl) (all1 ?_)
                obtain ⟨Y2, hY2⟩ : ∃ Y2, Y1.alloc (.cells [.int .u64 0, .int .u64 0, .int .u64 0, .int .u64 0, .int .u64 0, .int .u64 0].toArray 34) = Y2 := ⟨_, rfl⟩
                have bY2 : Grown W1 Y2 := by rw [← hY2]; exact Bel
                have kY2 : Blk Y2 Y1.heap.size [.int .u64 0, .int .u64 0, .int .u64 0, .int .u64 0, .int .u64 0, .int .u64 0] 34 := by rw [← hY2]; exact (by (repeat (first | assumption | (apply Blk.below (hb := hb1); rotate_left; (focus ((try simp only [Sx.sizes]); omega)); rotate_right) | (apply Blk.below (hb := hb2); rotate_left; (focus ((try simp only [Sx.sizes]); omega)); rotate_right) | (apply Blk.below (hb := hb3); rotate_left; (focus ((try simp only [Sx.sizes]); omega)); rotate_right) | (apply Blk.below (hb := hb4); rotate_left; (focus ((try simp only [Sx.sizes]); omega)); rotate_right) | (apply Blk.below (hb := hb5); rotate_left; (focus ((try simp only [Sx.sizes]); omega)); rotate_right) | (apply Blk.below (hb := hb6); rotate_left; (focus ((try simp only [Sx.sizes]); omega)); rotate_right) | (apply Blk.below (hb := hb7); rotate_left; (focus ((try simp only [Sx.sizes]); omega)); rotate_right) | (apply Blk.below (hb := hb8); rotate_left; (focus ((try simp only [Sx.sizes]); omega)); rotate_right) | (apply Blk.below (hb := hb9); rotate_left; (focus ((try simp only [Sx.sizes]); omega)); rotate_right) | exact Blk.newE (by first | rfl | ((try simp only [Sx.sizes]); first | done | omega)) _ _ | exact Blk.put_same (by (try simp only [Sx.sizes]); first | done | omega) _ _ | (apply Blk.put_ne; (focus omega)) | apply Blk.alloc | apply Blk.drew)); done)
                have lY2 := kY2.lt
                (refine Ga ?_)
                apply rnQ_n
                rw [hY2]
                refine ⟨bY2, ?_⟩
                clear hY2
                refine S_any [15] 1 rfl (by kernel_rfl) (all1 ?_)
                (refine Ga ?_)
                apply rnQ_n
                refine ⟨Bel, ?_⟩
                refine S_takeV 16 0 rfl (by kernel_rfl) (by repeat (first | exact retQ_p | apply seqQ_p | apply blkQ_p | apply rndQ_p | apply cutQ_p)) Bel ?_
                (refine Qb ?_)
                refine S_done (by kernel_rfl) ?_
                refine cutQ_n (α := Nat) Y1.heap.size ⟨Bel, sY1, ?_⟩ ⟨rfl, rfl, rfl, rfl, rfl, rfl, rfl, rfl, trivial⟩
                exact (by (repeat (first | assumption | (apply Blk.below (hb := hb1); rotate_left; (focus ((try simp only [Sx.sizes]); omega)); rotate_right) | (apply Blk.below (hb := hb2); rotate_left; (focus ((try simp only [Sx.sizes]); omega)); rotate_right) | (apply Blk.below (hb := hb3); rotate_left; (focus ((try simp only [Sx.sizes]); omega)); rotate_right) | (apply Blk.below (hb := hb4); rotate_left; (focus ((try simp only [Sx.sizes]); omega)); rotate_right) | (apply Blk.below (hb := hb5); rotate_left; (focus ((try simp only [Sx.sizes]); omega)); rotate_right) | (apply Blk.below (hb := hb6); rotate_left; (focus ((try simp only [Sx.sizes]); omega)); rotate_right) | (apply Blk.below (hb := hb7); rotate_left; (focus ((try simp only [Sx.sizes]); omega)); rotate_right) | (apply Blk.below (hb := hb8); rotate_left; (focus ((try simp only [Sx.sizes]); omega)); rotate_right) | (apply Blk.below (hb := hb9); rotate_left; (focus ((try simp only [Sx.sizes]); omega)); rotate_right) | exact Blk.newE (by first | rfl | ((try simp only [Sx.sizes]); first | done | omega)) _ _ | exact Blk.put_same (by (try simp only [Sx.sizes]); first | done | omega) _ _ | (apply Blk.put_ne; (focus omega)) | apply Blk.alloc | apply Blk.drew)); done)
              · obtain ⟨Y0, hY0⟩ : ∃ Y0, W1.drew.alloc (.cells [.int .u64 0, .int .u64 0, .int .u64 0, .int .u64 0, .int .u64 0, .int .u64 0].toArray 34) = Y0 := ⟨_, rfl⟩
                have bY0 : Grown W1 Y0 := by rw [← hY0]; exact Bel
                have kY0 : Blk Y0 W1.drew.heap.size [.int .u64 0, .int .u64 0, .int .u64 0, .int .u64 0, .int .u64 0, .int .u64 0] 34 := by rw [← hY0]; exact (by (repeat (first | assumption | (apply Blk.below (hb := hb1); rotate_left; (focus ((try simp only [Sx.sizes]); omega)); rotate_right) | (apply Blk.below (hb := hb2); rotate_left; (focus ((try simp only [Sx.sizes]); omega)); rotate_right) | (apply Blk.below (hb := hb3); rotate_left; (focus ((try simp only [Sx.sizes]); omega)); rotate_right) | (apply Blk.below (hb := hb4); rotate_left; (focus ((try simp only [Sx.sizes]); omega)); rotate_right) | (apply Blk.below (hb := hb5); rotate_left; (focus ((try simp only [Sx.sizes]); omega)); rotate_right) | (apply Blk.below (hb := hb6); rotate_left; (focus ((try simp only [Sx.sizes]); omega)); rotate_right) | (apply Blk.below (hb := hb7); rotate_left; (focus ((try simp only [Sx.sizes]); omega)); rotate_right) | (apply Blk.below (hb := hb8); rotate_left; (focus ((try simp only [Sx.sizes]); omega)); rotate_right) | (apply Blk.below (hb := hb9); rotate_left; (focus ((try simp only [Sx.sizes]); omega)); rotate_right) | exact Blk.newE (by first | rfl | ((try simp only [Sx.sizes]); first | done | omega)) _ _ | exact Blk.put_same (by (try simp only [Sx.sizes]); first | done | omega) _ _ | (apply Blk.put_ne; (focus omega)) | apply Blk.alloc | apply Blk.drew)); done)
                have lY0 := kY0.lt
                (refine Ga ?_)
                apply rnQ_n
                rw [hY0]
                refine ⟨bY0, ?_⟩
                clear hY0
                refine S_any [10] 5 rfl (by kernel_rfl) (all1 ?_)
                (apply Lst_call; (focus rfl); (focus rfl))
                refine (s_AtU pl (hSW.below bY0)).mono ?_
                rintro v Y1 ⟨rfl, hbY1⟩
                have bY1 : Grown W1 Y1 := (bY0 : Grown W1 _).trans (hbY1.mono (bY0 : Grown W1 _).size)
                have sY1 := bY1.size
                obtain ⟨x, hx⟩ : ∃ x, atU tc pl = x := ⟨_, rfl⟩
                rw [hx]
                unfold ucs
                apply Lst_nil
                apply rnQ_n
                refine ⟨bY1, ?_⟩
                have kY1 := kY0.below hbY1 lY0
                have lY1 := kY1.lt
                refine S_takeV 11 4 rfl (by kernel_rfl) (by repeat (first | exact retQ_p | apply seqQ_p | apply blkQ_p | apply rndQ_p | apply cutQ_p)) bY1 ?_
                (refine Qb ?_)
                refine S_takeV 12 3 rfl (by kernel_rfl) (by repeat (first | exact retQ_p | apply seqQ_p | apply blkQ_p | apply rndQ_p | apply cutQ_p)) bY1 ?_
                (refine Qb ?_)
                refine S_takeV 13 2 rfl (by kernel_rfl) (by repeat (first | exact retQ_p | apply seqQ_p | apply blkQ_p | apply rndQ_p | apply cutQ_p)) bY1 ?_
                (refine Qb ?_)
                refine S_any [15] 1 rfl (by kernel_rfl) (all1 ?_)
                (refine Ga ?_)
                apply rnQ_n
                refine ⟨Bel, ?_⟩
                refine S_takeV 16 0 rfl (by kernel_rfl) (by repeat (first | exact retQ_p | apply seqQ_p | apply blkQ_p | apply rndQ_p | apply cutQ_p)) Bel ?_
                (refine Qb ?_)
                refine S_done (by kernel_rfl) ?_
                refine cutQ_n (α := Nat) W1.heap.size ⟨Bel, Nat.le_refl _, ?_⟩ ⟨rfl, rfl, rfl, rfl, rfl, rfl, rfl, rfl, trivial⟩
                exact Blk.put_same (show W1.heap.size < Y1.heap.size from lY1) _ _
            · obtain ⟨Y0, hY0⟩ : ∃ Y0, W1.drew.alloc (.cells [.int .u64 0, .int .u64 0, .int .u64 0, .int .u64 0, .int .u64 0, .int .u64 0].toArray 34) = Y0 := ⟨_, rfl⟩
              have bY0 : Grown W1 Y0 := by rw [← hY0]; exact Bel
              have kY0 : Blk Y0 W1.drew.heap.size [.int .u64 0, .int .u64 0, .int .u64 0, .int .u64 0, .int .u64 0, .int .u64 0] 34 := by rw [← hY0]; exact (by (repeat (first | assumption | (apply Blk.below (hb := hb1); rotate_left; (focus ((try simp only [Sx.sizes]); omega)); rotate_right) | (apply Blk.below (hb := hb2); rotate_left; (focus ((try simp only [Sx.sizes]); omega)); rotate_right) | (apply Blk.below (hb := hb3); rotate_left; (focus ((try simp only [Sx.sizes]); omega)); rotate_right) | (apply Blk.below (hb := hb4); rotate_left; (focus ((try simp only [Sx.sizes]); omega)); rotate_right) | (apply Blk.below (hb := hb5); rotate_left; (focus ((try simp only [Sx.sizes]); omega)); rotate_right) | (apply Blk.below (hb := hb6); rotate_left; (focus ((try simp only [Sx.sizes]); omega)); rotate_right) | (apply Blk.below (hb := hb7); rotate_left; (focus ((try simp only [Sx.sizes]); omega)); rotate_right) | (apply Blk.below (hb := hb8); rotate_left; (focus ((try simp only [Sx.sizes]); omega)); rotate_right) | (apply Blk.below (hb := hb9); rotate_left; (focus ((try simp only [Sx.sizes]); omega)); rotate_right) | exact Blk.newE (by first | rfl | ((try simp only [Sx.sizes]); first | done | omega)) _ _ | exact Blk.put_same (by (try simp only [Sx.sizes]); first | done | omega) _ _ | (apply Blk.put_ne; (focus omega)) | apply Blk.alloc | apply Blk.drew)); done)
              have lY0 := kY0.lt
              (refine Ga ?_)
              apply rnQ_n
              rw [hY0]
              refine ⟨bY0, ?_⟩
              clear hY0
              refine S_any [7] 8 rfl (by kernel_rfl) (all1 ?_)
              (apply Lst_call; (focus rfl); (focus rfl))
              refine (s_Len (hSW.below bY0)).mono ?_
              rintro v A' ⟨rfl, rfl⟩
              apply Lst_nil
              apply rnQ_n
              refine ⟨bY0, ?_⟩
              refine S_takeV 8 7 rfl (by kernel_rfl) (by repeat (first | exact retQ_p | apply seqQ_p | apply blkQ_p | apply rndQ_p | apply cutQ_p)) bY0 ?_
              (refine Qb ?_)
              refine S_takeV 9 6 rfl (by kernel_rfl) (by repeat (first | exact retQ_p | apply seqQ_p | apply blkQ_p | apply rndQ_p | apply cutQ_p)) bY0 ?_
              apply Qst_pu
              · apply P_rem
                focus rfl
                focus rfl
                focus omega
                focus exact hpl
              focus rfl
              (refine Qb ?_)
              refine S_any [10] 5 rfl (by kernel_rfl) (all1 ?_)
              (apply Lst_call; (focus rfl); (focus rfl))
              refine (s_AtU pl (hSW.below bY0)).mono ?_
              rintro v Y1 ⟨rfl, hbY1⟩
              have bY1 : Grown W1 Y1 := (bY0 : Grown W1 _).trans (hbY1.mono (bY0 : Grown W1 _).size)
              have sY1 := bY1.size
              obtain ⟨x, hx⟩ : ∃ x, atU tc pl = x := ⟨_, rfl⟩
              rw [hx]
              unfold ucs
              apply Lst_nil
              apply rnQ_n
              refine ⟨bY1, ?_⟩
              have kY1 := kY0.below hbY1 lY0
              have lY1 := kY1.lt
              refine S_takeV 11 4 rfl (by kernel_rfl) (by repeat (first | exact retQ_p | apply seqQ_p | apply blkQ_p | apply rndQ_p | apply cutQ_p)) bY1 ?_
              (refine Qb ?_)
              refine S_takeV 12 3 rfl (by kernel_rfl) (by repeat (first | exact retQ_p | apply seqQ_p | apply blkQ_p | apply rndQ_p | apply cutQ_p)) bY1 ?_
              (refine Qb ?_)
              refine S_takeV 13 2 rfl (by kernel_rfl) (by repeat (first | exact retQ_p | apply seqQ_p | apply blkQ_p | apply rndQ_p | apply cutQ_p)) bY1 ?_
              (refine Qb ?_)
              refine S_any [15] 1 rfl (by kernel_rfl) (all1 ?_)
              (refine Ga ?_)
              apply rnQ_n
              refine ⟨Bel, ?_⟩
              refine S_takeV 16 0 rfl (by kernel_rfl) (by repeat (first | exact retQ_p | apply seqQ_p | apply blkQ_p | apply rndQ_p | apply cutQ_p)) Bel ?_
              (refine Qb ?_)
              refine S_done (by kernel_rfl) ?_
              refine cutQ_n (α := Nat) W1.heap.size ⟨Bel, Nat.le_refl _, ?_⟩ ⟨rfl, rfl, rfl, rfl, rfl, rfl, rfl, rfl, trivial⟩
              exact Blk.put_same (show W1.heap.size < Y1.heap.size from lY1) _ _
          · rintro J y Z2 ⟨bZ2, hy, kx⟩
            have k11 := kW1.below bZ2 lW1
            have l11 := k11.lt
            have lx := kx.lt
            unfold ucs at kx
            refine W_cutS (α := Id) (fun _ => [(1, .slice (some ⟨gz, oz, none⟩) zs.length c2), (5, .pointer (some ⟨pa, 0, none⟩)), (6, .pointer (some ⟨pb, 0, none⟩)), (9, .pointer (some ⟨pc, 0, none⟩)), (10, .int .i64 (i : Int)), (11, .pointer (some ⟨b11, 0, none⟩))]) (fun l Z' => (l = (0, 0) ∨ l ∈ tc.ids) ∧ Below Z.heap.size Z Z' ∧ SqAt Z' pc Fc tc ∧ Blk Z' b11 (ucs ⟨(50, i + 1), l, (0, 0)⟩) 34) ?_ ?_
            · by_cases hlt : pl < tc.sz
              · rw [decide_eq_true hlt]
                have hin := atU_in hlt
                obtain ⟨x, hx⟩ : ∃ x, atU tc pl = x := ⟨_, rfl⟩
                rw [hx] at hin kx
                have hbZ2 : Below Z.heap.size Z Z2 := bW1.trans (bZ2.mono bW1.size)
                have hS2 := hSW.below bZ2
                have hn11 : ¬ Fc b11 := fun hf => by have := hSZ.lt hf; omega
                (refine Ga ?_)
                refine cutQ_n (α := Id) x.id ⟨.inr hin, Sx.Below.put hbZ2 hZ1s _, hS2.putX hn11 _, (by (repeat (first | assumption | (apply Blk.below (hb := hb1); rotate_left; (focus ((try simp only [Sx.sizes]); omega)); rotate_right) | (apply Blk.below (hb := hb2); rotate_left; (focus ((try simp only [Sx.sizes]); omega)); rotate_right) | (apply Blk.below (hb := hb3); rotate_left; (focus ((try simp only [Sx.sizes]); omega)); rotate_right) | (apply Blk.below (hb := hb4); rotate_left; (focus ((try simp only [Sx.sizes]); omega)); rotate_right) | (apply Blk.below (hb := hb5); rotate_left; (focus ((try simp only [Sx.sizes]); omega)); rotate_right) | (apply Blk.below (hb := hb6); rotate_left; (focus ((try simp only [Sx.sizes]); omega)); rotate_right) | (apply Blk.below (hb := hb7); rotate_left; (focus ((try simp only [Sx.sizes]); omega)); rotate_right) | (apply Blk.below (hb := hb8); rotate_left; (focus ((try simp only [Sx.sizes]); omega)); rotate_right) | (apply Blk.below (hb := hb9); rotate_left; (focus ((try simp only [Sx.sizes]); omega)); rotate_right) | exact Blk.newE (by first | rfl | ((try simp only [Sx.sizes]); first | done | omega)) _ _ | exact Blk.put_same (by (try simp only [Sx.sizes]); first | done | omega) _ _ | (apply Blk.put_ne; (focus omega)) | apply Blk.alloc | apply Blk.drew)); done)⟩ ⟨rfl, rfl, rfl, rfl, rfl, rfl, trivial⟩
              · rw [decide_eq_false hlt]
                (refine Ga ?_)
                refine cutQ_n (α := Id) (0, 0) ⟨.inl rfl, bW1.trans (bZ2.mono bW1.size), hSW.below bZ2, k11⟩ ⟨rfl, rfl, rfl, rfl, rfl, rfl, trivial⟩
            · clear kx k11 l11 lx hy bZ2
              rintro J l Z3 ⟨hl0, hbZ3, hS3, kU⟩
              obtain ⟨hmay, hG2⟩ := hG.step hS3.good hids hl0 (by omega)
              have lU := kU.lt
              obtain ⟨u, hue⟩ : ∃ u : Un, u = ⟨(50, i + 1), l, (0, 0)⟩ := ⟨_, rfl⟩
              rw [← hue] at hmay hG2 kU
              unfold ucs at kU
              (refine Ga ?_)
              (apply Lst_call; (focus rfl); (focus rfl))
              refine (c_Insert u pc Fc tc Z3 (by omega) hS3).mono ?_
              rintro v Z4 ⟨rfl, Fc', hS4, hT4⟩
              rw [hmay]
              have h4 := hT4.low hlZ (Nat.le_trans hbZ.size hbZ3.size)
              rw [hue] at hS4
              (refine Ga ?_)
              refine rndQ_n (α := Nat × (Nat → Prop) × Fo) (i + 1, Fc', _) ⟨hil, (hbZ.trans (hbZ3.mono hbZ.size)).trans h4.2, hS4, h4.1, by rw [← hue]; exact hG2⟩ ⟨rfl, rfl, rfl, rfl, ?_, trivial⟩ (by dsimp only; omega)
              exact congrArg (Value.int .i64) (by dsimp only; omega)

        · obtain rfl : i = zs.length := by omega
          have hTZ := hT.grown hbZ
          have hsz2 := hG.sz
          have hcs : (tc.sz : Int) = (T.sz : Int) + (zs.length : Int) := by omega
          (refine Ga ?_)
          (apply Lst_call; (focus rfl); (focus rfl))
          refine (s_Len hTZ.sa).mono ?_
          rintro v A' ⟨rfl, rfl⟩
          (refine Ga ?_)
          (apply Lst_call; (focus rfl); (focus rfl))
          refine (s_Len hTZ.sb).mono ?_
          rintro v A' ⟨rfl, rfl⟩
          (refine Ga ?_)
          (apply Lst_call; (focus rfl); (focus rfl))
          refine (s_Len hSZ).mono ?_
          rintro v A' ⟨rfl, rfl⟩
          rw [hcs]
          (refine Ga ?_)
          (apply Lst_call; (focus rfl); (focus rfl))
          refine (s_Len hTZ.sa).mono ?_
          rintro v A' ⟨rfl, rfl⟩
          (refine Ga ?_)
          refine W_loop (α := Nat × (Nat → Prop)) (fun x => [(5, .pointer (some ⟨pa, 0, none⟩)), (6, .pointer (some ⟨pb, 0, none⟩)), (9, .pointer (some ⟨pc, 0, none⟩)), (14, .int .i64 (x.1 : Int))])
            (fun x Z => x.1 ≤ T.sz ∧ Below A.heap.size A Z ∧ SqAt Z pc x.2 tc ∧ (∀ g, x.2 g → A.heap.size ≤ g)) (fun x _ => T.sz - x.1) (0, Fc) ⟨Nat.zero_le _, hbZ, hSZ, hlZ⟩ ⟨rfl, rfl, rfl, rfl, trivial⟩ ?_
          have htz : tc.sz ≤ 60 := by omega
          have hsub := hG.sub
          clear hbZ hSZ hlZ hTZ hG hi
          rintro J ⟨i, F3⟩ B ⟨hi, hbB, hSB, hlB⟩
          dsimp only at hi hbB hSB hlB ⊢
          have hTB := hT.grown hbB
          (refine Ga ?_)
          (apply Lst_call; (focus rfl); (focus rfl))
          refine (s_Len hTB.sa).mono ?_
          rintro v A' ⟨rfl, rfl⟩
          by_cases hil : i < T.sz
          · have hin := hsub _ (atU_in hil)
            (refine Ga ?_)
            (apply Lst_call; (focus rfl); (focus rfl))
            refine (s_AtU i hTB.sa).mono ?_
            rintro v B1 ⟨rfl, hbB1⟩
            rw [decide_eq_true hil]
            obtain ⟨x, hx⟩ : ∃ x, atU T i = x := ⟨_, rfl⟩
            rw [hx] at hin ⊢
            unfold ucs
            obtain ⟨W7, hW7⟩ : ∃ W7, (B1.alloc (.cells [.int .u64 0, .int .u64 0, .int .u64 0, .int .u64 0, .int .u64 0, .int .u64 0].toArray 34)).putObj B1.heap.size (.cells (ucs x).toArray 34) = W7 := ⟨_, rfl⟩
            have bW7 : Below B.heap.size B W7 := by rw [← hW7]; exact hbB1.trans (Below.mono (show Below B1.heap.size B1 _ from Bel) hbB1.size)
            have kW7 : Blk W7 B1.heap.size (ucs x) 34 := by rw [← hW7]; exact (by (repeat (first | assumption | (apply Blk.below (hb := hb1); rotate_left; (focus ((try simp only [Sx.sizes]); omega)); rotate_right) | (apply Blk.below (hb := hb2); rotate_left; (focus ((try simp only [Sx.sizes]); omega)); rotate_right) | (apply Blk.below (hb := hb3); rotate_left; (focus ((try simp only [Sx.sizes]); omega)); rotate_right) | (apply Blk.below (hb := hb4); rotate_left; (focus ((try simp only [Sx.sizes]); omega)); rotate_right) | (apply Blk.below (hb := hb5); rotate_left; (focus ((try simp only [Sx.sizes]); omega)); rotate_right) | (apply Blk.below (hb := hb6); rotate_left; (focus ((try simp only [Sx.sizes]); omega)); rotate_right) | (apply Blk.below (hb := hb7); rotate_left; (focus ((try simp only [Sx.sizes]); omega)); rotate_right) | (apply Blk.below (hb := hb8); rotate_left; (focus ((try simp only [Sx.sizes]); omega)); rotate_right) | (apply Blk.below (hb := hb9); rotate_left; (focus ((try simp only [Sx.sizes]); omega)); rotate_right) | exact Blk.newE (by first | rfl | ((try simp only [Sx.sizes]); first | done | omega)) _ _ | exact Blk.put_same (by (try simp only [Sx.sizes]); first | done | omega) _ _ | (apply Blk.put_ne; (focus omega)) | apply Blk.alloc | apply Blk.drew)); done)
            have hT7 := hTB.grown bW7
            have l7 := kW7.lt
            unfold ucs at hW7 kW7
            (refine Ga ?_)
            rw [hW7]
            clear hW7
            (refine Ga ?_)
            (apply Lst_call; (focus rfl); (focus rfl))
            refine (s_AtU i hT7.sb).mono ?_
            rintro v B3 ⟨rfl, hbB3⟩
            rw [decide_eq_true hil, hx]
            unfold ucs
            obtain ⟨W8, hW8⟩ : ∃ W8, (B3.alloc (.cells [.int .u64 0, .int .u64 0, .int .u64 0, .int .u64 0, .int .u64 0, .int .u64 0].toArray 34)).putObj B3.heap.size (.cells (ucs x).toArray 34) = W8 := ⟨_, rfl⟩
            have bW8 : Below W7.heap.size W7 W8 := by rw [← hW8]; exact hbB3.trans (Below.mono (show Below B3.heap.size B3 _ from Bel) hbB3.size)
            have kW8 : Blk W8 B3.heap.size (ucs x) 34 := by rw [← hW8]; exact (by (repeat (first | assumption | (apply Blk.below (hb := hb1); rotate_left; (focus ((try simp only [Sx.sizes]); omega)); rotate_right) | (apply Blk.below (hb := hb2); rotate_left; (focus ((try simp only [Sx.sizes]); omega)); rotate_right) | (apply Blk.below (hb := hb3); rotate_left; (focus ((try simp only [Sx.sizes]); omega)); rotate_right) | (apply Blk.below (hb := hb4); rotate_left; (focus ((try simp only [Sx.sizes]); omega)); rotate_right) | (apply Blk.below (hb := hb5); rotate_left; (focus ((try simp only [Sx.sizes]); omega)); rotate_right) | (apply Blk.below (hb := hb6); rotate_left; (focus ((try simp only [Sx.sizes]); omega)); rotate_right) | (apply Blk.below (hb := hb7); rotate_left; (focus ((try simp only [Sx.sizes]); omega)); rotate_right) | (apply Blk.below (hb := hb8); rotate_left; (focus ((try simp only [Sx.sizes]); omega)); rotate_right) | (apply Blk.below (hb := hb9); rotate_left; (focus ((try simp only [Sx.sizes]); omega)); rotate_right) | exact Blk.newE (by first | rfl | ((try simp only [Sx.sizes]); first | done | omega)) _ _ | exact Blk.put_same (by (try simp only [Sx.sizes]); first | done | omega) _ _ | (apply Blk.put_ne; (focus omega)) | apply Blk.alloc | apply Blk.drew)); done)
            have k7' := kW7.below bW8 l7
            have l8 := kW8.lt
            have l7' := k7'.lt
            have hS8 := (hSB.below bW7).below bW8
            unfold ucs at hW8 kW8
            (refine Ga ?_)
            rw [hW8]
            clear hW8
            (refine Ga ?_)
            (apply Lst_call; (focus rfl); (focus rfl))
            refine (s_Find x.id (by omega) hS8).mono ?_
            rintro v B9 ⟨rfl, hS9, hT9⟩
            rw [if_pos hin]
            have h8 : Below A.heap.size A W8 := (hbB.trans (bW7.mono hbB.size)).trans (bW8.mono (Nat.le_trans hbB.size bW7.size))
            have h9 := hT9.low hlB h8.size
            (refine Ga ?_)
            refine rndQ_n (α := Nat × (Nat → Prop)) (i + 1, F3) ⟨hil, h8.trans h9.2, hS9, h9.1⟩ ⟨rfl, rfl, rfl, ?_, trivial⟩ (by dsimp only; omega)
            exact congrArg (Value.int .i64) (by dsimp only; omega)
          · obtain rfl : i = T.sz := by omega
            (refine Ga ?_)
            (apply retQ1; (focus rfl))
            exact ⟨rfl, hb1.trans ((hT.bel.trans (hbB.mono hT.bel.size)).mono hb1.size)⟩
    · (refine Ga ?_)
      (apply retQ1; (focus rfl))
      exact ⟨rfl, hb1⟩
  · (refine Ga ?_)
    (apply retQ1; (focus rfl))
    exact ⟨rfl, hb1⟩
end Sq
end Go.Proofs.Ytmammcgdjjldbaa
