/- SeqAnyOrder's walk. -/
import Derived.Test.YtmammcgdjjldbaaSqAnP
import Derived.Test.YtmammcgdjjldbaaSqTwo
import Derived.Test.YtmammcgdjjldbaaSxU
namespace Go.Proofs.Ytmammcgdjjldbaa
set_option maxRecDepth 100000
namespace Sq
open Go Go.RowKit Sx Tl
theorem own_lowB {w : World} {B B' e sz n : Nat} {v : Value} {xs : List Value} (h : w.ownsRow B e sz v n xs) (hB : B' ≤ B) : w.ownsRow B' e sz v n xs := by
  refine ⟨h.1, ?_⟩
  rcases h.2 with h1 | ⟨g, cap, cur, h1, h2, h3⟩
  · exact .inl h1
  · exact .inr ⟨g, cap, cur, h1, Nat.le_trans hB h2, h3⟩
/-- A part of a row of structs. -/
theorem SRows.sub {w : World} {sz c b off : Nat} {ls : List (List Value)} (h : SRows w sz (.slice (some ⟨b, off, none⟩) ls.length c) ls) (hc : ls.length ≤ c) {l m : Nat} (h1 : l ≤ m) (h2 : m ≤ ls.length) (h0 : 0 < ls.length) : SRows w sz (sliced (some ⟨b, off, none⟩) l m c sz) ((ls.take m).drop l) := by
  obtain ⟨b', off', he, hb, hr⟩ := h.at h0
  injection he with he
  injection he with e1 e2
  subst e1
  subst e2
  have hlen : ((ls.take m).drop l).length = m - l := by rw [List.length_drop, List.length_take]; omega
  have hall : ∀ i (hi : i < ls.length) j u, (ls[i])[j]? = some u → w.cell? ⟨b, off + i * sz + j, none⟩ = some u := fun i hi j u hu => by
    obtain ⟨b', off', he, _, hr⟩ := h.at hi
    injection he with he
    injection he with e1 e2
    subst e1
    subst e2
    exact hr j u hu
  by_cases hcl : c = l
  · have hz : (ls.take m).drop l = [] := List.eq_nil_of_length_eq_zero (by omega)
    rw [hz]
    refine ⟨b, off, c - l, .inl ?_, fun j hj => absurd hj (Nat.not_lt_zero _)⟩
    unfold sliced
    rw [if_pos hcl]
    have : m - l = 0 := by omega
    rw [this]
    rfl
  · refine ⟨b, off + l * sz, c - l, .inl ?_, fun j hj => ⟨hb, fun k u hu => ?_⟩⟩
    · unfold sliced
      rw [if_neg hcl, hlen]
      simp [add_none]
    · rw [hlen] at hj
      have hj2 : l + j < ls.length := by omega
      rw [List.getElem_drop, List.getElem_take] at hu
      have := hall (l + j) hj2 k u hu
      rw [← this]
      congr 2
      rw [Nat.add_mul]
      omega
/-- Two sequences, and the row of units that are left. -/
structure An (w0 A : World) (pa : Nat) (Fa : Nat → Prop) (ta : Fo) (pb : Nat) (F : Nat → Prop) (t : Fo) (v : Value) (ls : List Un) : Prop where
  two : Two w0 A pa Fa ta pb F t
  row : OwnU w0.heap.size A v ls
  ng : ∀ g, v.ownBlock = some g → ¬ F g
section
variable {w0 A A' : World} {pa pb : Nat} {Fa F F' : Nat → Prop} {ta t t' : Fo} {v : Value} {ls : List Un}
theorem An.grown (h : An w0 A pa Fa ta pb F t v ls) (hb : Below A.heap.size A A') : An w0 A' pa Fa ta pb F t v ls :=
  ⟨h.two.grown hb, own_below h.row hb (Nat.le_refl _), h.ng⟩
theorem An.b (h : An w0 A pa Fa ta pb F t v ls) (hS : SqAt A' pb F' t') (hT : Turn F F' A A') : An w0 A' pa Fa ta pb F' t' v ls :=
  ⟨h.two.b hS hT, own_kept h.row fun g hg => hT.block g (own_ltg h.row hg) (h.ng g hg), fun g hg hf => h.ng g hg ((hT.own g (own_ltg h.row hg)).1 hf)⟩
theorem An.new {v' : Value} {ls' : List Un} (h : An w0 A pa Fa ta pb F t v ls) (hb : Below A.heap.size A A') (ho : OwnU A.heap.size A' v' ls') : An w0 A' pa Fa ta pb F t v' ls' :=
  ⟨h.two.grown hb, own_lowB ho h.two.bel.size, fun g hg hf => by
    have h1 := (ho.lt g hg).1
    have h2 := h.two.sb.lt hf
    omega⟩
end
theorem ucs_len (us : List Un) : ∀ l ∈ us.map ucs, l.length = 6 := fun l hl => by
  obtain ⟨u, _, rfl⟩ := List.mem_map.1 hl
  rfl
theorem ucs_ones (us : List Un) : ∀ v ∈ (us.map ucs).flatten, v.oneCell' = true := fun v hv => by
  obtain ⟨l, hl, hv⟩ := List.mem_flatten.1 hv
  obtain ⟨u, _, rfl⟩ := List.mem_map.1 hl
  exact ucs_one u v hv
/-- Are its origins there? -/
def Rdy (t : Fo) (u : Un) : Prop := Fo.At t u.l ∧ Fo.At t u.r
theorem sq_len {us : List Un} (h : Fo.okL .nil us) : (Fo.putL .nil us).sz = us.length := by
  have := Fo.putL_sz Fo.Good.nil h
  rw [nil_sz] at this
  omega
section
attribute [local irreducible] RnS
attribute [local irreducible] W Lst Qst Pu seqQ blkQ rndQ cutQ retQ Does Enters IntKind.wrap bits sb World.alloc World.putObj Blk
set_option maxHeartbeats 4000000 in
theorem law_SeqAnyOrder (xs : List Int) (a : Option Addr) (c : Nat) (hx : ∀ z ∈ xs, 0 ≤ z ∧ z < 65536) (zs : List Int) (a2 : Option Addr) (c2 : Nat) (hz : ∀ z ∈ zs, 0 ≤ z ∧ z < 256) (w : World) (h : Ints w .u16 (.slice a xs.length c) xs) (hh : Ints w .u8 (.slice a2 zs.length c2) zs) :
    Does Try.prog 3 #[.slice a xs.length c, .slice a2 zs.length c2] w fun v w' => v = .bool true ∧ Below w.heap.size w w' := by
  refine Does_of (args := [.slice a xs.length c, .slice a2 zs.length c2]) Try.func3 (by kernel_rfl) rfl rfl rfl rfl rfl ?_
  (refine Ga ?_)
  (apply Lst_call; (focus rfl); (focus rfl))
  refine (c_known w).mono ?_
  rintro v w1 ⟨rfl, hb1⟩
  by_cases hl : xs.length ≤ 40
  · by_cases hl2 : zs.length ≤ 200
    · have h1 := h.below hb1 (Nat.le_refl _)
      have hh1 := hh.below hb1 (Nat.le_refl _)
      (refine Ga ?_)
      (apply Lst_call; (focus rfl); (focus rfl))
      refine (c_grown xs a c hx (by omega) w1 h1).mono ?_
      rintro v w2 ⟨us, hO, hul, hok, hsm, hb2⟩
      obtain ⟨v1, v2, v3, rfl⟩ := own_slice hO
      obtain ⟨_, _, hform⟩ := own_form hO
      obtain ⟨hfe, _⟩ := hform
      injection hfe with e1 e2 e3
      subst e2
      have hlO : ∀ g, (Value.slice v1 us.length v3).ownBlock = some g → g < w2.heap.size := fun g hg => own_ltg hO hg
      (refine Ga ?_)
      (apply Lst_call; (focus rfl); (focus rfl))
      refine (c_New w2).mono ?_
      rintro v wa ⟨pa, Fa0, rfl, hSa, hla, hbA0⟩
      (refine Ga ?_)
      (apply Lst_call; (focus rfl); (focus rfl))
      refine (c_New wa).mono ?_
      rintro v wb ⟨pb, Fb0, rfl, hSb, hlb, hbb⟩
      have b2a := hb2.trans (hbA0.mono hb2.size)
      have hTwo : Two w1 wb pa Fa0 .nil pb Fb0 .nil := ⟨hSa.below hbb, hSb, fun g hg hf => by have := hSa.lt hg; have := hlb g hf; omega, fun g hg => Nat.le_trans hb2.size (hla g hg), fun g hg => Nat.le_trans b2a.size (hlb g hg), b2a.trans (hbb.mono b2a.size)⟩
      have hO2 : OwnU w1.heap.size wb (.slice v1 us.length v3) us := own_below (own_below hO hbA0 (Nat.le_refl _)) hbb (Nat.le_refl _)
      have hng : ∀ g, (Value.slice v1 us.length v3).ownBlock = some g → ¬ Fa0 g ∧ ¬ Fb0 g := fun g hg => ⟨fun hf => by have := hlO g hg; have := hla g hf; omega, fun hf => by have := hlO g hg; have := hlb g hf; have := hbA0.size; omega⟩
      clear hSa hSb hla hlb hbb hbA0 hO hlO hb2 b2a h1
      (refine Ga ?_)
      refine W_loop (α := Nat × (Nat → Prop)) (fun x => [(1, .slice a2 zs.length c2), (5, .slice v1 us.length v3), (6, .pointer (some ⟨pa, 0, none⟩)), (7, .pointer (some ⟨pb, 0, none⟩)), (8, .int .i64 (x.1 : Int))])
        (fun x A => x.1 ≤ us.length ∧ Two w1 A pa x.2 (Fo.putL .nil (us.take x.1)) pb Fb0 .nil ∧ OwnU w1.heap.size A (.slice v1 us.length v3) us ∧ ∀ g, (Value.slice v1 us.length v3).ownBlock = some g → ¬ x.2 g ∧ ¬ Fb0 g) (fun x _ => us.length - x.1) (0, Fa0) ⟨Nat.zero_le _, hTwo, hO2, hng⟩ ⟨rfl, rfl, rfl, rfl, rfl, trivial⟩ ?_
      clear hTwo hO2 hng
      rintro J ⟨k, Fa⟩ A ⟨hk, hT, hO, hng⟩
      dsimp only at hk hT hO hng ⊢
      by_cases hkl : k < us.length
      · obtain ⟨g, off, rfl, hc⟩ := unit_at hO.rows hkl
        obtain ⟨hmay, hins⟩ := take_put hkl hok
        have hsz : (Fo.putL .nil (us.take k)).sz ≤ 60 := by
          rw [sq_len (take_ok k hok), List.length_take]
          omega
        (refine Ga ?_)
        apply Lst_pu
        · apply P_idxm (j := k)
          focus rfl
          focus rfl
          focus rfl
          focus rfl
          focus rfl
          focus exact hkl
        focus rfl
        (refine Ga ?_)
        apply Lst_loadS' (cs := ucs us[k])
        focus rfl
        focus rfl
        focus rfl
        focus rfl
        focus rfl
        focus exact hc A (Below.refl _ _)
        focus rfl
        (refine Ga ?_)
        (apply Lst_call; (focus rfl); (focus rfl))
        refine (c_Insert us[k] pa Fa _ A (by omega) hT.sa).mono ?_
        rintro v D ⟨rfl, Fa', hSD, hTD⟩
        rw [hins] at hSD
        have hT2 := hT.a hSD hTD
        have hO2 : OwnU w1.heap.size D _ us := own_kept hO fun g hg => hTD.block g (own_ltg hO hg) (hng g hg).1
        have hng2 : ∀ g', (Value.slice (some ⟨g, off, none⟩) us.length v3).ownBlock = some g' → ¬ Fa' g' ∧ ¬ Fb0 g' := fun g' hg => ⟨fun hf => (hng g' hg).1 ((hTD.own _ (own_ltg hO hg)).1 hf), (hng g' hg).2⟩
        rw [hmay]
        (refine Ga ?_)
        refine rndQ_n (α := Nat × (Nat → Prop)) (k + 1, Fa') ⟨hkl, hT2, hO2, hng2⟩ ⟨rfl, rfl, rfl, rfl, ?_, trivial⟩ (by dsimp only; omega)
        exact congrArg (Value.int .i64) (by dsimp only; omega)
      · obtain rfl : k = us.length := by omega
        rw [List.take_length] at hT
        obtain ⟨T, hTe⟩ : ∃ T, Fo.putL .nil us = T := ⟨_, rfl⟩
        rw [hTe] at hT
        (refine Ga ?_)
        apply Lst_appendR (hown := World.ownsRow_nil A A.heap.size 34 6) (hy := hO.rows) (hls := ucs_len us) (hone := ucs_ones us) (bytes := 48)
        focus rfl
        focus rfl
        focus rfl
        focus rfl
        focus rfl
        focus rfl
        focus rfl
        focus rfl
        focus rfl
        focus (rw [List.length_map]; omega)
        focus (rw [List.length_map]; omega)
        focus exact Nat.le_refl _
        focus rfl
        intro v' B hoB hgB
        have hbB : Below A.heap.size A B := ⟨hgB.os, hgB.tape, hgB.output, hgB.size, fun k hk => hgB.block k hk (by intro e; cases e)⟩
        have hoB' : OwnU A.heap.size B v' us := by
          unfold OwnU
          rw [List.length_map, Nat.zero_add] at hoB
          exact hoB
        have hA : An w1 B pa Fa T pb Fb0 .nil v' us := ⟨hT.grown hbB, own_lowB hoB' hT.bel.size, fun g hg hf => by
          have h1 := (hoB'.lt g hg).1
          have h2 := hT.sb.lt hf
          omega⟩
        clear hoB hoB' hgB hbB hO hng hT
        (refine Ga ?_)
        refine W_loop (α := Nat × List Un × Fo × (Nat → Prop) × Value) (fun x => [(1, .slice a2 zs.length c2), (5, .slice v1 us.length v3), (6, .pointer (some ⟨pa, 0, none⟩)), (7, .pointer (some ⟨pb, 0, none⟩)), (9, x.2.2.2.2), (10, .int .i64 (x.1 : Int))])
          (fun x A => x.1 + x.2.1.length = us.length ∧ An w1 A pa Fa T pb x.2.2.2.1 x.2.2.1 x.2.2.2.2 x.2.1 ∧ Fo.okL x.2.2.1 x.2.1 ∧ Fo.putL x.2.2.1 x.2.1 = T) (fun x _ => x.2.1.length) (0, us, .nil, Fb0, v') ⟨Nat.zero_add _, hA, hok, hTe⟩ ⟨rfl, rfl, rfl, rfl, rfl, rfl, trivial⟩ ?_
        clear hA
        rintro J ⟨i, ls, t, F, v⟩ A ⟨hi, hA, hokl, hput⟩
        dsimp only at hi hA hokl hput ⊢
        obtain ⟨b9, c9, rfl, hc9⟩ := own_form hA.row
        have hz1 := hh1.below hA.two.bel (Nat.le_refl _)
        by_cases hl0 : 0 < ls.length
        · (refine Ga ?_)
          refine Lst_cut2 (α := Nat) (fun m => [(1, .slice a2 zs.length c2), (5, .slice v1 us.length v3), (6, .pointer (some ⟨pa, 0, none⟩)), (7, .pointer (some ⟨pb, 0, none⟩)), (9, .slice b9 ls.length c9), (10, .int .i64 (i : Int)), (11, .int .i64 (m : Int))]) (fun m A' => A' = A ∧ m < ls.length) ?_ ?_
          · by_cases hil : i < zs.length
            · obtain ⟨gz, oz, rfl, hcz⟩ := hz1.at hil
              have hz9 : 0 ≤ zs.getD i 0 ∧ zs.getD i 0 < 256 := by
                rw [List.getD_eq_getElem?_getD, List.getElem?_eq_getElem hil]
                exact hz _ (List.getElem_mem hil)
              obtain ⟨zi, hzi⟩ : ∃ zi : Nat, zs.getD i 0 = (zi : Int) := ⟨(zs.getD i 0).toNat, by omega⟩
              rw [hzi] at hcz hz9
              obtain ⟨pl, hpl, hpl2⟩ : ∃ pl : Nat, ((zi : Int)).tmod (ls.length : Int) = (pl : Int) ∧ pl < ls.length := ⟨zi % ls.length, rfl, Nat.mod_lt _ hl0⟩
              (refine Ga ?_)
              exact cutQ_n pl ⟨rfl, hpl2⟩ ⟨rfl, rfl, rfl, rfl, rfl, rfl, congrArg (Value.int .i64) hpl, trivial⟩
            · (refine Ga ?_)
              exact cutQ_n 0 ⟨rfl, hl0⟩ ⟨rfl, rfl, rfl, rfl, rfl, rfl, rfl, trivial⟩
          · rintro J m A' ⟨rfl, hm⟩
            (refine Ga ?_)
            refine W_loop (α := Nat × Bool × List Un × Fo × (Nat → Prop) × Value) (fun x => [(1, .slice a2 zs.length c2), (5, .slice v1 us.length v3), (6, .pointer (some ⟨pa, 0, none⟩)), (7, .pointer (some ⟨pb, 0, none⟩)), (9, x.2.2.2.2.2), (10, .int .i64 (i : Int)), (11, .int .i64 (m : Int)), (12, .bool x.2.1), (13, .int .i64 (x.1 : Int))])
              (fun x A => An w1 A pa Fa T pb x.2.2.2.2.1 x.2.2.2.1 x.2.2.2.2.2 x.2.2.1 ∧ x.1 ≤ ls.length ∧ ((x.2.1 = false ∧ x.2.2.1 = ls ∧ x.2.2.2.1 = t ∧ ∀ j, j < x.1 → ∀ h, ¬ Rdy t (ls[(m + j) % ls.length]'h)) ∨ (x.2.1 = true ∧ Fo.okL x.2.2.2.1 x.2.2.1 ∧ Fo.putL x.2.2.2.1 x.2.2.1 = T ∧ x.2.2.1.length + 1 = ls.length))) (fun x _ => if x.2.1 then 0 else ls.length + 1 - x.1) (0, false, ls, t, F, .slice b9 ls.length c9) ⟨hA, Nat.zero_le _, .inl ⟨rfl, rfl, rfl, fun j hj => absurd hj (Nat.not_lt_zero _)⟩⟩ ⟨rfl, rfl, rfl, rfl, rfl, rfl, rfl, rfl, rfl, trivial⟩ ?_
            clear hA hz1 hc9 b9 c9
            rintro J ⟨k, dn, ls', t', F', v'⟩ A2 ⟨hA2, hk, hcs⟩
            dsimp only at hA2 hk hcs ⊢
            obtain ⟨b9, c9, rfl, hc9⟩ := own_form hA2.row
            rcases hcs with ⟨rfl, rfl, rfl, hno⟩ | ⟨rfl, hok2, hput2, hlen⟩
            · by_cases hkl : k < ls'.length
              · obtain ⟨nn, hnn, hnn2, hnn3⟩ : ∃ nn : Nat, ((m : Int) + (k : Int)).tmod (ls'.length : Int) = (nn : Int) ∧ nn < ls'.length ∧ nn = (m + k) % ls'.length := ⟨(m + k) % ls'.length, rfl, Nat.mod_lt _ hl0, rfl⟩
                obtain ⟨g9, o9, rfl, hcu⟩ := unit_at hA2.row.rows hnn2
                (refine Ga ?_)
                rw [hnn]
                apply Lst_pu
                · apply P_idxm (j := nn)
                  focus rfl
                  focus rfl
                  focus rfl
                  focus rfl
                  focus rfl
                  focus exact hnn2
                focus rfl
                (refine Ga ?_)
                apply Lst_loadS' (cs := ucs ls'[nn])
                focus rfl
                focus rfl
                focus rfl
                focus rfl
                focus rfl
                focus exact hcu A2 (Below.refl _ _)
                focus rfl
                have hno' : ¬ Rdy t' ls'[nn] → ∀ j, j < k + 1 → ∀ h, ¬ Rdy t' (ls'[(m + j) % ls'.length]'h) := fun hr j hj h => by
                  rcases Nat.lt_succ_iff_lt_or_eq.1 hj with hj | rfl
                  · exact hno j hj h
                  · simp only [← hnn3]
                    exact hr
                obtain ⟨u, hu⟩ : ∃ u, ls'[nn] = u := ⟨_, rfl⟩
                rw [hu] at hno' ⊢
                unfold ucs
                obtain ⟨X, hXe⟩ : ∃ X, (A2.alloc (.cells #[.int .u64 0, .int .u64 0, .int .u64 0, .int .u64 0, .int .u64 0, .int .u64 0] 34)).putObj A2.heap.size (.cells #[.int .u64 (u.id.1 : Int), .int .u64 (u.id.2 : Int), .int .u64 (u.l.1 : Int), .int .u64 (u.l.2 : Int), .int .u64 (u.r.1 : Int), .int .u64 (u.r.2 : Int)] 34) = X := ⟨_, rfl⟩
                have hbX : Below A2.heap.size A2 X := by rw [← hXe]; exact Bel
                have kX : Blk X A2.heap.size (ucs u) 34 := by rw [← hXe]; exact (by (repeat (first | assumption | (apply Blk.below (hb := hb1); rotate_left; (focus ((try simp only [Sx.sizes]); omega)); rotate_right) | (apply Blk.below (hb := hb2); rotate_left; (focus ((try simp only [Sx.sizes]); omega)); rotate_right) | (apply Blk.below (hb := hb3); rotate_left; (focus ((try simp only [Sx.sizes]); omega)); rotate_right) | (apply Blk.below (hb := hb4); rotate_left; (focus ((try simp only [Sx.sizes]); omega)); rotate_right) | (apply Blk.below (hb := hb5); rotate_left; (focus ((try simp only [Sx.sizes]); omega)); rotate_right) | (apply Blk.below (hb := hb6); rotate_left; (focus ((try simp only [Sx.sizes]); omega)); rotate_right) | (apply Blk.below (hb := hb7); rotate_left; (focus ((try simp only [Sx.sizes]); omega)); rotate_right) | (apply Blk.below (hb := hb8); rotate_left; (focus ((try simp only [Sx.sizes]); omega)); rotate_right) | (apply Blk.below (hb := hb9); rotate_left; (focus ((try simp only [Sx.sizes]); omega)); rotate_right) | exact Blk.newE (by first | rfl | ((try simp only [Sx.sizes]); first | done | omega)) _ _ | exact Blk.put_same (by (try simp only [Sx.sizes]); first | done | omega) _ _ | (apply Blk.put_ne; (focus omega)) | apply Blk.alloc | apply Blk.drew)); done)
                (refine Ga ?_)
                rw [hXe]
                clear hXe
                have hAX := hA2.grown hbX
                have hnF : ¬ F' A2.heap.size := fun hf => by have := hA2.two.sb.lt hf; omega
                have kX' := kX
                unfold ucs at kX
                have lX := kX.lt
                have khAX := kX'
                have kkhAX := kX'
                have hgn := hA2.two.sb.good
                have hsz' : t'.sz ≤ 40 := by
                  have h1 := Fo.putL_sz hgn hokl
                  have h2 := sq_len hok
                  rw [hput] at h1
                  rw [hTe] at h2
                  omega
                have three : ∀ k : Id, k = Fo.none' ∨ k ∈ t'.ids ∨ (k ≠ Fo.none' ∧ k ∉ t'.ids) := fun k => by
                  by_cases h1 : k = Fo.none'
                  · exact .inl h1
                  · by_cases h2 : k ∈ t'.ids
                    · exact .inr (.inl h2)
                    · exact .inr (.inr ⟨h1, h2⟩)
                have id_t : ∀ {k : Id}, k = Fo.none' → Eqv Try.prog 3 32 (idv k) (idv (0, 0)) true := fun {k} h => by
                  have := id_eq k (0, 0)
                  rwa [decide_eq_true (show k = (0, 0) from h)] at this
                have id_f : ∀ {k : Id}, k ≠ Fo.none' → Eqv Try.prog 3 32 (idv k) (idv (0, 0)) false := fun {k} h => by
                  have := id_eq k (0, 0)
                  rwa [decide_eq_false (show ¬ k = (0, 0) from h)] at this
                (refine Ga ?_)
                -- cases: printed by gen_any.py
                refine Lst_cut2 (α := Unit) (fun _ => [(1, .slice a2 zs.length c2), (5, .slice v1 us.length v3), (6, .pointer (some ⟨pa, 0, none⟩)), (7, .pointer (some ⟨pb, 0, none⟩)), (9, .slice (some ⟨g9, o9, none⟩) ls'.length c9), (10, .int .i64 (i : Int)), (11, .int .i64 (m : Int)), (12, .bool false), (13, .int .i64 (k : Int)), (14, .int .i64 (nn : Int)), (15, .pointer (some ⟨A2.heap.size, 0, none⟩))]) (fun _ Y => An w1 Y pa Fa T pb F' t' (.slice (some ⟨g9, o9, none⟩) ls'.length c9) ls' ∧ Blk Y A2.heap.size (ucs u) 34 ∧ Rdy t' u) ?_ ?_
                · rcases three u.l with hl1 | hl1 | hl1
                  · have el := id_t hl1
                    apply Lst_pu
                    · apply P_neA
                      focus rfl
                      focus rfl
                      focus kernel_rfl
                      focus exact el
                      focus rfl
                    focus rfl
                    (refine Ga ?_)
                    rcases three u.r with hr1 | hr1 | hr1
                    · have er := id_t hr1
                      apply Lst_pu
                      · apply P_neA
                        focus rfl
                        focus rfl
                        focus kernel_rfl
                        focus exact er
                        focus rfl
                      focus rfl
                      (refine Ga ?_)
                      exact cutQ_n () ⟨hAX, kkhAX, .inl hl1, .inl hr1⟩ ⟨rfl, rfl, rfl, rfl, rfl, rfl, rfl, rfl, rfl, rfl, rfl, trivial⟩
                    · have er := id_f fun e => hgn.none (e ▸ hr1)
                      apply Lst_pu
                      · apply P_neA
                        focus rfl
                        focus rfl
                        focus kernel_rfl
                        focus exact er
                        focus rfl
                      focus rfl
                      (refine Ga ?_)
                      (apply Lst_call; (focus rfl); (focus rfl))
                      refine (s_Find u.r (by omega) hAX.two.sb).mono ?_
                      rintro v Z ⟨rfl, hSZ, hTZ⟩
                      rw [if_pos hr1]
                      have hAZ := hAX.b hSZ hTZ
                      have khAZ := hTZ.blk khAX hnF
                      have kkhAZ := khAZ
                      unfold ucs at khAZ
                      have lhAZ := khAZ.lt
                      (refine Ga ?_)
                      exact cutQ_n () ⟨hAZ, kkhAZ, .inl hl1, .inr hr1⟩ ⟨rfl, rfl, rfl, rfl, rfl, rfl, rfl, rfl, rfl, rfl, rfl, trivial⟩
                    · have er := id_f hr1.1
                      apply Lst_pu
                      · apply P_neA
                        focus rfl
                        focus rfl
                        focus kernel_rfl
                        focus exact er
                        focus rfl
                      focus rfl
                      (refine Ga ?_)
                      (apply Lst_call; (focus rfl); (focus rfl))
                      refine (s_Find u.r (by omega) hAX.two.sb).mono ?_
                      rintro v Z ⟨rfl, hSZ, hTZ⟩
                      rw [if_neg hr1.2]
                      have hAZ := hAX.b hSZ hTZ
                      have khAZ := hTZ.blk khAX hnF
                      have kkhAZ := khAZ
                      unfold ucs at khAZ
                      have lhAZ := khAZ.lt
                      (refine Ga ?_)
                      refine rndQ_n (α := Nat × Bool × List Un × Fo × (Nat → Prop) × Value) (k + 1, false, ls', t', F', .slice (some ⟨g9, o9, none⟩) ls'.length c9) ⟨hAZ, hkl, .inl ⟨rfl, rfl, rfl, hno' (fun h => h.2.elim hr1.1 hr1.2)⟩⟩ ⟨rfl, rfl, rfl, rfl, rfl, rfl, rfl, rfl, ?_, trivial⟩ (by dsimp only; simp only [Bool.false_eq_true, if_false]; omega)
                      exact congrArg (Value.int .i64) (by dsimp only; omega)
                  · have el := id_f fun e => hgn.none (e ▸ hl1)
                    apply Lst_pu
                    · apply P_neA
                      focus rfl
                      focus rfl
                      focus kernel_rfl
                      focus exact el
                      focus rfl
                    focus rfl
                    (refine Ga ?_)
                    (apply Lst_call; (focus rfl); (focus rfl))
                    refine (s_Find u.l (by omega) hAX.two.sb).mono ?_
                    rintro v Y ⟨rfl, hSY, hTY⟩
                    rw [if_pos hl1]
                    have hAY := hAX.b hSY hTY
                    have khAY := hTY.blk khAX hnF
                    have kkhAY := khAY
                    unfold ucs at khAY
                    have lhAY := khAY.lt
                    (refine Ga ?_)
                    rcases three u.r with hr1 | hr1 | hr1
                    · have er := id_t hr1
                      apply Lst_pu
                      · apply P_neA
                        focus rfl
                        focus rfl
                        focus kernel_rfl
                        focus exact er
                        focus rfl
                      focus rfl
                      (refine Ga ?_)
                      exact cutQ_n () ⟨hAY, kkhAY, .inr hl1, .inl hr1⟩ ⟨rfl, rfl, rfl, rfl, rfl, rfl, rfl, rfl, rfl, rfl, rfl, trivial⟩
                    · have er := id_f fun e => hgn.none (e ▸ hr1)
                      apply Lst_pu
                      · apply P_neA
                        focus rfl
                        focus rfl
                        focus kernel_rfl
                        focus exact er
                        focus rfl
                      focus rfl
                      (refine Ga ?_)
                      (apply Lst_call; (focus rfl); (focus rfl))
                      refine (s_Find u.r (by omega) hAY.two.sb).mono ?_
                      rintro v Z ⟨rfl, hSZ, hTZ⟩
                      rw [if_pos hr1]
                      have hAZ := hAY.b hSZ hTZ
                      have khAZ := hTZ.blk khAY hnF
                      have kkhAZ := khAZ
                      unfold ucs at khAZ
                      have lhAZ := khAZ.lt
                      (refine Ga ?_)
                      exact cutQ_n () ⟨hAZ, kkhAZ, .inr hl1, .inr hr1⟩ ⟨rfl, rfl, rfl, rfl, rfl, rfl, rfl, rfl, rfl, rfl, rfl, trivial⟩
                    · have er := id_f hr1.1
                      apply Lst_pu
                      · apply P_neA
                        focus rfl
                        focus rfl
                        focus kernel_rfl
                        focus exact er
                        focus rfl
                      focus rfl
                      (refine Ga ?_)
                      (apply Lst_call; (focus rfl); (focus rfl))
                      refine (s_Find u.r (by omega) hAY.two.sb).mono ?_
                      rintro v Z ⟨rfl, hSZ, hTZ⟩
                      rw [if_neg hr1.2]
                      have hAZ := hAY.b hSZ hTZ
                      have khAZ := hTZ.blk khAY hnF
                      have kkhAZ := khAZ
                      unfold ucs at khAZ
                      have lhAZ := khAZ.lt
                      (refine Ga ?_)
                      refine rndQ_n (α := Nat × Bool × List Un × Fo × (Nat → Prop) × Value) (k + 1, false, ls', t', F', .slice (some ⟨g9, o9, none⟩) ls'.length c9) ⟨hAZ, hkl, .inl ⟨rfl, rfl, rfl, hno' (fun h => h.2.elim hr1.1 hr1.2)⟩⟩ ⟨rfl, rfl, rfl, rfl, rfl, rfl, rfl, rfl, ?_, trivial⟩ (by dsimp only; simp only [Bool.false_eq_true, if_false]; omega)
                      exact congrArg (Value.int .i64) (by dsimp only; omega)
                  · have el := id_f hl1.1
                    apply Lst_pu
                    · apply P_neA
                      focus rfl
                      focus rfl
                      focus kernel_rfl
                      focus exact el
                      focus rfl
                    focus rfl
                    (refine Ga ?_)
                    (apply Lst_call; (focus rfl); (focus rfl))
                    refine (s_Find u.l (by omega) hAX.two.sb).mono ?_
                    rintro v Y ⟨rfl, hSY, hTY⟩
                    rw [if_neg hl1.2]
                    have hAY := hAX.b hSY hTY
                    have khAY := hTY.blk khAX hnF
                    have kkhAY := khAY
                    unfold ucs at khAY
                    have lhAY := khAY.lt
                    (refine Ga ?_)
                    refine rndQ_n (α := Nat × Bool × List Un × Fo × (Nat → Prop) × Value) (k + 1, false, ls', t', F', .slice (some ⟨g9, o9, none⟩) ls'.length c9) ⟨hAY, hkl, .inl ⟨rfl, rfl, rfl, hno' (fun h => h.1.elim hl1.1 hl1.2)⟩⟩ ⟨rfl, rfl, rfl, rfl, rfl, rfl, rfl, rfl, ?_, trivial⟩ (by dsimp only; simp only [Bool.false_eq_true, if_false]; omega)
                    exact congrArg (Value.int .i64) (by dsimp only; omega)
                · rintro J _ Y ⟨hAY, kY, hRdy⟩
                  (refine Ga ?_)
                  (apply Lst_call; (focus rfl); (focus rfl))
                  refine (c_Insert u pb F' t' Y (by omega) hAY.two.sb).mono ?_
                  rintro v I ⟨rfl, F9, hSI, hTI⟩
                  have hsp : ls' = ls'.take nn ++ u :: ls'.drop (nn + 1) := by
                    conv => lhs; rw [← List.take_append_drop nn ls']
                    rw [← hu, List.getElem_cons_drop]
                  have hpull := Fo.ok_pull (xs := ls'.take nn) (ys := ls'.drop (nn + 1)) (u := u) hgn (by rw [← hsp]; exact hokl) hRdy.1 hRdy.2
                  rw [← hsp, hput] at hpull
                  obtain ⟨⟨hmay, hok9⟩, hput9⟩ := hpull
                  have hins : (Fo.insert t' u).1 = Fo.put t' u := by unfold Fo.insert; rw [hmay]; rfl
                  rw [hins] at hSI
                  rw [hmay]
                  have hAI := hAY.b hSI hTI
                  have hAd := hAI.grown (grown_start I)
                  have hr9 := hAd.row.rows
                  have hlm : (ls'.map ucs).length = ls'.length := List.length_map _
                  rw [← hlm] at hr9
                  (refine Ga ?_)
                  refine W_drawS 10 (fun B => Grown I B) rfl rfl ?_
                  refine S_takeV 0 9 rfl (by kernel_rfl) (by repeat (first | exact retQ_p | apply seqQ_p | apply blkQ_p | apply rndQ_p | apply cutQ_p)) (grown_start I) ?_
                  (refine Qb ?_)
                  refine S_takeV 1 8 rfl (by kernel_rfl) (by repeat (first | exact retQ_p | apply seqQ_p | apply blkQ_p | apply rndQ_p | apply cutQ_p)) (grown_start I) ?_
                  (refine Qb ?_)
                  refine S_takeV 2 7 rfl (by kernel_rfl) (by repeat (first | exact retQ_p | apply seqQ_p | apply blkQ_p | apply rndQ_p | apply cutQ_p)) (grown_start I) ?_
                  apply Qst_pu
                  · apply P_lslice_hi
                    focus rfl
                    focus rfl
                    focus rfl
                    focus rfl
                    focus rfl
                    focus omega
                    focus omega
                  focus rfl
                  (refine Qb ?_)
                  refine S_takeV 4 6 rfl (by kernel_rfl) (by repeat (first | exact retQ_p | apply seqQ_p | apply blkQ_p | apply rndQ_p | apply cutQ_p)) (grown_start I) ?_
                  (refine Qb ?_)
                  refine S_takeV 5 5 rfl (by kernel_rfl) (by repeat (first | exact retQ_p | apply seqQ_p | apply blkQ_p | apply rndQ_p | apply cutQ_p)) (grown_start I) ?_
                  (refine Qb ?_)
                  refine S_takeV 6 4 rfl (by kernel_rfl) (by repeat (first | exact retQ_p | apply seqQ_p | apply blkQ_p | apply rndQ_p | apply cutQ_p)) (grown_start I) ?_
                  (refine Qb ?_)
                  refine S_takeV 7 3 rfl (by kernel_rfl) (by repeat (first | exact retQ_p | apply seqQ_p | apply blkQ_p | apply rndQ_p | apply cutQ_p)) (grown_start I) ?_
                  apply Qst_pu
                  · apply P_lslice_lo
                    focus rfl
                    focus rfl
                    focus rfl
                    focus rfl
                    focus rfl
                    focus omega
                    focus omega
                  focus rfl
                  (refine Qb ?_)
                  refine S_any [3] 2 rfl (by kernel_rfl) (all1 ?_)
                  apply Lst_appendR (hown := World.ownsRow_nil I.drew I.heap.size 34 6) (hy := SRows.sub hr9 (by rw [hlm]; exact hc9) (Nat.zero_le nn) (by rw [hlm]; omega) (by rw [hlm]; omega)) (hls := fun l hl => ucs_len ls' l (List.mem_of_mem_take (List.mem_of_mem_drop hl))) (hone := fun v hv => by obtain ⟨l, hl, hv⟩ := List.mem_flatten.1 hv; exact ucs_ones ls' v (List.mem_flatten.2 ⟨l, List.mem_of_mem_take (List.mem_of_mem_drop hl), hv⟩)) (bytes := 48)
                  focus rfl
                  focus rfl
                  focus rfl
                  focus rfl
                  focus rfl
                  focus rfl
                  focus rfl
                  focus rfl
                  focus rfl
                  focus (simp only [List.length_drop, List.length_take, List.length_map]; omega)
                  focus (simp only [List.length_drop, List.length_take, List.length_map]; omega)
                  focus exact Nat.le_refl _
                  focus rfl
                  intro w8 B8 ho8 hg8
                  have hb8 : Below I.heap.size I B8 := ⟨hg8.os, hg8.tape, hg8.output, hg8.size, fun k hk => hg8.block k hk (by intro e; cases e)⟩
                  have hbd : Below I.drew.heap.size I.drew B8 := ⟨hg8.os, hg8.tape, hg8.output, hg8.size, fun k hk => hg8.block k hk (by intro e; cases e)⟩
                  have hs8 := hb8.size
                  obtain ⟨y1, y2, y3, rfl⟩ := own_slice ho8
                  have hr8 : SRows B8 6 (.slice (some ⟨g9, o9, none⟩) (ls'.map ucs).length c9) (ls'.map ucs) := hr9.below hbd (Nat.le_refl _)
                  apply Lst_nil
                  apply rnQ_n
                  refine ⟨hb8, ?_⟩
                  refine S_any [8] 1 rfl (by kernel_rfl) (all1 ?_)
                  apply Lst_appendR (hown := ho8) (hy := SRows.sub (l := nn + 1) (m := ls'.length) hr8 (by rw [hlm]; exact hc9) (by omega) (by rw [hlm]; exact Nat.le_refl _) (by rw [hlm]; omega)) (hls := fun l hl => ucs_len ls' l (List.mem_of_mem_take (List.mem_of_mem_drop hl))) (hone := fun v hv => by obtain ⟨l, hl, hv⟩ := List.mem_flatten.1 hv; exact ucs_ones ls' v (List.mem_flatten.2 ⟨l, List.mem_of_mem_take (List.mem_of_mem_drop hl), hv⟩)) (bytes := 48)
                  focus rfl
                  focus rfl
                  focus rfl
                  focus rfl
                  focus rfl
                  focus rfl
                  focus rfl
                  focus rfl
                  focus rfl
                  focus (simp only [List.length_drop, List.length_take, List.length_map]; omega)
                  focus (simp only [List.length_drop, List.length_take, List.length_map]; omega)
                  focus exact hs8
                  focus rfl
                  intro w7 B7 ho7 hg7
                  have hb7 : Below I.heap.size I B7 := Below.own hb8 ho8 hg7 (Nat.le_refl _) hs8
                  obtain ⟨z1, z2, z3, rfl⟩ := own_slice ho7
                  have e1 : 0 + (((ls'.map ucs).take nn).drop 0).length + (((ls'.map ucs).take ls'.length).drop (nn + 1)).length = (ls'.take nn ++ ls'.drop (nn + 1)).length := by
                    simp only [List.length_append, List.length_drop, List.length_take, List.length_map]
                    omega
                  have e2 : [] ++ (((ls'.map ucs).take nn).drop 0).flatten ++ (((ls'.map ucs).take ls'.length).drop (nn + 1)).flatten = ((ls'.take nn ++ ls'.drop (nn + 1)).map ucs).flatten := by
                    rw [List.nil_append, List.drop_zero, ← hlm, List.take_length, List.map_append, List.flatten_append, List.map_take, List.map_drop]
                  rw [e1, e2] at ho7
                  have hlen9 : (ls'.take nn ++ ls'.drop (nn + 1)).length + 1 = ls'.length := by
                    simp only [List.length_append, List.length_drop, List.length_take]
                    omega
                  have hA9 := hAI.new hb7 ho7
                  apply Lst_nil
                  apply rnQ_n
                  refine ⟨hb7, ?_⟩
                  refine S_takeV 9 0 rfl (by kernel_rfl) (by repeat (first | exact retQ_p | apply seqQ_p | apply blkQ_p | apply rndQ_p | apply cutQ_p)) hb7 ?_
                  (refine Qb ?_)
                  refine S_done (by kernel_rfl) ?_
                  (refine Ga ?_)
                  refine rndQ_n (α := Nat × Bool × List Un × Fo × (Nat → Prop) × Value) (k + 1, true, ls'.take nn ++ ls'.drop (nn + 1), Fo.put t' u, F9, .slice z1 z2 z3) ⟨hA9, hkl, .inr ⟨rfl, hok9, hput9, hlen9⟩⟩ ⟨rfl, rfl, rfl, rfl, rfl, rfl, rfl, rfl, ?_, trivial⟩ (by dsimp only; simp only [Bool.false_eq_true, if_false, if_true]; omega)
                  exact congrArg (Value.int .i64) (by dsimp only; omega)
                -- end of the cases
              · exfalso
                obtain rfl : k = ls'.length := by omega
                cases ls' with
                | nil => exact absurd hl0 (Nat.lt_irrefl _)
                | cons u0 us0 =>
                  have hh0 : (m + (us0.length + 1 - m) % (us0.length + 1)) % (us0.length + 1) = 0 := by
                    rcases Nat.eq_zero_or_pos m with rfl | hm0
                    · simp
                    · have hm' : m < us0.length + 1 := hm
                      rw [Nat.mod_eq_of_lt (show us0.length + 1 - m < us0.length + 1 by omega), show m + (us0.length + 1 - m) = us0.length + 1 by omega, Nat.mod_self]
                  have h1 := hno ((us0.length + 1 - m) % (us0.length + 1)) (Nat.mod_lt _ (by omega)) (Nat.mod_lt _ (by simp))
                  have e : (u0 :: us0)[(m + (us0.length + 1 - m) % (us0.length + 1)) % (u0 :: us0).length]'(Nat.mod_lt _ (by simp)) = u0 := by
                    have : (m + (us0.length + 1 - m) % (us0.length + 1)) % (u0 :: us0).length = 0 := hh0
                    simp only [this, List.getElem_cons_zero]
                  rw [e] at h1
                  exact h1 (Fo.ok_head hokl)
            · by_cases hkl : k < ls'.length
              · (refine Ga ?_)
                refine rndQ_n (α := Nat × List Un × Fo × (Nat → Prop) × Value) (i + 1, ls', t', F', .slice b9 ls'.length c9) ⟨by dsimp only; omega, hA2, hok2, hput2⟩ ⟨rfl, rfl, rfl, rfl, rfl, ?_, trivial⟩ (by dsimp only; omega)
                exact congrArg (Value.int .i64) (by dsimp only; omega)
              · (refine Ga ?_)
                refine rndQ_n (α := Nat × List Un × Fo × (Nat → Prop) × Value) (i + 1, ls', t', F', .slice b9 ls'.length c9) ⟨by dsimp only; omega, hA2, hok2, hput2⟩ ⟨rfl, rfl, rfl, rfl, rfl, ?_, trivial⟩ (by dsimp only; omega)
                exact congrArg (Value.int .i64) (by dsimp only; omega)
        · have hl0' : ls = [] := List.eq_nil_of_length_eq_zero (by omega)
          subst hl0'
          have hTt : t = T := hput
          subst hTt
          have hi' : i = us.length := by simpa using hi
          subst hi'
          have hTw := hA.two
          have hszT : t.sz = us.length := by rw [← hTe]; exact sq_len hok
          clear hA hi hokl hput hz1
          (refine Ga ?_)
          (apply Lst_call; (focus rfl); (focus rfl))
          refine (s_Len hTw.sa).mono ?_
          rintro v A' ⟨rfl, rfl⟩
          (refine Ga ?_)
          (apply Lst_call; (focus rfl); (focus rfl))
          refine (s_Len hTw.sb).mono ?_
          rintro v A' ⟨rfl, rfl⟩
          (refine Ga ?_)
          (apply Lst_call; (focus rfl); (focus rfl))
          refine (s_Len hTw.sa).mono ?_
          rintro v A' ⟨rfl, rfl⟩
          (refine Ga ?_)
          refine W_loop (α := Nat) (fun k => [(6, .pointer (some ⟨pa, 0, none⟩)), (7, .pointer (some ⟨pb, 0, none⟩)), (16, .int .i64 (k : Int))]) (fun k A => k ≤ t.sz ∧ Two w1 A pa Fa t pb F t) (fun k _ => t.sz - k) 0 ⟨Nat.zero_le _, hTw⟩ ⟨rfl, rfl, rfl, trivial⟩ ?_
          clear hTw
          rintro J k A ⟨hk, hTw⟩
          (refine Ga ?_)
          (apply Lst_call; (focus rfl); (focus rfl))
          refine (s_Len hTw.sa).mono ?_
          rintro v A' ⟨rfl, rfl⟩
          by_cases hkl : k < t.sz
          · (refine Ga ?_)
            (apply Lst_call; (focus rfl); (focus rfl))
            refine (s_At (k : Int) hTw.sa).mono ?_
            rintro v A1 ⟨rfl, hbA1⟩
            rw [if_pos (show 0 ≤ (k : Int) ∧ (k : Int) < t.sz by omega), Int.toNat_natCast]
            have hT1 := hTw.grown hbA1
            obtain ⟨u, hu⟩ : ∃ u, t.flat.getD k default = u := ⟨_, rfl⟩
            rw [hu]
            unfold ucs
            obtain ⟨A2, hA2⟩ : ∃ A2, (A1.alloc (.cells #[.int .u64 0, .int .u64 0, .int .u64 0, .int .u64 0, .int .u64 0, .int .u64 0] 34)).putObj A1.heap.size (.cells #[.int .u64 (u.id.1 : Int), .int .u64 (u.id.2 : Int), .int .u64 (u.l.1 : Int), .int .u64 (u.l.2 : Int), .int .u64 (u.r.1 : Int), .int .u64 (u.r.2 : Int)] 34) = A2 := ⟨_, rfl⟩
            have hbA2 : Below A1.heap.size A1 A2 := by rw [← hA2]; exact Bel
            have k17 : Blk A2 A1.heap.size [.int .u64 (u.id.1 : Int), .int .u64 (u.id.2 : Int), .int .u64 (u.l.1 : Int), .int .u64 (u.l.2 : Int), .int .u64 (u.r.1 : Int), .int .u64 (u.r.2 : Int)] 34 := by rw [← hA2]; exact (by (repeat (first | assumption | (apply Blk.below (hb := hb1); rotate_left; (focus ((try simp only [Sx.sizes]); omega)); rotate_right) | (apply Blk.below (hb := hb2); rotate_left; (focus ((try simp only [Sx.sizes]); omega)); rotate_right) | (apply Blk.below (hb := hb3); rotate_left; (focus ((try simp only [Sx.sizes]); omega)); rotate_right) | (apply Blk.below (hb := hb4); rotate_left; (focus ((try simp only [Sx.sizes]); omega)); rotate_right) | (apply Blk.below (hb := hb5); rotate_left; (focus ((try simp only [Sx.sizes]); omega)); rotate_right) | (apply Blk.below (hb := hb6); rotate_left; (focus ((try simp only [Sx.sizes]); omega)); rotate_right) | (apply Blk.below (hb := hb7); rotate_left; (focus ((try simp only [Sx.sizes]); omega)); rotate_right) | (apply Blk.below (hb := hb8); rotate_left; (focus ((try simp only [Sx.sizes]); omega)); rotate_right) | (apply Blk.below (hb := hb9); rotate_left; (focus ((try simp only [Sx.sizes]); omega)); rotate_right) | exact Blk.newE (by first | rfl | ((try simp only [Sx.sizes]); first | done | omega)) _ _ | exact Blk.put_same (by (try simp only [Sx.sizes]); first | done | omega) _ _ | (apply Blk.put_ne; (focus omega)) | apply Blk.alloc | apply Blk.drew)); done)
            (refine Ga ?_)
            rw [hA2]
            clear hA2
            have hT2 := hT1.grown hbA2
            (refine Ga ?_)
            (apply Lst_call; (focus rfl); (focus rfl))
            refine (s_At (k : Int) hT2.sb).mono ?_
            rintro v A3 ⟨rfl, hbA3⟩
            rw [if_pos (show 0 ≤ (k : Int) ∧ (k : Int) < t.sz by omega), Int.toNat_natCast, hu]
            unfold ucs
            have hT3 := hT2.grown hbA3
            have k173 := k17.below hbA3 k17.lt
            obtain ⟨A4, hA4⟩ : ∃ A4, (A3.alloc (.cells #[.int .u64 0, .int .u64 0, .int .u64 0, .int .u64 0, .int .u64 0, .int .u64 0] 34)).putObj A3.heap.size (.cells #[.int .u64 (u.id.1 : Int), .int .u64 (u.id.2 : Int), .int .u64 (u.l.1 : Int), .int .u64 (u.l.2 : Int), .int .u64 (u.r.1 : Int), .int .u64 (u.r.2 : Int)] 34) = A4 := ⟨_, rfl⟩
            have hbA4 : Below A3.heap.size A3 A4 := by rw [← hA4]; exact Bel
            have k19 : Blk A4 A3.heap.size [.int .u64 (u.id.1 : Int), .int .u64 (u.id.2 : Int), .int .u64 (u.l.1 : Int), .int .u64 (u.l.2 : Int), .int .u64 (u.r.1 : Int), .int .u64 (u.r.2 : Int)] 34 := by rw [← hA4]; exact (by (repeat (first | assumption | (apply Blk.below (hb := hb1); rotate_left; (focus ((try simp only [Sx.sizes]); omega)); rotate_right) | (apply Blk.below (hb := hb2); rotate_left; (focus ((try simp only [Sx.sizes]); omega)); rotate_right) | (apply Blk.below (hb := hb3); rotate_left; (focus ((try simp only [Sx.sizes]); omega)); rotate_right) | (apply Blk.below (hb := hb4); rotate_left; (focus ((try simp only [Sx.sizes]); omega)); rotate_right) | (apply Blk.below (hb := hb5); rotate_left; (focus ((try simp only [Sx.sizes]); omega)); rotate_right) | (apply Blk.below (hb := hb6); rotate_left; (focus ((try simp only [Sx.sizes]); omega)); rotate_right) | (apply Blk.below (hb := hb7); rotate_left; (focus ((try simp only [Sx.sizes]); omega)); rotate_right) | (apply Blk.below (hb := hb8); rotate_left; (focus ((try simp only [Sx.sizes]); omega)); rotate_right) | (apply Blk.below (hb := hb9); rotate_left; (focus ((try simp only [Sx.sizes]); omega)); rotate_right) | exact Blk.newE (by first | rfl | ((try simp only [Sx.sizes]); first | done | omega)) _ _ | exact Blk.put_same (by (try simp only [Sx.sizes]); first | done | omega) _ _ | (apply Blk.put_ne; (focus omega)) | apply Blk.alloc | apply Blk.drew)); done)
            (refine Ga ?_)
            rw [hA4]
            clear hA4
            have hT4 := hT3.grown hbA4
            have k174 := k173.below hbA4 k173.lt
            have l17 := k174.lt
            have l19 := k19.lt
            (refine Ga ?_)
            refine rndQ_n (α := Nat) (k + 1) ⟨hkl, hT4⟩ ⟨rfl, rfl, ?_, trivial⟩ (by omega)
            exact congrArg (Value.int .i64) (by omega)
          · (refine Ga ?_)
            (apply retQ1; (focus rfl))
            exact ⟨rfl, hb1.trans (hTw.bel.mono hb1.size)⟩
    · (refine Ga ?_)
      (apply retQ1; (focus rfl))
      exact ⟨rfl, hb1⟩
  · (refine Ga ?_)
    (apply retQ1; (focus rfl))
    exact ⟨rfl, hb1⟩
end
end Sq
end Go.Proofs.Ytmammcgdjjldbaa
