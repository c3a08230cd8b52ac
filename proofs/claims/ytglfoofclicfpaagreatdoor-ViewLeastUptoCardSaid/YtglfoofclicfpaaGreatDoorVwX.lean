/- The laws of views: cuts, differences, parts, least. -/
import Derived.Test.YtglfoofclicfpaaGreatDoorVwW
import Derived.Test.YtglfoofclicfpaaGreatDoorPlace
namespace Go.Proofs.YtglfoofclicfpaaGreatDoor
set_option maxRecDepth 100000
namespace Vw
open Go Go.RowKit Sx Tl Fl Val Mk
open Utf (rs tl Tabs cutS)
theorem wts_cons (r : Rn) (L : List Rn) : wts (r :: L) = wtR r + wts L := by unfold wts; rw [List.map_cons, List.sum_cons]
theorem tot_cons (p : Rv) (P : List Rv) : tot (p :: P) = 1 + p.1.tx.size + tot P := by unfold tot; rw [List.map_cons, List.sum_cons]
theorem light_tot {P : List Rv} (h : Light (P.map Prod.fst)) : tot P ≤ 2000 := by
  have key : ∀ P : List Rv, tot P ≤ wts (P.map Prod.fst) := fun P => by
    induction P with
    | nil => exact Nat.le_refl _
    | cons p P ih =>
      rw [List.map_cons, wts_cons, tot_cons]
      unfold wtR
      omega
  exact Nat.le_trans (key P) h.wt
theorem light_ok {P : List Rv} (h : Light (P.map Prod.fst)) : ∀ p ∈ P, OkR p.1 := fun p hp => h.ok p.1 (List.mem_map_of_mem hp)
theorem wts_mem : ∀ {L : List Rn} {r : Rn}, r ∈ L → wtR r ≤ wts L
  | [], _, h => absurd h List.not_mem_nil
  | x :: L, r, h => by
    rw [wts_cons]
    rcases List.mem_cons.1 h with rfl | h
    · omega
    · have := wts_mem h
      omega
theorem light_ms {P : List Rv} (h : Light (P.map Prod.fst)) : ∀ p ∈ P, p.1.ms.length ≤ 1000000 := fun p hp => by
  have h1 := wts_mem (List.mem_map_of_mem hp : p.1 ∈ P.map Prod.fst)
  have h2 := h.wt
  unfold wtR at h1
  omega
theorem lenR_le (r : Rn) : lenR r ≤ 1 + r.tx.size := by
  unfold lenR
  split
  · omega
  · have := Utf.rs_length (tl r.tx)
    have e : (tl r.tx).length = r.tx.size := rfl
    omega
theorem light_len {P : List Rv} (h : Light (P.map Prod.fst)) : lenP P ≤ 2000 := by
  have key : ∀ P : List Rv, lenP P ≤ tot P := fun P => by
    induction P with
    | nil => exact Nat.le_refl _
    | cons p P ih =>
      rw [lenP_cons, tot_cons]
      have := lenR_le p.1
      omega
  exact Nat.le_trans (key P) (light_tot h)
theorem light_n {P : List Rv} (h : Light (P.map Prod.fst)) : P.length ≤ 100 := by
  have := h.len
  rw [List.length_map] at this
  exact this
theorem patU_len (U : List Un) (p q : Int) (V : List Un) : (patU U p q V).length ≤ U.length + V.length := by
  unfold patU
  rw [List.length_append, List.length_append, List.length_take, List.length_drop]
  omega
theorem part_len (U : List Un) (f t : Nat) : ((U.take t).drop f).length ≤ U.length := by
  rw [List.length_drop, List.length_take]
  omega
section
attribute [local irreducible] RnS RnT
attribute [local irreducible] W Lst Qst Pu seqQ blkQ rndQ cutQ retQ Does Enters IntKind.wrap bits sb World.alloc World.putObj Blk
theorem c_sm (P K : List Rv) (A : Nat) (a b : Option Addr) (c d : Nat) (w : World) (h : RunS A w (.slice a P.length c) P) (k : RunS A w (.slice b K.length d) K) (ok : ∀ p ∈ P, OkR p.1) (okK : ∀ p ∈ K, OkR p.1) (hz : ∀ p ∈ P, p.1.ms.length ≤ 1000000) (hl : P.length ≤ 1000000) : Does Tryz.prog 12 #[.slice a P.length c, .slice b K.length d] w fun v w' => (∃ t, v = .bool t ∧ (t = true ↔ (P.map Prod.fst).map cl = (K.map Prod.fst).map cl)) ∧ Below w.heap.size w w' := by
  refine Does_of (args := [.slice a P.length c, .slice b K.length d]) Tryz.func12 (by kernel_rfl) rfl rfl rfl rfl rfl ?_
  (refine Ga ?_)
  (apply Lst_call; (focus rfl); (focus rfl))
  refine (r_SameL P K A a b c d w h k ok okK hz hl).mono ?_
  rintro v V ⟨⟨t, rfl, ht⟩, hV⟩
  (refine Ga ?_)
  (apply retQ1; (focus rfl))
  exact ⟨⟨t, rfl, ht⟩, hV⟩
set_option maxHeartbeats 8000000 in
theorem law_ViewCuts (P : List Rv) (a : Option Addr) (c : Nat) (lP : P.length ≤ 2000000) (rawP : ∀ p ∈ P, Raw p.1) (L : List Rv) (b : Option Addr) (d : Nat) (lL : L.length ≤ 2000000) (rawL : ∀ p ∈ L, Raw p.1) (x n : Int) (wx : -9223372036854775808 ≤ x ∧ x ≤ 9223372036854775807) (wn : -9223372036854775808 ≤ n ∧ n ≤ 9223372036854775807) (W0 : World) (hV : VTabs W0) (hT : Tabs W0) (hP : RunS W0.heap.size W0 (.slice a P.length c) P) (hL : RunS W0.heap.size W0 (.slice b L.length d) L) : Does Tryz.prog 4 #[.slice a P.length c, .slice b L.length d, .int .i64 x, .int .i64 n] W0 fun v w' => v = .bool true ∧ Below W0.heap.size W0 w' := by
  refine Does_of (args := [.slice a P.length c, .slice b L.length d, .int .i64 x, .int .i64 n]) Tryz.func4 (by kernel_rfl) rfl rfl rfl rfl rfl ?_
  have c0 := Nat.le_refl W0.heap.size
  have b0 : Below W0.heap.size W0 W0 := Below.refl _ _
  (refine Ga ?_)
  (apply Lst_call; (focus rfl); (focus rfl))
  refine (c_known14 W0 (hV.below b0) (hT.below b0)).mono ?_
  rintro v W1 ⟨rfl, h1⟩
  have b1 := b0.trans (h1.mono b0.size)
  have c1 := b1.size
  replace hP := hP.below h1
  replace hL := hL.below h1
  (refine Ga ?_)
  (apply Lst_call; (focus rfl); (focus rfl))
  refine (c_light14 P W0.heap.size a c W1 hP lP rawP).mono ?_
  rintro v W2 ⟨⟨t, rfl, htP⟩, h2⟩
  have b2 := b1.trans (h2.mono b1.size)
  have c2 := b2.size
  replace hP := hP.below h2
  replace hL := hL.below h2
  cases t with
  | false =>
    (refine Ga ?_)
    (apply retQ1; (focus rfl))
    exact ⟨rfl, b2⟩
  | true =>
    have liP := htP rfl
    have okP := light_ok liP
    have msP := light_ms liP
    have toP := light_tot liP
    have leP := light_len liP
    have lnP := light_n liP
    (refine Ga ?_)
    (apply Lst_call; (focus rfl); (focus rfl))
    refine (c_light14 L W0.heap.size b d W2 hL lL rawL).mono ?_
    rintro v W3 ⟨⟨t, rfl, htL⟩, h3⟩
    have b3 := b2.trans (h3.mono b2.size)
    have c3 := b3.size
    replace hP := hP.below h3
    replace hL := hL.below h3
    cases t with
    | false =>
      (refine Ga ?_)
      (apply retQ1; (focus rfl))
      exact ⟨rfl, b3⟩
    | true =>
      have liL := htL rfl
      have okL := light_ok liL
      have msL := light_ms liL
      have toL := light_tot liL
      have leL := light_len liL
      have lnL := light_n liL
      (refine Ga ?_)
      apply Lst_appendV (hown := OwnR.nil W0.heap.size W3.heap.size W3) (hy := hP) (hAB := c3)
      focus (rw [List.length_nil]; omega)
      focus exact Nat.le_refl _
      focus rfl
      focus rfl
      focus rfl
      intro v4 W4 ho4 h4 _
      obtain ⟨a4, q4, rfl, _⟩ := ho4.form
      have b4 := b3.trans (h4.mono b3.size)
      have c4 := b4.size
      replace hP := hP.below h4
      replace hL := hL.below h4
      rw [List.nil_append] at ho4 ⊢
      have hin := ho4.read
      (refine Ga ?_)
      (apply Lst_call; (focus rfl); (focus rfl))
      refine (c_Clean P W0.heap.size a4 q4 W4 c4 hin okP msP (by omega)).mono ?_
      rintro v W5 ⟨⟨K1, hoK1, cl1, t1, z1⟩, h5⟩
      have b5 := b4.trans (h5.mono b4.size)
      have c5 := b5.size
      replace hP := hP.below h5
      replace hL := hL.below h5
      replace hin := hin.below h5
      obtain ⟨x1, y1, rfl, _⟩ := hoK1.form
      have hK1 := hoK1.read
      have is1 := cl1.is
      (refine Ga ?_)
      (apply Lst_call; (focus rfl); (focus rfl))
      refine (r_Clean P W0.heap.size a c W5 c5 hP okP msP (by omega)).mono ?_
      rintro v W6 ⟨⟨K2, hoK2, cl2, t2, z2⟩, h6⟩
      have b6 := b5.trans (h6.mono b5.size)
      have c6 := b6.size
      replace hP := hP.below h6
      replace hL := hL.below h6
      replace hin := hin.below h6
      replace hK1 := hK1.below h6
      obtain ⟨x2, y2, rfl, _⟩ := hoK2.form
      have hK2 := hoK2.read
      have is2 := cl2.is
      have le1 := tot_len K1
      have le2 := tot_len K2
      (refine Ga ?_)
      (apply Lst_call; (focus rfl); (focus rfl))
      refine (c_sm K1 K2 W0.heap.size x1 x2 y1 y2 W6 hK1 hK2 (mem_ok is1) (mem_ok is2) z1 (by omega)).mono ?_
      rintro v W7 ⟨⟨t, rfl, ht⟩, h7⟩
      have b7 := b6.trans (h7.mono b6.size)
      have c7 := b7.size
      replace hP := hP.below h7
      replace hL := hL.below h7
      replace hin := hin.below h7
      replace hK1 := hK1.below h7
      replace hK2 := hK2.below h7
      obtain rfl : t = true := ht.2 (is1.cl is2)
      (refine Ga ?_)
      (apply Lst_call; (focus rfl); (focus rfl))
      refine (c_Clean K1 W0.heap.size x1 y1 W7 c7 hK1 (mem_ok is1) z1 (by omega)).mono ?_
      rintro v W8 ⟨⟨K3, hoK3, cl3, t3, z3⟩, h8⟩
      have b8 := b7.trans (h8.mono b7.size)
      have c8 := b8.size
      replace hP := hP.below h8
      replace hL := hL.below h8
      replace hin := hin.below h8
      replace hK1 := hK1.below h8
      replace hK2 := hK2.below h8
      obtain ⟨x3, y3, rfl, _⟩ := hoK3.form
      have hK3 := hoK3.read
      have is3 := cl3.is
      rw [is1.us] at is3
      have le3 := tot_len K3
      (refine Ga ?_)
      (apply Lst_call; (focus rfl); (focus rfl))
      refine (c_sm K3 K1 W0.heap.size x3 x1 y3 y1 W8 hK3 hK1 (mem_ok is3) (mem_ok is1) z3 (by omega)).mono ?_
      rintro v W9 ⟨⟨t, rfl, ht⟩, h9⟩
      have b9 := b8.trans (h9.mono b8.size)
      have c9 := b9.size
      replace hP := hP.below h9
      replace hL := hL.below h9
      replace hin := hin.below h9
      replace hK1 := hK1.below h9
      replace hK2 := hK2.below h9
      replace hK3 := hK3.below h9
      obtain rfl : t = true := ht.2 (is3.cl is1)
      (refine Ga ?_)
      (apply Lst_call; (focus rfl); (focus rfl))
      refine (c_sm P P W0.heap.size a4 a q4 c W9 hin hP okP okP msP (by omega)).mono ?_
      rintro v W10 ⟨⟨t, rfl, ht⟩, h10⟩
      have b10 := b9.trans (h10.mono b9.size)
      have c10 := b10.size
      replace hP := hP.below h10
      replace hL := hL.below h10
      replace hin := hin.below h10
      replace hK1 := hK1.below h10
      replace hK2 := hK2.below h10
      replace hK3 := hK3.below h10
      obtain rfl : t = true := ht.2 (rfl)
      (refine Ga ?_)
      (apply Lst_call; (focus rfl); (focus rfl))
      refine (c_Cut P W0.heap.size a c W10 c10 hP okP msP (by omega) (by omega) x n wx wn (hT.below b10)).mono ?_
      rintro v W11 ⟨⟨K4, hoK4, is4, z4⟩, h11⟩
      have b11 := b10.trans (h11.mono b10.size)
      have c11 := b11.size
      replace hP := hP.below h11
      replace hL := hL.below h11
      replace hin := hin.below h11
      replace hK1 := hK1.below h11
      replace hK2 := hK2.below h11
      replace hK3 := hK3.below h11
      obtain ⟨x4, y4, rfl, _⟩ := hoK4.form
      have hK4 := hoK4.read
      (refine Ga ?_)
      (apply Lst_call; (focus rfl); (focus rfl))
      refine (r_Cut P W0.heap.size a c W11 c11 hP okP msP (by omega) (by omega) x n).mono ?_
      rintro v W12 ⟨⟨K5, hoK5, is5, z5⟩, h12⟩
      have b12 := b11.trans (h12.mono b11.size)
      have c12 := b12.size
      replace hP := hP.below h12
      replace hL := hL.below h12
      replace hin := hin.below h12
      replace hK1 := hK1.below h12
      replace hK2 := hK2.below h12
      replace hK3 := hK3.below h12
      replace hK4 := hK4.below h12
      obtain ⟨x5, y5, rfl, _⟩ := hoK5.form
      have hK5 := hoK5.read
      (refine Ga ?_)
      (apply Lst_call; (focus rfl); (focus rfl))
      refine (c_sm K4 K5 W0.heap.size x4 x5 y4 y5 W12 hK4 hK5 (mem_ok is4) (mem_ok is5) z4 (by have := tot_len K4; have := is4.tot; have := part_len (us (P.map Prod.fst)) x.toNat n.toNat; have : (us (P.map Prod.fst)).length = lenP P := rfl; omega)).mono ?_
      rintro v W13 ⟨⟨t, rfl, ht⟩, h13⟩
      have b13 := b12.trans (h13.mono b12.size)
      have c13 := b13.size
      replace hP := hP.below h13
      replace hL := hL.below h13
      replace hin := hin.below h13
      replace hK1 := hK1.below h13
      replace hK2 := hK2.below h13
      replace hK3 := hK3.below h13
      replace hK4 := hK4.below h13
      replace hK5 := hK5.below h13
      obtain rfl : t = true := ht.2 (is4.cl is5)
      (refine Ga ?_)
      (apply Lst_call; (focus rfl); (focus rfl))
      refine (c_Patch P L W0.heap.size a b c d x n W13 c13 hP hL okP okL msP msL (by omega) (by omega) (by omega) wx wn (hT.below b13)).mono ?_
      rintro v W14 ⟨⟨K6, hoK6, is6, z6⟩, h14⟩
      have b14 := b13.trans (h14.mono b13.size)
      have c14 := b14.size
      replace hP := hP.below h14
      replace hL := hL.below h14
      replace hin := hin.below h14
      replace hK1 := hK1.below h14
      replace hK2 := hK2.below h14
      replace hK3 := hK3.below h14
      replace hK4 := hK4.below h14
      replace hK5 := hK5.below h14
      obtain ⟨x6, y6, rfl, _⟩ := hoK6.form
      have hK6 := hoK6.read
      (refine Ga ?_)
      (apply Lst_call; (focus rfl); (focus rfl))
      refine (r_Patch P L W0.heap.size a b c d x n W14 c14 hP hL okP okL msP msL (by omega) (by omega) (by omega) wx wn).mono ?_
      rintro v W15 ⟨⟨K7, hoK7, is7, z7⟩, h15⟩
      have b15 := b14.trans (h15.mono b14.size)
      have c15 := b15.size
      replace hP := hP.below h15
      replace hL := hL.below h15
      replace hin := hin.below h15
      replace hK1 := hK1.below h15
      replace hK2 := hK2.below h15
      replace hK3 := hK3.below h15
      replace hK4 := hK4.below h15
      replace hK5 := hK5.below h15
      replace hK6 := hK6.below h15
      obtain ⟨x7, y7, rfl, _⟩ := hoK7.form
      have hK7 := hoK7.read
      (refine Ga ?_)
      (apply Lst_call; (focus rfl); (focus rfl))
      refine (c_sm K6 K7 W0.heap.size x6 x7 y6 y7 W15 hK6 hK7 (mem_ok is6) (mem_ok is7) z6 (by have := tot_len K6; have := is6.tot; have := patU_len (us (P.map Prod.fst)) x n (us (L.map Prod.fst)); have : (us (P.map Prod.fst)).length = lenP P := rfl; have : (us (L.map Prod.fst)).length = lenP L := rfl; omega)).mono ?_
      rintro v W16 ⟨⟨t, rfl, ht⟩, h16⟩
      have b16 := b15.trans (h16.mono b15.size)
      have c16 := b16.size
      replace hP := hP.below h16
      replace hL := hL.below h16
      replace hin := hin.below h16
      replace hK1 := hK1.below h16
      replace hK2 := hK2.below h16
      replace hK3 := hK3.below h16
      replace hK4 := hK4.below h16
      replace hK5 := hK5.below h16
      replace hK6 := hK6.below h16
      replace hK7 := hK7.below h16
      obtain rfl : t = true := ht.2 (is6.cl is7)
      (refine Ga ?_)
      (apply retQ1; (focus rfl))
      exact ⟨rfl, b16⟩
set_option maxHeartbeats 8000000 in
theorem law_ViewDiff (P : List Rv) (a : Option Addr) (c : Nat) (lP : P.length ≤ 2000000) (rawP : ∀ p ∈ P, Raw p.1) (L : List Rv) (b : Option Addr) (d : Nat) (lL : L.length ≤ 2000000) (rawL : ∀ p ∈ L, Raw p.1) (W0 : World) (hV : VTabs W0) (hT : Tabs W0) (hP : RunS W0.heap.size W0 (.slice a P.length c) P) (hL : RunS W0.heap.size W0 (.slice b L.length d) L) : Does Tryz.prog 5 #[.slice a P.length c, .slice b L.length d] W0 fun v w' => v = .bool true ∧ Below W0.heap.size W0 w' := by
  refine Does_of (args := [.slice a P.length c, .slice b L.length d]) Tryz.func5 (by kernel_rfl) rfl rfl rfl rfl rfl ?_
  have c0 := Nat.le_refl W0.heap.size
  have b0 : Below W0.heap.size W0 W0 := Below.refl _ _
  (refine Ga ?_)
  (apply Lst_call; (focus rfl); (focus rfl))
  refine (c_known14 W0 (hV.below b0) (hT.below b0)).mono ?_
  rintro v W1 ⟨rfl, h1⟩
  have b1 := b0.trans (h1.mono b0.size)
  have c1 := b1.size
  replace hP := hP.below h1
  replace hL := hL.below h1
  (refine Ga ?_)
  (apply Lst_call; (focus rfl); (focus rfl))
  refine (c_light14 P W0.heap.size a c W1 hP lP rawP).mono ?_
  rintro v W2 ⟨⟨t, rfl, htP⟩, h2⟩
  have b2 := b1.trans (h2.mono b1.size)
  have c2 := b2.size
  replace hP := hP.below h2
  replace hL := hL.below h2
  cases t with
  | false =>
    (refine Ga ?_)
    (apply retQ1; (focus rfl))
    exact ⟨rfl, b2⟩
  | true =>
    have liP := htP rfl
    have okP := light_ok liP
    have msP := light_ms liP
    have toP := light_tot liP
    have leP := light_len liP
    have lnP := light_n liP
    (refine Ga ?_)
    (apply Lst_call; (focus rfl); (focus rfl))
    refine (c_light14 L W0.heap.size b d W2 hL lL rawL).mono ?_
    rintro v W3 ⟨⟨t, rfl, htL⟩, h3⟩
    have b3 := b2.trans (h3.mono b2.size)
    have c3 := b3.size
    replace hP := hP.below h3
    replace hL := hL.below h3
    cases t with
    | false =>
      (refine Ga ?_)
      (apply retQ1; (focus rfl))
      exact ⟨rfl, b3⟩
    | true =>
      have liL := htL rfl
      have okL := light_ok liL
      have msL := light_ms liL
      have toL := light_tot liL
      have leL := light_len liL
      have lnL := light_n liL
      have lU : (us (P.map Prod.fst)).length = lenP P := rfl
      have lV : (us (L.map Prod.fst)).length = lenP L := rfl
      (refine Ga ?_)
      (apply Lst_call; (focus rfl); (focus rfl))
      refine (c_Diff P L W0.heap.size a b c d W3 c3 hP hL okP okL msP msL (by omega) (by omega) (by omega) (by omega)).mono ?_
      rintro v W4 ⟨⟨n1, e1, kv1, K1, rfl, at1, en1, hoK1, is1, z1⟩, h4⟩
      have b4 := b3.trans (h4.mono b3.size)
      have c4 := b4.size
      replace hP := hP.below h4
      replace hL := hL.below h4
      obtain ⟨x1, y1, rfl, _⟩ := hoK1.form
      have hK1 := hoK1.read
      (refine Ga ?_)
      (apply Lst_call; (focus rfl); (focus rfl))
      refine (r_Diff P L W0.heap.size a b c d W4 c4 hP hL okP okL msP msL (by omega) (by omega) (by omega) (by omega)).mono ?_
      rintro v W5 ⟨⟨n2, e2, kv2, K2, rfl, at2, en2, hoK2, is2, z2⟩, h5⟩
      have b5 := b4.trans (h5.mono b4.size)
      have c5 := b5.size
      replace hP := hP.below h5
      replace hL := hL.below h5
      replace hK1 := hK1.below h5
      obtain ⟨x2, y2, rfl, _⟩ := hoK2.form
      have hK2 := hoK2.read
      obtain rfl := at1.unique at2
      obtain rfl := en1.unique en2
      (refine Ga ?_)
      (apply Lst_call; (focus rfl); (focus rfl))
      refine (c_sm K1 K2 W0.heap.size x1 x2 y1 y2 W5 hK1 hK2 (mem_ok is1) (mem_ok is2) z1 (by have := tot_len K1; have := is1.tot; have := part_len (us (L.map Prod.fst)) n1 ((us (L.map Prod.fst)).length - e1); omega)).mono ?_
      rintro v W6 ⟨⟨t, rfl, ht⟩, h6⟩
      have b6 := b5.trans (h6.mono b5.size)
      have c6 := b6.size
      replace hP := hP.below h6
      replace hL := hL.below h6
      replace hK1 := hK1.below h6
      replace hK2 := hK2.below h6
      obtain rfl : t = true := ht.2 (is1.cl is2)
      have eU := en1.hU
      have eV := en1.hV
      have tK1 := is1.tot
      have pK1 := part_len (us (L.map Prod.fst)) n1 ((us (L.map Prod.fst)).length - e1)
      (refine Ga ?_)
      (apply Lst_call; (focus rfl); (focus rfl))
      refine (c_Patch P K1 W0.heap.size a x1 c y1 (n1 : Int) (((us (P.map Prod.fst)).length - n1 - e1 : Nat) : Int) W6 c6 hP hK1 okP (mem_ok is1) msP z1 (by omega) (by omega) (by omega) (by omega) (by omega) (hT.below b6)).mono ?_
      rintro v W7 ⟨⟨K3, hoK3, is3, z3⟩, h7⟩
      have b7 := b6.trans (h7.mono b6.size)
      have c7 := b7.size
      replace hP := hP.below h7
      replace hL := hL.below h7
      replace hK1 := hK1.below h7
      replace hK2 := hK2.below h7
      obtain ⟨x3, y3, rfl, _⟩ := hoK3.form
      have hK3 := hoK3.read
      (refine Ga ?_)
      (apply Lst_call; (focus rfl); (focus rfl))
      refine (r_Clean L W0.heap.size b d W7 c7 hL okL msL (by omega)).mono ?_
      rintro v W8 ⟨⟨K4, hoK4, cl4, t4, z4⟩, h8⟩
      have b8 := b7.trans (h8.mono b7.size)
      have c8 := b8.size
      replace hP := hP.below h8
      replace hL := hL.below h8
      replace hK1 := hK1.below h8
      replace hK2 := hK2.below h8
      replace hK3 := hK3.below h8
      obtain ⟨x4, y4, rfl, _⟩ := hoK4.form
      have hK4 := hoK4.read
      have is4 := cl4.is
      have hpat : patU (us (P.map Prod.fst)) (n1 : Int) (((us (P.map Prod.fst)).length - n1 - e1 : Nat) : Int) (us (K1.map Prod.fst)) = us (L.map Prod.fst) := by
        unfold patU
        rw [Int.toNat_natCast, Int.toNat_natCast, is1.us, show min n1 (us (P.map Prod.fst)).length = n1 by omega, show n1 + min ((us (P.map Prod.fst)).length - n1 - e1) ((us (P.map Prod.fst)).length - n1) = (us (P.map Prod.fst)).length - e1 by omega]
        exact diff_patch at1 en1
      rw [hpat] at is3
      (refine Ga ?_)
      (apply Lst_call; (focus rfl); (focus rfl))
      refine (c_sm K3 K4 W0.heap.size x3 x4 y3 y4 W8 hK3 hK4 (mem_ok is3) (mem_ok is4) z3 (by have := tot_len K3; have := is3.tot; omega)).mono ?_
      rintro v W9 ⟨⟨t, rfl, ht⟩, h9⟩
      have b9 := b8.trans (h9.mono b8.size)
      have c9 := b9.size
      replace hP := hP.below h9
      replace hL := hL.below h9
      replace hK1 := hK1.below h9
      replace hK2 := hK2.below h9
      replace hK3 := hK3.below h9
      replace hK4 := hK4.below h9
      obtain rfl : t = true := ht.2 (is3.cl is4)
      (refine Ga ?_)
      (apply retQ1; (focus rfl))
      exact ⟨rfl, b9⟩
set_option maxHeartbeats 8000000 in
theorem law_ViewParts (P : List Rv) (a : Option Addr) (c : Nat) (lP : P.length ≤ 2000000) (rawP : ∀ p ∈ P, Raw p.1) (x : Int) (W0 : World) (hV : VTabs W0) (hT : Tabs W0) (hP : RunS W0.heap.size W0 (.slice a P.length c) P) : Does Tryz.prog 3 #[.slice a P.length c, .int .i64 x] W0 fun v w' => v = .bool true ∧ Below W0.heap.size W0 w' := by
  refine Does_of (args := [.slice a P.length c, .int .i64 x]) Tryz.func3 (by kernel_rfl) rfl rfl rfl rfl rfl ?_
  have c0 := Nat.le_refl W0.heap.size
  have hP0 := hP
  have b0 : Below W0.heap.size W0 W0 := Below.refl _ _
  (refine Ga ?_)
  (apply Lst_call; (focus rfl); (focus rfl))
  refine (c_known14 W0 (hV.below b0) (hT.below b0)).mono ?_
  rintro v W1 ⟨rfl, h1⟩
  have b1 := b0.trans (h1.mono b0.size)
  have c1 := b1.size
  replace hP := hP.below h1
  (refine Ga ?_)
  (apply Lst_call; (focus rfl); (focus rfl))
  refine (c_light14 P W0.heap.size a c W1 hP lP rawP).mono ?_
  rintro v W2 ⟨⟨t, rfl, htP⟩, h2⟩
  have b2 := b1.trans (h2.mono b1.size)
  have c2 := b2.size
  replace hP := hP.below h2
  cases t with
  | false =>
    (refine Ga ?_)
    (apply retQ1; (focus rfl))
    exact ⟨rfl, b2⟩
  | true =>
    have liP := htP rfl
    have okP := light_ok liP
    have msP := light_ms liP
    have toP := light_tot liP
    have leP := light_len liP
    have lnP := light_n liP
    (refine Ga ?_)
    (apply Lst_call; (focus rfl); (focus rfl))
    refine (c_LenV P W0.heap.size a none c 0 0 (by omega) (fun p hp => Nat.le_trans (tot_mem hp) (by omega)) (by omega) W2 (hT.below b2) hP).mono ?_
    rintro v W3 ⟨rfl, h3⟩
    have b3 := b2.trans (h3.mono b2.size)
    have c3 := b3.size
    replace hP := hP.below h3
    have lU : (us (P.map Prod.fst)).length = lenP P := rfl
    (refine Ga ?_)
    (apply Lst_call; (focus rfl); (focus rfl))
    refine (Wire.h_Place x ((lenP P : Int) + 1) W3 (by omega) (by omega)).mono ?_
    rintro v W4 ⟨rfl, he4⟩
    have h4 : Below W3.heap.size W3 W4 := by rw [← he4]; exact Below.refl _ _
    have b4 := b3.trans (h4.mono b3.size)
    have c4 := b4.size
    replace hP := hP.below h4
    obtain ⟨p, hp, hpl⟩ : ∃ p : Nat, x % ((lenP P : Int) + 1) = (p : Int) ∧ p ≤ lenP P := by
      have g1 := Int.emod_nonneg x (show (lenP P : Int) + 1 ≠ 0 by omega)
      have g2 := Int.emod_lt_of_pos x (show (0 : Int) < (lenP P : Int) + 1 by omega)
      generalize x % ((lenP P : Int) + 1) = z at *
      exact ⟨z.toNat, by omega, by omega⟩
    rw [hp]
    (refine Ga ?_)
    (apply Lst_call; (focus rfl); (focus rfl))
    refine (c_Cut P W0.heap.size a c W4 c4 hP okP msP (by omega) (by omega) 0 (p : Int) (by omega) (by omega) (hT.below b4)).mono ?_
    rintro v W5 ⟨⟨K1, hoK1, is1, z1⟩, h5⟩
    have b5 := b4.trans (h5.mono b4.size)
    have c5 := b5.size
    replace hP := hP.below h5
    obtain ⟨x1, y1, rfl, _⟩ := hoK1.form
    have hK1 := hoK1.read
    (refine Ga ?_)
    (apply Lst_call; (focus rfl); (focus rfl))
    refine (c_Cut P W0.heap.size a c W5 c5 hP okP msP (by omega) (by omega) (p : Int) (lenP P : Int) (by omega) (by omega) (hT.below b5)).mono ?_
    rintro v W6 ⟨⟨K2, hoK2, is2, z2⟩, h6⟩
    have b6 := b5.trans (h6.mono b5.size)
    have c6 := b6.size
    replace hP := hP.below h6
    replace hK1 := hK1.below h6
    obtain ⟨x2, y2, rfl, _⟩ := hoK2.form
    have hK2 := hoK2.read
    have e1 : us (K1.map Prod.fst) = (us (P.map Prod.fst)).take p := by rw [is1.us, Int.toNat_natCast]; rfl
    have e2 : us (K2.map Prod.fst) = (us (P.map Prod.fst)).drop p := by rw [is2.us, Int.toNat_natCast, Int.toNat_natCast, ← lU, List.take_length]
    have n1 : lenP K1 = p := by
      unfold lenP
      rw [e1, List.length_take, lU]
      omega
    have n2 : lenP K2 = lenP P - p := by
      unfold lenP
      rw [e2, List.length_drop]
    have t1 := neat_tot (mem_ok is1) is1.neat
    have t2 := neat_tot (mem_ok is2) is2.neat
    have tl1 := tot_len K1
    have tl2 := tot_len K2
    (refine Ga ?_)
    (apply Lst_call; (focus rfl); (focus rfl))
    refine (c_LenV K1 W0.heap.size x1 none y1 0 0 (by omega) (fun p hp => Nat.le_trans (tot_mem hp) (by omega)) (by omega) W6 (hT.below b6) hK1).mono ?_
    rintro v W7 ⟨rfl, h7⟩
    have b7 := b6.trans (h7.mono b6.size)
    have c7 := b7.size
    replace hP := hP.below h7
    replace hK1 := hK1.below h7
    replace hK2 := hK2.below h7
    rw [n1]
    (refine Ga ?_)
    (apply Lst_call; (focus rfl); (focus rfl))
    refine (c_LenV K2 W0.heap.size x2 none y2 0 0 (by omega) (fun p hp => Nat.le_trans (tot_mem hp) (by omega)) (by omega) W7 (hT.below b7) hK2).mono ?_
    rintro v W8 ⟨rfl, h8⟩
    have b8 := b7.trans (h8.mono b7.size)
    have c8 := b8.size
    replace hP := hP.below h8
    replace hK1 := hK1.below h8
    replace hK2 := hK2.below h8
    rw [n2]
    have hsub : ((lenP P - p : Nat) : Int) = (lenP P : Int) - (p : Int) := by omega
    rw [hsub]
    (refine Ga ?_)
    apply Lst_appendV (hown := OwnR.nil W0.heap.size W8.heap.size W8) (hy := hK1) (hAB := c8)
    focus (rw [List.length_nil]; omega)
    focus exact Nat.le_refl _
    focus rfl
    focus rfl
    focus rfl
    intro v9 W9 ho9 h9 _
    obtain ⟨a9, q9, rfl, _⟩ := ho9.form
    have b9 := b8.trans (h9.mono b8.size)
    have c9 := b9.size
    replace hP := hP.below h9
    replace hK1 := hK1.below h9
    replace hK2 := hK2.below h9
    rw [List.nil_append] at ho9 ⊢
    (refine Ga ?_)
    apply Lst_appendV (hown := ho9) (hy := hK2) (hAB := c8)
    focus omega
    focus exact h9.size
    focus rfl
    focus rfl
    focus rfl
    intro v10 W10 ho10 h10a _
    have h10 : Below W8.heap.size W9 W10 := h10a
    obtain ⟨a10, q10, rfl, _⟩ := ho10.form
    have b10 := b9.trans (h10.mono c8)
    have c10 := b10.size
    have hP := hP0.below b10
    (refine Ga ?_)
    (apply Lst_call; (focus rfl); (focus rfl))
    refine (c_Clean (K1 ++ K2) W0.heap.size a10 q10 W10 c10 ho10.read (app_all (mem_ok is1) (mem_ok is2)) (app_all z1 z2) (by rw [tot_append]; omega)).mono ?_
    rintro v W11 ⟨⟨K3, hoK3, cl3, t3, z3⟩, h11⟩
    have b11 := b10.trans (h11.mono b10.size)
    have c11 := b11.size
    replace hP := hP.below h11
    obtain ⟨x3, y3, rfl, _⟩ := hoK3.form
    have hK3 := hoK3.read
    (refine Ga ?_)
    (apply Lst_call; (focus rfl); (focus rfl))
    refine (r_Clean P W0.heap.size a c W11 c11 hP okP msP (by omega)).mono ?_
    rintro v W12 ⟨⟨K4, hoK4, cl4, t4, z4⟩, h12⟩
    have b12 := b11.trans (h12.mono b11.size)
    have c12 := b12.size
    replace hP := hP.below h12
    replace hK3 := hK3.below h12
    obtain ⟨x4, y4, rfl, _⟩ := hoK4.form
    have hK4 := hoK4.read
    have is4 := cl4.is
    have is3 := cl3.is
    rw [us_app, e1, e2, List.take_append_drop] at is3
    rw [tot_append] at t3
    have tl3 := tot_len K3
    (refine Ga ?_)
    (apply Lst_call; (focus rfl); (focus rfl))
    refine (c_sm K3 K4 W0.heap.size x3 x4 y3 y4 W12 hK3 hK4 (mem_ok is3) (mem_ok is4) z3 (by omega)).mono ?_
    rintro v W13 ⟨⟨t, rfl, ht⟩, h13⟩
    have b13 := b12.trans (h13.mono b12.size)
    have c13 := b13.size
    replace hP := hP.below h13
    replace hK3 := hK3.below h13
    replace hK4 := hK4.below h13
    obtain rfl : t = true := ht.2 (is3.cl is4)
    (refine Ga ?_)
    (apply retQ1; (focus rfl))
    exact ⟨rfl, b13⟩
set_option maxHeartbeats 8000000 in
theorem law_ViewLeast (P : List Rv) (a : Option Addr) (c : Nat) (lP : P.length ≤ 2000000) (rawP : ∀ p ∈ P, Raw p.1) (L : List Rv) (b : Option Addr) (d : Nat) (lL : L.length ≤ 2000000) (rawL : ∀ p ∈ L, Raw p.1) (x n : Int) (W0 : World) (hV : VTabs W0) (hT : Tabs W0) (hP : RunS W0.heap.size W0 (.slice a P.length c) P) (hL : RunS W0.heap.size W0 (.slice b L.length d) L) : Does Tryz.prog 6 #[.slice a P.length c, .slice b L.length d, .int .i64 x, .int .i64 n] W0 fun v w' => v = .bool true ∧ Below W0.heap.size W0 w' := by
  refine Does_of (args := [.slice a P.length c, .slice b L.length d, .int .i64 x, .int .i64 n]) Tryz.func6 (by kernel_rfl) rfl rfl rfl rfl rfl ?_
  have c0 := Nat.le_refl W0.heap.size
  have b0 : Below W0.heap.size W0 W0 := Below.refl _ _
  (refine Ga ?_)
  (apply Lst_call; (focus rfl); (focus rfl))
  refine (c_known14 W0 (hV.below b0) (hT.below b0)).mono ?_
  rintro v W1 ⟨rfl, h1⟩
  have b1 := b0.trans (h1.mono b0.size)
  have c1 := b1.size
  replace hP := hP.below h1
  replace hL := hL.below h1
  (refine Ga ?_)
  (apply Lst_call; (focus rfl); (focus rfl))
  refine (c_light14 P W0.heap.size a c W1 hP lP rawP).mono ?_
  rintro v W2 ⟨⟨t, rfl, htP⟩, h2⟩
  have b2 := b1.trans (h2.mono b1.size)
  have c2 := b2.size
  replace hP := hP.below h2
  replace hL := hL.below h2
  cases t with
  | false =>
    (refine Ga ?_)
    (apply retQ1; (focus rfl))
    exact ⟨rfl, b2⟩
  | true =>
    have liP := htP rfl
    have okP := light_ok liP
    have msP := light_ms liP
    have toP := light_tot liP
    have leP := light_len liP
    have lnP := light_n liP
    (refine Ga ?_)
    (apply Lst_call; (focus rfl); (focus rfl))
    refine (c_light14 L W0.heap.size b d W2 hL lL rawL).mono ?_
    rintro v W3 ⟨⟨t, rfl, htL⟩, h3⟩
    have b3 := b2.trans (h3.mono b2.size)
    have c3 := b3.size
    replace hP := hP.below h3
    replace hL := hL.below h3
    cases t with
    | false =>
      (refine Ga ?_)
      (apply retQ1; (focus rfl))
      exact ⟨rfl, b3⟩
    | true =>
      have liL := htL rfl
      have okL := light_ok liL
      have msL := light_ms liL
      have toL := light_tot liL
      have leL := light_len liL
      have lnL := light_n liL
      (refine Ga ?_)
      (apply Lst_call; (focus rfl); (focus rfl))
      refine (c_LenV P W0.heap.size a none c 0 0 (by omega) (fun p hp => Nat.le_trans (tot_mem hp) (by omega)) (by omega) W3 (hT.below b3) hP).mono ?_
      rintro v W4 ⟨rfl, h4⟩
      have b4 := b3.trans (h4.mono b3.size)
      have c4 := b4.size
      replace hP := hP.below h4
      replace hL := hL.below h4
      have lU : (us (P.map Prod.fst)).length = lenP P := rfl
      have lV : (us (L.map Prod.fst)).length = lenP L := rfl
      (refine Ga ?_)
      (apply Lst_call; (focus rfl); (focus rfl))
      refine (Wire.h_Place x ((lenP P : Int) + 1) W4 (by omega) (by omega)).mono ?_
      rintro v W5 ⟨rfl, he5⟩
      have h5 : Below W4.heap.size W4 W5 := by rw [← he5]; exact Below.refl _ _
      have b5 := b4.trans (h5.mono b4.size)
      have c5 := b5.size
      replace hP := hP.below h5
      replace hL := hL.below h5
      obtain ⟨p, hp, hpl⟩ : ∃ p : Nat, x % ((lenP P : Int) + 1) = (p : Int) ∧ p ≤ lenP P := by
        have g1 := Int.emod_nonneg x (show (lenP P : Int) + 1 ≠ 0 by omega)
        have g2 := Int.emod_lt_of_pos x (show (0 : Int) < (lenP P : Int) + 1 by omega)
        generalize x % ((lenP P : Int) + 1) = z at *
        exact ⟨z.toNat, by omega, by omega⟩
      rw [hp]
      (refine Ga ?_)
      (apply Lst_call; (focus rfl); (focus rfl))
      refine (Wire.h_Place n ((lenP P : Int) - (p : Int) + 1) W5 (by omega) (by omega)).mono ?_
      rintro v W6 ⟨rfl, he6⟩
      have h6 : Below W5.heap.size W5 W6 := by rw [← he6]; exact Below.refl _ _
      have b6 := b5.trans (h6.mono b5.size)
      have c6 := b6.size
      replace hP := hP.below h6
      replace hL := hL.below h6
      obtain ⟨q, hq, hql⟩ : ∃ q : Nat, n % ((lenP P : Int) - (p : Int) + 1) = (q : Int) ∧ p + q ≤ lenP P := by
        have g1 := Int.emod_nonneg n (show (lenP P : Int) - (p : Int) + 1 ≠ 0 by omega)
        have g2 := Int.emod_lt_of_pos n (show (0 : Int) < (lenP P : Int) - (p : Int) + 1 by omega)
        generalize n % ((lenP P : Int) - (p : Int) + 1) = z at *
        exact ⟨z.toNat, by omega, by omega⟩
      rw [hq]
      (refine Ga ?_)
      (apply Lst_call; (focus rfl); (focus rfl))
      refine (c_Patch P L W0.heap.size a b c d (p : Int) (q : Int) W6 c6 hP hL okP okL msP msL (by omega) (by omega) (by omega) (by omega) (by omega) (hT.below b6)).mono ?_
      rintro v W7 ⟨⟨K1, hoK1, is1, z1⟩, h7⟩
      have b7 := b6.trans (h7.mono b6.size)
      have c7 := b7.size
      replace hP := hP.below h7
      replace hL := hL.below h7
      obtain ⟨x1, y1, rfl, _⟩ := hoK1.form
      have hK1 := hoK1.read
      have e1 : us (K1.map Prod.fst) = (us (P.map Prod.fst)).take p ++ us (L.map Prod.fst) ++ (us (P.map Prod.fst)).drop (p + q) := by
        rw [is1.us]
        exact patU_eq (by omega) (by omega)
      have e0 : us (P.map Prod.fst) = (us (P.map Prod.fst)).take p ++ ((us (P.map Prod.fst)).drop p).take q ++ (us (P.map Prod.fst)).drop (p + q) := by
        rw [List.append_assoc, ← List.drop_drop, List.take_append_drop, List.take_append_drop]
      have t1 := neat_tot (mem_ok is1) is1.neat
      have n1 : lenP K1 ≤ lenP P + lenP L := by
        unfold lenP
        rw [e1, List.length_append, List.length_append, List.length_take, List.length_drop]
        omega
      have tl1 := tot_len K1
      (refine Ga ?_)
      (apply Lst_call; (focus rfl); (focus rfl))
      refine (c_Diff P K1 W0.heap.size a x1 c y1 W7 c7 hP hK1 okP (mem_ok is1) msP z1 (by omega) (by omega) (by omega) (by omega)).mono ?_
      rintro v W8 ⟨⟨m2, e2, kv2, K2, rfl, at2, en2, hoK2, is2, z2⟩, h8⟩
      have b8 := b7.trans (h8.mono b7.size)
      have c8 := b8.size
      replace hP := hP.below h8
      replace hL := hL.below h8
      replace hK1 := hK1.below h8
      obtain ⟨x2, y2, rfl, _⟩ := hoK2.form
      have hK2 := hoK2.read
      have eU := en2.hU
      have eV := en2.hV
      have hleast := diff_least (P := (us (P.map Prod.fst)).take p) (M := ((us (P.map Prod.fst)).drop p).take q) (L := us (L.map Prod.fst)) (S := (us (P.map Prod.fst)).drop (p + q)) (n := m2) (e := e2) (by rw [← e0, ← e1]; exact at2) (by rw [← e0, ← e1]; exact en2)
      rw [← e0, ← e1] at hleast
      have hM : (((us (P.map Prod.fst)).drop p).take q).length ≤ q := by
        rw [List.length_take]
        omega
      have lK1 : (us (K1.map Prod.fst)).length = lenP K1 := rfl
      have hl2 : lenP K2 = lenP K1 - e2 - m2 := by
        unfold lenP
        rw [is2.us, List.length_drop, List.length_take]
        omega
      have t2 := neat_tot (mem_ok is2) is2.neat
      have tl2 := tot_len K2
      have hm : ((us (P.map Prod.fst)).length - m2 - e2 : Nat) ≤ q := by omega
      obtain ⟨m, hmm⟩ : ∃ m, (us (P.map Prod.fst)).length - m2 - e2 = m := ⟨_, rfl⟩
      rw [hmm] at hm ⊢
      (refine Ga ?_)
      (apply Lst_call; (focus rfl); (focus rfl))
      refine (c_LenV K2 W0.heap.size x2 none y2 0 0 (by omega) (fun p hp => Nat.le_trans (tot_mem hp) (by omega)) (by omega) W8 (hT.below b8) hK2).mono ?_
      rintro v W9 ⟨rfl, h9⟩
      have b9 := b8.trans (h9.mono b8.size)
      have c9 := b9.size
      replace hP := hP.below h9
      replace hL := hL.below h9
      replace hK1 := hK1.below h9
      replace hK2 := hK2.below h9
      (refine Ga ?_)
      (apply Lst_call; (focus rfl); (focus rfl))
      refine (c_LenV L W0.heap.size b none d 0 0 (by omega) (fun p hp => Nat.le_trans (tot_mem hp) (by omega)) (by omega) W9 (hT.below b9) hL).mono ?_
      rintro v W10 ⟨rfl, h10⟩
      have b10 := b9.trans (h10.mono b9.size)
      have c10 := b10.size
      replace hP := hP.below h10
      replace hL := hL.below h10
      replace hK1 := hK1.below h10
      replace hK2 := hK2.below h10
      have hll : lenP K2 ≤ lenP L := by omega
      by_cases hm0 : 0 < m
      · (refine Ga ?_)
        (apply retQ1; (focus rfl))
        exact ⟨rfl, b10⟩
      by_cases hk0 : 0 < K2.length
      · (refine Ga ?_)
        (apply retQ1; (focus rfl))
        exact ⟨rfl, b10⟩
      (refine Ga ?_)
      (apply Lst_call; (focus rfl); (focus rfl))
      refine (c_Clean P W0.heap.size a c W10 c10 hP okP msP (by omega)).mono ?_
      rintro v W11 ⟨⟨K3, hoK3, cl3, t3, z3⟩, h11⟩
      have b11 := b10.trans (h11.mono b10.size)
      have c11 := b11.size
      replace hP := hP.below h11
      replace hL := hL.below h11
      replace hK1 := hK1.below h11
      replace hK2 := hK2.below h11
      obtain ⟨x3, y3, rfl, _⟩ := hoK3.form
      have hK3 := hoK3.read
      have is3 := cl3.is
      have hK20 : K2 = [] := List.eq_nil_of_length_eq_zero (by omega)
      have hz2 : lenP K2 = 0 := by rw [hK20]; rfl
      have heq := diff_none at2 en2 (by omega) (by omega)
      rw [heq] at is3
      have is1' : Is (K1.map Prod.fst) (us (K1.map Prod.fst)) := ⟨is1.ok, is1.neat, rfl⟩
      (refine Ga ?_)
      (apply Lst_call; (focus rfl); (focus rfl))
      refine (c_sm K1 K3 W0.heap.size x1 x3 y1 y3 W11 hK1 hK3 (mem_ok is1) (mem_ok is3) z1 (by omega)).mono ?_
      rintro v W12 ⟨⟨t, rfl, ht⟩, h12⟩
      have b12 := b11.trans (h12.mono b11.size)
      have c12 := b12.size
      replace hP := hP.below h12
      replace hL := hL.below h12
      replace hK1 := hK1.below h12
      replace hK2 := hK2.below h12
      replace hK3 := hK3.below h12
      obtain rfl : t = true := ht.2 (is1'.cl is3)
      (refine Ga ?_)
      (apply retQ1; (focus rfl))
      exact ⟨rfl, b12⟩
end
end Vw
end Go.Proofs.YtglfoofclicfpaaGreatDoor
