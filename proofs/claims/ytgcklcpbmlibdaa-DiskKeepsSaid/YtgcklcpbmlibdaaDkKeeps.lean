/- DiskKeeps: the walk. -/
import Derived.Test.YtgcklcpbmlibdaaDkKeepsP
namespace Go.Proofs.Ytgcklcpbmlibdaa
set_option maxRecDepth 100000
namespace Dk
open Go Go.RowKit Sx
theorem sliced2 (b : Option Addr) (m c : Nat) (hb : ∀ a, b = some a → a.spot = none) : sliced b 0 m c 1 = .slice b m c := by
  unfold sliced
  cases b with
  | none => split <;> simp
  | some a =>
    obtain ⟨x, y, z⟩ := a
    have := hb _ rfl
    subst this
    split <;> simp [add_none]
theorem Ints.head {w : World} {zs : List Int} {kk : IntKind} {a : Option Addr} {n' c : Nat} (h : Ints w kk (.slice a n' c) zs) (m : Nat) (hm : m ≤ n') : Ints w kk (sliced a 0 m c 1) (zs.take m) := by
  obtain ⟨b, off, cap, h1, h2, h3⟩ := h
  have e : sliced a 0 m c 1 = .slice a m c := sliced2 a m c (fun x hx => by
    rcases h1 with h1 | ⟨h1, _⟩
    · cases h1; cases hx; rfl
    · cases h1; cases hx)
  rw [e]
  rcases h1 with h1 | ⟨h1, rfl⟩
  · cases h1
    have hl' : (zs.take m).length = m := by simp; omega
    refine ⟨b, off, c, .inl (by rw [hl']), fun hz => h2 (by intro e; subst e; simp at hz), fun j hj => ?_⟩
    rw [h3 j (by simp at hj; omega)]
    simp
  · cases h1
    obtain rfl : m = 0 := by omega
    exact ⟨b, off, 0, .inr ⟨rfl, rfl⟩, fun e => absurd rfl e, fun j hj => by simp at hj⟩
theorem nums_take (l : List UInt8) (m : Nat) : (nums l).take m = nums (l.take m) := by unfold nums; rw [List.map_take]
attribute [local irreducible] W Lst Qst Pu seqQ blkQ rndQ cutQ retQ Does Enters IntKind.wrap bits sb World.alloc World.putObj Blk
set_option maxHeartbeats 8000000 in
theorem law_DiskKeeps (v kv : Value) (l : List St) (keep : List Int) (hl : l.length ≤ 281474976710656) (hkb : ∀ k ∈ keep, -9223372036854775808 ≤ k ∧ k < 9223372036854775808) (w : World) (hW : Steps w v l) (hk : Ints w .i64 kv keep) :
    Does Try.prog 7 #[v, kv] w fun r w' => r = .bool true ∧ Below w.heap.size w w' := by
  obtain ⟨va, vc, rfl⟩ := hW.1
  obtain ⟨ka, kc, rfl⟩ := hk.form
  refine Does_of (args := [.slice va l.length vc, .slice ka keep.length kc]) Try.func7 (by kernel_rfl) rfl rfl rfl rfl rfl ?_
  (refine Ga ?_)
  (apply Lst_call; (focus rfl); (focus rfl))
  refine (c_known _).mono ?_
  rintro v w1 ⟨rfl, hb1⟩
  have b1 := Sx.Below.after (w := w) Bel hb1
  have s1 := hb1.size
  try simp only [Sx.sizes] at s1
  (refine Ga ?_)
  (apply Lst_call; (focus rfl); (focus rfl))
  refine (c_light _ l hl _ (hW.below hb1 (Nat.le_refl _))).mono ?_
  rintro r w2 ⟨t, rfl, hb2, ht⟩
  have b2 := b1.trans (hb2.mono b1.size)
  cases t
  · (refine Ga ?_)
    (apply retQ1; (focus rfl))
    exact ⟨rfl, b2⟩
  obtain ⟨hl3, hwt⟩ := ht rfl
  clear hb1 hb2 b1 ht hl
  by_cases hk5 : 500 < keep.length
  · (refine Ga ?_)
    (apply retQ1; (focus rfl))
    exact ⟨rfl, b2⟩
  (refine Ga ?_)
  (apply Lst_call; (focus rfl); (focus rfl))
  refine (c_New 1048576 _).mono ?_
  rintro r w3 ⟨p, mb, rfl, hp, hmb, hd3, hb3⟩
  have hp' : w.heap.size ≤ p := Nat.le_trans b2.size hp
  have hmb' : w.heap.size ≤ mb := Nat.le_trans b2.size hmb
  have b3 := b2.trans (hb3.mono b2.size)
  have hd3 : DkAt w3 p mb ⟨[], 1048576, -1, false⟩ := hd3
  clear hb3 b2 hp hmb
  (refine Ga ?_)
  (apply Lst_call; (focus rfl); (focus rfl))
  refine (c_play p mb _ 0 0 (fine0 _) _ l (by omega) (by omega) w w3 hW b3 hp' hmb' hd3).mono ?_
  rintro r w4 ⟨rfl, hd4, hc4⟩
  have b4 := b3.trans (Chg.low hc4 hp' hmb' b3.size)
  have hF := Fine.play l (fine0 1048576)
  have hLD : Live (playD ⟨[], 1048576, -1, false⟩ l) := Live.play l ⟨rfl, rfl⟩
  generalize playD ⟨[], 1048576, -1, false⟩ l = D at *
  have hN : Names D := ⟨hF.names, by have := hF.len; omega⟩
  have hU := hF.used
  clear hd3 hc4 b3 hF
  (refine Ga ?_)
  (apply Lst_call; (focus rfl); (focus rfl))
  refine (c_Copy p mb D _ hd4).mono ?_
  rintro r w5 ⟨pc, mc, rfl, hpc, hmc, hdc, hb5⟩
  have hpc' : w.heap.size ≤ pc := Nat.le_trans b4.size hpc
  have hmc' : w.heap.size ≤ mc := Nat.le_trans b4.size hmc
  have b5 := b4.trans (hb5.mono b4.size)
  have n1 : p ≠ pc := by have := hd4.pl; omega
  have n2 : mb ≠ mc := by have := hd4.ml; omega
  have hd5 := hd4.below hb5
  clear hd4 hb5 b4 hpc hmc
  (refine Ga ?_)
  have cA := c_List p mb D hN _ hd5
  rw [show D.list = keysS D.es by unfold Dsk.list; rw [hLD.dead]; rfl] at cA
  (apply Lst_call; (focus rfl); (focus rfl))
  refine cA.mono ?_
  clear cA
  rintro r w6 ⟨hs6, hb6⟩
  obtain ⟨na, nc, rfl⟩ := hs6.form
  have hd6 := hd5.below hb6
  have hdc6 := hdc.below hb6
  have b6 := b5.trans (hb6.mono b5.size)
  have hnl : (keysS D.es).length ≤ 1000000 := by rw [keysS_len]; exact hN.2
  clear hd5 hdc hb6 b5
  (refine Ga ?_)
  refine W_loop (α := Nat × Dsk) (fun x => [(1, .slice ka keep.length kc), (5, .pointer (some ⟨p, 0, none⟩)), (6, .pointer (some ⟨pc, 0, none⟩)), (7, .slice na (keysS D.es).length nc), (8, .int .i64 (x.1 : Int))])
    (fun x A => x.1 ≤ (keysS D.es).length + 1 ∧ x.1 % 2 = 0 ∧ Synced D x.2 x.1 ∧ Strs A (.slice na (keysS D.es).length nc) (keysS D.es) ∧ DkAt A p mb D ∧ DkAt A pc mc x.2 ∧ Below w.heap.size w A) (fun x _ => (keysS D.es).length + 2 - x.1) (0, D)
    ⟨Nat.zero_le _, rfl, Synced.start hLD, hs6, hd6, hdc6, b6⟩ ⟨rfl, rfl, rfl, rfl, rfl, trivial⟩ ?_
  clear hs6 hd6 hdc6 b6
  rintro J ⟨i, E⟩ A ⟨hi, hi2, hsy, hs, hd, hdc, hbA⟩
  dsimp only at hi hi2 hsy hdc ⊢
  by_cases hil : i < (keysS D.es).length
  · obtain ⟨b, ha, hcell⟩ := hs.at hil
    subst ha
    have hc1 : A.cell? ⟨b, 0 + i, none⟩ = some (.string (nameAt (keysS D.es) i)) := by
      rw [Nat.zero_add, hcell]
      unfold nameAt
      simp [List.getD, hil]
    obtain ⟨E', hE, hsy'⟩ := hsy.step hi2 hil
    have hcut := hsy.live.cut
    (refine Ga ?_)
    have cA := c_Sync pc mc E (by omega) (nameAt (keysS D.es) i) _ hdc
    rw [hE] at cA
    dsimp only at cA
    (apply Lst_call; (focus rfl); (focus rfl))
    refine cA.mono ?_
    clear cA
    rintro r w7 ⟨rfl, hdc7, hc7⟩
    have hd7 := hd.other hdc hc7 n1 n2
    have hs7 := hs.chg hc7 hdc.ns
    have b7 := hbA.trans (Chg.low hc7 hpc' hmc' hbA.size)
    (refine Ga ?_)
    refine rndQ_n (α := Nat × Dsk) (i + 2, E') ⟨by dsimp only; omega, by dsimp only; omega, hsy', hs7, hd7, hdc7, b7⟩ ⟨rfl, rfl, rfl, rfl, ?_, trivial⟩ (by dsimp only; omega)
    show Value.int .i64 ((i : Int) + 2) = Value.int .i64 ((i + 2 : Nat) : Int)
    rw [Int.natCast_add]
    rfl
  · obtain ⟨hL, hNc, hli, hfl, hrd⟩ := crashed hLD hsy (by omega) hN keep
    have hcl := hsy.live
    have hkE : E.es.length = D.es.length := keys_len hsy.keys
    (refine Ga ?_)
    (apply Lst_call; (focus rfl); (focus rfl))
    refine (c_Crash pc mc E ⟨keys_names hsy.keys hN.1, by rw [hkE]; exact hN.2⟩ (fun n f hf => ?_) _ keep (by omega) hkb _ hdc (Ints.below hk hbA (Nat.le_refl _))).mono ?_
    · have := hsy.bytes n
      have h2 := file_used D n
      have e : f = fileOf E.es n := by unfold fileOf; rw [hf]; rfl
      rw [e, this]
      exact Nat.le_trans h2 (by omega)
    rintro r w7 ⟨rfl, hdc7, hc7⟩
    have hd7 := hd.other hdc hc7 n1 n2
    have hs7 := hs.chg hc7 hdc.ns
    have b7 := hbA.trans (Chg.low hc7 hpc' hmc' hbA.size)
    clear hd hdc hs hbA hc7 hsy hcl hkE
    generalize E.crash keep = G at *
    (refine Ga ?_)
    have cA := c_List pc mc G hNc _ hdc7
    rw [hli] at cA
    (apply Lst_call; (focus rfl); (focus rfl))
    refine cA.mono ?_
    clear cA
    rintro r w8 ⟨hs8, hb8⟩
    obtain ⟨aa, ac, rfl⟩ := hs8.form
    have hs7 := hs7.below hb8
    have b8 := b7.trans (hb8.mono b7.size)
    have hd8 := hd7.below hb8
    have hdc8 := hdc7.below hb8
    clear hd7 hdc7 hb8 b7
    (refine Ga ?_)
    (apply Lst_call; (focus rfl); (focus rfl))
    refine (c_Strings _ _ _ hnl _ hs8 hs7).mono ?_
    rintro r w9 ⟨rfl, hb9⟩
    have hs9 := hs7.below hb9
    have b9 := b8.trans (hb9.mono b8.size)
    have hd9 := hd8.below hb9
    have hdc9 := hdc8.below hb9
    clear hd8 hdc8 hb9 b8 hs8 hs7
    (refine Ga ?_)
    refine W_loop (α := Nat) (fun x => [(5, .pointer (some ⟨p, 0, none⟩)), (6, .pointer (some ⟨pc, 0, none⟩)), (7, .slice na (keysS D.es).length nc), (10, .int .i64 (x : Int))])
      (fun x A => x ≤ (keysS D.es).length ∧ Below w.heap.size w A ∧ Below w9.heap.size w9 A) (fun x _ => (keysS D.es).length - x) 0
      ⟨Nat.zero_le _, b9, .refl _ _⟩ ⟨rfl, rfl, rfl, rfl, trivial⟩ ?_
    rintro J2 j B ⟨hj, hbB, hb9⟩
    have hz := hbB.size
    by_cases hjl : j < (keysS D.es).length
    · obtain ⟨b, ha, hcell⟩ := hs9.at hjl
      subst ha
      have hc1 : w9.cell? ⟨b, 0 + j, none⟩ = some (.string (nameAt (keysS D.es) j)) := by
        rw [Nat.zero_add, hcell]
        unfold nameAt
        simp [List.getD, hjl]
      have hc2 : B.cell? ⟨b, 0 + j, none⟩ = some (.string (nameAt (keysS D.es) j)) := cell_below hc1 hb9 (Nat.le_refl _)
      obtain ⟨Y, hY, hX, hYt, hYl, hYe⟩ := hrd j hjl
      have hXl := file_used D (nameAt (keysS D.es) j)
      have hGl := hfl (nameAt (keysS D.es) j)
      have hdB := hd9.below hb9
      have hdcB := hdc9.below hb9
      have cA := fun W hW => c_ReadC p mb D (nameAt (keysS D.es) j) (by omega) W hW
      have cB := fun W hW => c_ReadC pc mc G (nameAt (keysS D.es) j) (by omega) W hW
      simp only [hX] at cA
      simp only [hY] at cB
      generalize (D.file (nameAt (keysS D.es) j)).b = X at *
      (refine Ga ?_)
      (apply Lst_call; (focus rfl); (focus rfl))
      refine (cA _ hdB).mono ?_
      clear cA
      rintro r w10 ⟨⟨sv, rfl, hsv, x1, x2, rfl, hxc⟩, hb10⟩
      have b10 := hbB.trans (hb10.mono hbB.size)
      have hc3 := cell_below hc2 hb10 (Nat.le_refl _)
      (refine Ga ?_)
      (apply Lst_call; (focus rfl); (focus rfl))
      refine (cB _ (hdcB.below hb10)).mono ?_
      clear cB
      rintro r w11 ⟨⟨sw, rfl, hsw, y1, y2, rfl, hyc⟩, hb11⟩
      have b11 := b10.trans (hb11.mono b10.size)
      have hsv := Ints.below hsv hb11 (Nat.le_refl _)
      have hsx := Ints.head hsv Y.length hYl
      rw [nums_take] at hsx
      have htm : (j : Int).tmod 2 = ((j % 2 : Nat) : Int) := by rw [Int.tmod_eq_emod_of_nonneg (by omega)]; rfl
      by_cases hj2 : j % 2 = 0
      · have hj3 : (j : Int).tmod 2 = 0 := by rw [htm, hj2]; rfl
        have hYe := hYe hj2
        (refine Ga ?_)
        (apply Lst_call; (focus rfl); (focus rfl))
        refine (h_Bytes _ _ Y (X.take Y.length) _ hsw hsx).mono ?_
        rintro v w' ⟨rfl, rfl⟩
        rw [decide_eq_true hYt]
        (refine Ga ?_)
        refine rndQ_n (α := Nat) (j + 1) ⟨by omega, b11, hb9.trans ((hb10.trans (hb11.mono hb10.size)).mono hb9.size)⟩ ⟨rfl, rfl, rfl, ?_, trivial⟩ (by omega)
        show Value.int .i64 ((j : Int) + 1) = Value.int .i64 ((j + 1 : Nat) : Int)
        rw [Int.natCast_add]
        rfl
      · have hj3 : (j : Int).tmod 2 = 1 := by rw [htm]; omega
        (refine Ga ?_)
        (apply Lst_call; (focus rfl); (focus rfl))
        refine (h_Bytes _ _ Y (X.take Y.length) _ hsw hsx).mono ?_
        rintro v w' ⟨rfl, rfl⟩
        rw [decide_eq_true hYt]
        (refine Ga ?_)
        refine rndQ_n (α := Nat) (j + 1) ⟨by omega, b11, hb9.trans ((hb10.trans (hb11.mono hb10.size)).mono hb9.size)⟩ ⟨rfl, rfl, rfl, ?_, trivial⟩ (by omega)
        show Value.int .i64 ((j : Int) + 1) = Value.int .i64 ((j + 1 : Nat) : Int)
        rw [Int.natCast_add]
        rfl
    · (refine Ga ?_)
      (apply retQ1; (focus rfl))
      exact ⟨rfl, hbB⟩
end Dk
end Go.Proofs.Ytgcklcpbmlibdaa
