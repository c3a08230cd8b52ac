/- AwareAll: one takes entries one by one. -/
import Derived.Test.YtoljcnlmockpcaaAwAllP
import Derived.Test.YtoljcnlmockpcaaAwK
import Derived.Test.YtoljcnlmockpcaaSxR
namespace Go.Proofs.Ytoljcnlmockpcaa
set_option maxRecDepth 100000
namespace Aw
open Go Go.RowKit Sx Wire
open So (W_cutS)
theorem pcs_len (l : List Pr) : ∀ x ∈ l.map pcs, x.length = 4 := by
  intro x hx
  obtain ⟨p, _, rfl⟩ := List.mem_map.1 hx
  rfl
theorem pcs_one (l : List Pr) : ∀ u ∈ (l.map pcs).flatten, u.oneCell' = true := by
  intro u hu
  obtain ⟨x, hx, hu⟩ := List.mem_flatten.1 hu
  obtain ⟨p, _, rfl⟩ := List.mem_map.1 hx
  unfold pcs at hu
  simp only [List.mem_cons, List.not_mem_nil, or_false] at hu
  rcases hu with rfl | rfl | rfl | rfl <;> rfl
theorem drop_at {l lc : List Pr} {i : Nat} (h : lc.drop i = l.drop i) (hi : i < l.length) (hc : i < lc.length) : lc[i] = l[i] ∧ lc.drop (i + 1) = l.drop (i + 1) := by
  rw [List.drop_eq_getElem_cons hi, List.drop_eq_getElem_cons hc] at h
  have := List.cons.inj h
  exact this
/-- Entries in a slice that is only read, and may be cut. -/
def PrC (w : World) (v : Value) (l : List Pr) : Prop := Prs w v l ∧ ∃ a c, v = .slice a l.length c ∧ l.length ≤ c
theorem Prs.own {w : World} {B nn : Nat} {v : Value} {l : List Pr} (h : w.ownsRow B 37 4 v nn (l.map pcs).flatten) : PrC w v l := by
  have hn : nn = l.length := by
    have := h.1
    rw [flat_len _ (pcs_len l), List.length_map] at this
    omega
  subst hn
  obtain ⟨a, c, hv, hc⟩ := own_form h
  exact ⟨SRows.of_own h (pcs_len l) (by omega), a, c, hv, hc⟩
attribute [local irreducible] W Lst Qst Pu seqQ blkQ rndQ cutQ retQ Does Enters IntKind.wrap bits sb World.alloc World.putObj Blk
set_option maxHeartbeats 2000000 in
theorem c_give (p mb : Nat) (a : Awr) (v : Value) (l : List Pr) (hl : l.length ≤ 1000) (w : World) (h : AwAt w p mb a) (hv : PrC w v l) (hk : ∀ q ∈ l, q.k < 18446744073709551616) :
    Does Try.prog 25 #[.pointer (some ⟨p, 0, none⟩), v] w fun r w' => Chg [p, mb] w w' ∧ (r = .bool false ∨ r = .bool true ∧ (∀ q ∈ l, Okp q) ∧ AwAt w' p mb (giveL l a)) := by
  obtain ⟨hv, v1, v2, rfl, hvc⟩ := hv
  refine Does_of (args := [.pointer (some ⟨p, 0, none⟩), .slice v1 l.length v2]) Try.func25 (by kernel_rfl) rfl rfl rfl rfl rfl ?_
  (refine Ga ?_)
  refine W_loop (α := Nat × Value × List Pr) (fun x => [(0, .pointer (some ⟨p, 0, none⟩)), (1, x.2.1), (5, .int .i64 (x.1 : Int))])
    (fun x A => x.1 ≤ l.length ∧ x.2.2.length = l.length ∧ x.2.2.drop x.1 = l.drop x.1 ∧ PrC A x.2.1 x.2.2 ∧ AwAt A p mb (giveL (l.take x.1) a) ∧ Chg [p, mb] w A ∧ ∀ q ∈ l.take x.1, Okp q) (fun x _ => l.length - x.1) (0, .slice v1 l.length v2, l)
    ⟨Nat.zero_le _, rfl, rfl, ⟨hv, _, _, rfl, hvc⟩, h, Chg.refl _ _, fun q hq => by simp at hq⟩ ⟨rfl, rfl, rfl, trivial⟩ ?_
  rintro J ⟨i, pv, lc⟩ A ⟨hi, hlc, hdr, ⟨hP, a1, c1, hpv, hc1⟩, hA, hC, hok⟩
  dsimp only at hi hlc hdr hP hpv hc1 hA hok ⊢
  subst hpv
  by_cases hil : i < l.length
  · obtain ⟨e1, hdr1⟩ := drop_at hdr hil (by omega)
    obtain ⟨b, off, rfl, hbl, hcells⟩ := hP.at (i := i) (by omega)
    rw [e1] at hcells
    have htk : l.take (i + 1) = l.take i ++ [l[i]] := List.take_succ_eq_append_getElem hil
    have hkq := hk l[i] (List.getElem_mem hil)
    generalize l[i] = q at *
    have hq0 : A.cell? ⟨b, off + i * 4 + 0, none⟩ = some (.int .u64 (q.c : Int)) := hcells 0 _ rfl
    have hq2 : A.cell? ⟨b, off + i * 4 + 2, none⟩ = some (.string q.s) := hcells 2 _ rfl
    have hq3 : A.cell? ⟨b, off + i * 4 + 3, none⟩ = some (.bool q.g) := hcells 3 _ rfl
    by_cases h9 : 900 < q.c
    · (refine Ga ?_)
      apply Lst_pu
      · apply P_idx
        focus rfl
        focus rfl
        focus rfl
        focus rfl
        focus rfl
        focus omega
        focus omega
      focus rfl
      rw [Int.toNat_natCast]
      (refine Ga ?_)
      (apply retQ1; (focus rfl))
      exact ⟨hC, .inl rfl⟩
    by_cases h256 : 256 < q.s.size
    · (refine Ga ?_)
      apply Lst_pu
      · apply P_idx
        focus rfl
        focus rfl
        focus rfl
        focus rfl
        focus rfl
        focus omega
        focus omega
      focus rfl
      rw [Int.toNat_natCast]
      (refine Ga ?_)
      apply Lst_pu
      · apply P_idx
        focus rfl
        focus rfl
        focus rfl
        focus rfl
        focus rfl
        focus omega
        focus omega
      focus rfl
      rw [Int.toNat_natCast]
      (refine Ga ?_)
      (apply retQ1; (focus rfl))
      exact ⟨hC, .inl rfl⟩
    have hokq : Okp q := ⟨by omega, by omega⟩
    have hfine := nm_fine hokq hkq
    have hlp := wr1_len _ hfine.fit
    have hs256 := hfine.s
    (refine Ga ?_)
    apply Lst_pu
    · apply P_idx
      focus rfl
      focus rfl
      focus rfl
      focus rfl
      focus rfl
      focus omega
      focus omega
    focus rfl
    rw [Int.toNat_natCast]
    (refine Ga ?_)
    apply Lst_pu
    · apply P_idx
      focus rfl
      focus rfl
      focus rfl
      focus rfl
      focus rfl
      focus omega
      focus omega
    focus rfl
    rw [Int.toNat_natCast]
    (refine Ga ?_)
    apply Lst_pu
    · apply P_idx
      focus rfl
      focus rfl
      focus rfl
      focus rfl
      focus rfl
      focus omega
      focus omega
    focus rfl
    rw [Int.toNat_natCast]
    (refine Ga ?_)
    refine W_cutS (α := Value × List Pr) (fun x => [(0, .pointer (some ⟨p, 0, none⟩)), (1, x.1), (5, .int .i64 (i : Int))]) (fun x A' => x.2.length = l.length ∧ x.2[i]? = some (nm q) ∧ x.2.drop (i + 1) = l.drop (i + 1) ∧ PrC A' x.1 x.2 ∧ Below A.heap.size A A') ?_ ?_
    · cases hg : q.g with
      | false =>
        rw [hg] at hq3
        (refine Ga ?_)
        exact cutQ_n (.slice (some ⟨b, off, none⟩) lc.length c1, lc) ⟨hlc, by show lc[i]? = _; rw [List.getElem?_eq_getElem (by omega), e1, nm_here hg], hdr1, ⟨hP, _, _, rfl, hc1⟩, Below.refl _ _⟩ ⟨rfl, rfl, rfl, trivial⟩
      | true =>
        rw [hg] at hq3
        (refine Ga ?_)
        apply Lst_appendR (hown := World.ownsRow_nil A A.heap.size 37 4) (hy := hP) (hls := pcs_len lc) (hone := pcs_one lc) (bytes := 40)
        focus rfl
        focus rfl
        focus rfl
        focus rfl
        focus rfl
        focus rfl
        focus rfl
        focus rfl
        focus rfl
        focus (rw [List.length_map]; omega)
        focus (rw [List.length_map]; omega)
        focus exact Nat.le_refl _
        focus rfl
        intro v' A1 ho hgr
        rw [List.nil_append, Nat.zero_add, List.length_map] at ho
        have hb1 := Sx.Below.own (Below.refl _ A) (World.ownsRow_nil A A.heap.size 37 4) hgr (Nat.le_refl _) (Nat.le_refl _)
        have hil2 : i < (lc.map pcs).length := by rw [List.length_map]; omega
        have hfl := flat_len _ (pcs_len lc)
        rw [List.length_map] at hfl
        obtain ⟨g, cap, cs, rfl, hcap, hgA, hblk, hklt, hset⟩ := own_set ho (k := i * 4 + 2) (by rw [hfl]; omega)
        have hset := hset (.string ⟨#[]⟩)
        rw [flat_set _ _ i 2 hil2 (pcs_len lc) (by omega), List.getElem_map, e1] at hset
        have e2 : (pcs q).set 2 (.string ⟨#[]⟩) = pcs (nm q) := by rw [nm_gone hg]; rfl
        rw [e2, ← List.map_set] at hset
        (refine Ga ?_)
        apply Lst_pu
        · apply P_idx (sz := 4)
          focus rfl
          focus rfl
          focus rfl
          focus rfl
          focus rfl
          focus omega
          focus omega
        focus rfl
        rw [Int.toNat_natCast]
        (refine Ga ?_)
        apply Lst_storeN (hb := hblk)
        focus rfl
        focus constructor
        focus rfl
        focus rfl
        focus rfl
        focus rfl
        focus omega
        have hb2 : Below A.heap.size A (A1.putObj g (.cells (cs.set (i * 4 + 2) (.string ⟨#[]⟩)).toArray 37)) := Below.put hb1 hgA _
        generalize A1.putObj g (.cells (cs.set (i * 4 + 2) (.string ⟨#[]⟩)).toArray 37) = A2 at *
        (refine Ga ?_)
        refine cutQ_n (.slice (some ⟨g, 0, none⟩) lc.length cap, lc.set i (nm q)) ⟨by dsimp only; rw [List.length_set]; exact hlc, by dsimp only; rw [List.getElem?_set_self (by omega)], ?_, Prs.own (B := A.heap.size) (nn := lc.length) hset, hb2⟩ ⟨rfl, rfl, rfl, trivial⟩
        dsimp only
        rw [List.drop_set_of_lt (by omega)]
        exact hdr1
    clear hP hcells hq0 hq2 hq3 hdr e1 hdr1 hlc hbl hc1
    rintro J ⟨pv, lc⟩ A1 ⟨hlc, hgi, hdr, ⟨hP, a1, c1, hpv, hc1⟩, hb1⟩
    dsimp only at hlc hgi hdr hP hpv hc1 ⊢
    subst hpv
    have hA1 := hA.below hb1
    have hC1 := hC.trans (.of hb1)
    have hw : arith .add .i64 (i : Int) 1 = ((i + 1 : Nat) : Int) := by
      show IntKind.i64.wrap _ = _
      rw [wi64 (by omega) (by omega)]
      omega
    (refine Ga ?_)
    have hcut : Prs A1 (sliced a1 i (i + 1) c1 4) [nm q] := by
      have hil2 : i < (lc.map pcs).length := by rw [List.length_map]; omega
      have hP' : SRows A1 4 (.slice a1 (lc.map pcs).length c1) (lc.map pcs) := by rw [List.length_map]; exact hP
      have := SRows.cut1 hP' (by rw [List.length_map]; exact hc1) hil2
      rw [List.getElem_map] at this
      rw [List.getElem?_eq_getElem (by omega)] at hgi
      rw [Option.some.inj hgi] at this
      exact this
    (apply Lst_call; (focus rfl); (focus rfl))
    refine (r_Write _ [nm q] (fun x hx => by rw [List.mem_singleton.1 hx]; exact hfine.fit) (by omega) A1 hcut).mono ?_
    rintro u A2 ⟨hu, hb2⟩
    have hu2 := hu.ints
    obtain ⟨u1, u2, u3, rfl⟩ := own_slice hu
    have hA2 := hA1.below hb2
    have hC2 := hC1.trans (.of hb2)
    have hP2 := hP.below hb2 (Nat.le_refl _)
    (refine Ga ?_)
    (apply Lst_call; (focus rfl); (focus rfl))
    refine (c_Take p mb _ _ _ (by omega) A2 hA2 hu2).mono ?_
    rintro r A3 ⟨rfl, hA3, hC3⟩
    have hP3 := hA2.prs hP2 hC3
    (refine Ga ?_)
    refine rndQ_n (α := Nat × Value × List Pr) (i + 1, .slice a1 lc.length c1, lc) ⟨by dsimp only; omega, hlc, hdr, ⟨hP3, _, _, rfl, hc1⟩, ?_, hC2.trans hC3, ?_⟩ ⟨rfl, rfl, ?_, trivial⟩ (by dsimp only; omega)
    · dsimp only
      rw [htk, giveL_snoc]
      exact hA3
    · dsimp only
      rw [htk]
      intro x hx
      rcases List.mem_append.1 hx with hx | hx
      · exact hok x hx
      · rw [List.mem_singleton.1 hx]
        exact hokq
    · show Value.int .i64 ((i : Int) + 1) = Value.int .i64 ((i + 1 : Nat) : Int)
      rw [Int.natCast_add]
      rfl
  · obtain rfl : i = l.length := by omega
    rw [List.take_of_length_le (Nat.le_refl _)] at hA hok
    (refine Ga ?_)
    (apply retQ1; (focus rfl))
    exact ⟨hC, .inr ⟨rfl, hok, hA⟩⟩
end Aw
end Go.Proofs.Ytoljcnlmockpcaa
