/- quirehelp.Strings and quirelaw4.both, where both are alike. -/
import Derived.Test.YtgcklcpbmlibdaaDkCuts
namespace Go.Proofs.Ytgcklcpbmlibdaa
set_option maxRecDepth 100000
namespace Dk
open Go Go.RowKit Sx
attribute [local irreducible] W Lst Qst Pu seqQ blkQ rndQ cutQ retQ Does Enters IntKind.wrap bits sb World.alloc World.putObj Blk
theorem c_Strings (u v : Value) (ss : List (List UInt8)) (hl : ss.length ≤ 1000000) (w : World) (hu : Strs w u ss) (hv : Strs w v ss) : Does Try.prog 27 #[u, v] w fun r w' => r = .bool true ∧ Below w.heap.size w w' := by
  obtain ⟨a, c, rfl⟩ := hu.form
  obtain ⟨a', c', rfl⟩ := hv.form
  refine Does_of (args := [.slice a ss.length c, .slice a' ss.length c']) Try.func27 (by kernel_rfl) rfl rfl rfl rfl rfl ?_
  (refine Ga ?_)
  refine W_loop (α := Nat) (fun i => [(0, .slice a ss.length c), (1, .slice a' ss.length c'), (5, .int .i64 (i : Int))])
    (fun i A => i ≤ ss.length ∧ Below w.heap.size w A) (fun i _ => ss.length - i) 0 ⟨Nat.zero_le _, Bel⟩ ⟨rfl, rfl, rfl, trivial⟩ ?_
  rintro J i A ⟨hi, hb⟩
  by_cases hil : i < ss.length
  · obtain ⟨b, ha, hcell⟩ := hu.at hil
    obtain ⟨b', ha', hcell'⟩ := hv.at hil
    subst ha ha'
    have hc1 := cell_below hcell hb (Nat.le_refl _)
    have hc2 := cell_below hcell' hb (Nat.le_refl _)
    generalize ss[i] = s at *
    (refine Ga ?_)
    refine W_draws (Grown _) rfl (by kernel_rfl) (grown_start _) ?_
    (refine Qb ?_)
    apply Qst_loadc
    focus rfl
    focus rfl
    focus rfl
    focus (intro A9 hb9; exact cell_below (o := 0 + i) (by rw [Nat.zero_add]; exact hc1) hb9 (Nat.le_refl _))
    focus rfl
    (refine Qb ?_)
    apply Qst_loadc
    focus rfl
    focus rfl
    focus rfl
    focus (intro A9 hb9; exact cell_below (o := 0 + i) (by rw [Nat.zero_add]; exact hc2) hb9 (Nat.le_refl _))
    focus rfl
    (refine Qb ?_)
    intro w2 hb2
    have b2 := Sx.Below.after hb hb2
    (refine Ga ?_)
    refine rndQ_n (α := Nat) (i + 1) ⟨by omega, b2⟩ ⟨rfl, rfl, ?_, trivial⟩ (by omega)
    show Value.int .i64 ((i : Int) + 1) = Value.int .i64 ((i + 1 : Nat) : Int)
    rw [Int.natCast_add]
    rfl
  · have hie : i = ss.length := by omega
    subst hie
    (refine Ga ?_)
    (apply retQ1; (focus rfl))
    exact ⟨rfl, hb⟩
theorem c_both (p mb p2 mb2 : Nat) (d d2 : Dsk) (hes : d2.es = d.es) (hdd : d2.dead = d.dead) (u m : Nat) (hf : Fine d u m) (hu : u ≤ 1000000) (hm : m ≤ 1000000) (w : World) (h : DkAt w p mb d) (h2 : DkAt w p2 mb2 d2) :
    Does Try.prog 28 #[.pointer (some ⟨p, 0, none⟩), .pointer (some ⟨p2, 0, none⟩)] w fun r w' => r = .bool true ∧ Below w.heap.size w w' := by
  have hli : d2.list = d.list := by unfold Dsk.list; rw [hes, hdd]
  have hus : used d2.es = used d.es := by rw [hes]
  have hrd : ∀ n, d2.read n = d.read n := fun n => by unfold Dsk.read Dsk.isE Dsk.file; rw [hes, hdd]
  have hfl : ∀ n, (d2.file n).b.length = (d.file n).b.length := fun n => by unfold Dsk.file; rw [hes]
  have huB := hf.used
  have hlB := hf.len
  have hll : d.list.length ≤ 1000000 := by
    unfold Dsk.list
    split
    · simp
    · rw [keysS_len]
      omega
  refine Does_of (args := [.pointer (some ⟨p, 0, none⟩), .pointer (some ⟨p2, 0, none⟩)]) Try.func28 (by kernel_rfl) rfl rfl rfl rfl rfl ?_
  (refine Ga ?_)
  (apply Lst_call; (focus rfl); (focus rfl))
  refine (c_List p mb d ⟨hf.names, by omega⟩ _ h).mono ?_
  rintro r w1 ⟨hs1, hb1⟩
  have b1 := hb1
  (refine Ga ?_)
  have cA := c_List p2 mb2 d2 ⟨by rw [hes]; exact hf.names, by rw [hes]; omega⟩ _ (h2.below hb1)
  rw [hli] at cA
  (apply Lst_call; (focus rfl); (focus rfl))
  refine cA.mono ?_
  clear cA
  rintro r2 w2 ⟨hs2, hb2⟩
  have hs1 := hs1.below hb2
  have b2 := b1.trans (hb2.mono b1.size)
  clear b1 hb1 hb2
  obtain ⟨a1, c1, hv1⟩ := hs1.form
  obtain ⟨a2, c2, hv2⟩ := hs2.form
  subst hv1 hv2
  (refine Ga ?_)
  (apply Lst_call; (focus rfl); (focus rfl))
  refine (c_Strings _ _ d.list hll _ hs1 hs2).mono ?_
  rintro r w3 ⟨rfl, hb3⟩
  have hs1 := hs1.below hb3
  have hs2 := hs2.below hb3
  have b3 := b2.trans (hb3.mono b2.size)
  clear b2 hb3
  (refine Ga ?_)
  (apply Lst_call; (focus rfl); (focus rfl))
  refine (c_Used p mb d (by omega) _ (h.below b3)).mono ?_
  rintro r w4 ⟨rfl, hb4⟩
  have hs1 := hs1.below hb4
  have hs2 := hs2.below hb4
  have b4 := b3.trans (hb4.mono b3.size)
  clear b3 hb4
  (refine Ga ?_)
  have cA := c_Used p2 mb2 d2 (by omega) _ (h2.below b4)
  rw [hus] at cA
  (apply Lst_call; (focus rfl); (focus rfl))
  refine cA.mono ?_
  clear cA
  rintro r w5 ⟨rfl, hb5⟩
  have hs1 := hs1.below hb5
  have hs2 := hs2.below hb5
  have b5 := b4.trans (hb5.mono b4.size)
  clear b4 hb5
  (refine Ga ?_)
  (apply Lst_call; (focus rfl); (focus rfl))
  refine (c_Dead p mb d _ (h.below b5)).mono ?_
  rintro v w' ⟨rfl, rfl⟩
  (refine Ga ?_)
  (apply Lst_call; (focus rfl); (focus rfl))
  refine (c_Dead p2 mb2 d2 _ (h2.below b5)).mono ?_
  rintro v w' ⟨rfl, rfl⟩
  rw [hdd]
  (refine Ga ?_)
  refine W_loop (α := Nat) (fun i => [(0, .pointer (some ⟨p, 0, none⟩)), (1, .pointer (some ⟨p2, 0, none⟩)), (5, .slice a1 d.list.length c1), (6, .slice a2 d.list.length c2), (7, .int .i64 (i : Int))])
    (fun i A => i ≤ d.list.length ∧ Below w.heap.size w A ∧ Below w5.heap.size w5 A) (fun i _ => d.list.length - i) 0 ⟨Nat.zero_le _, b5, .refl _ _⟩ ⟨rfl, rfl, rfl, rfl, rfl, trivial⟩ ?_
  rintro J i A ⟨hi, hb, hb'⟩
  have hz := hb.size
  have hz' := hb'.size
  by_cases hil : i < d.list.length
  · obtain ⟨b, ha, hcell⟩ := hs1.at hil
    obtain ⟨b', ha', hcell'⟩ := hs2.at hil
    subst ha ha'
    have hc1 : A.cell? ⟨b, 0 + i, none⟩ = some (.string ⟨d.list[i].toArray⟩) := by rw [Nat.zero_add]; exact cell_below hcell hb' (Nat.le_refl _)
    generalize hsE : d.list[i] = s at *
    have hbl := file_used d ⟨s.toArray⟩
    (refine Ga ?_)
    have cA := c_Read p mb d ⟨s.toArray⟩ (by omega) _ (h.below hb)
    (apply Lst_call; (focus rfl); (focus rfl))
    refine cA.mono ?_
    clear cA
    rintro r w6 ⟨⟨sv, rfl, hsv⟩, hb6⟩
    obtain ⟨v1, v2, rfl⟩ := hsv.form
    have b6 := hb.trans (hb6.mono hz)
    have hc2 : w6.cell? ⟨b', 0 + i, none⟩ = some (.string ⟨s.toArray⟩) := by rw [Nat.zero_add]; exact cell_below (cell_below hcell' hb' (Nat.le_refl _)) hb6 (Nat.le_refl _)
    (refine Ga ?_)
    have cA := c_Read p2 mb2 d2 ⟨s.toArray⟩ (by rw [hfl]; omega) _ (h2.below b6)
    rw [hrd] at cA
    (apply Lst_call; (focus rfl); (focus rfl))
    refine cA.mono ?_
    clear cA
    rintro r w7 ⟨⟨sv2, rfl, hsv2⟩, hb7⟩
    obtain ⟨v3, v4, rfl⟩ := hsv2.form
    have b7 := b6.trans (hb7.mono b6.size)
    have hsv := Ints.below hsv hb7 (Nat.le_refl _)
    (refine Ga ?_)
    (apply Lst_call; (focus rfl); (focus rfl))
    refine (h_Bytes _ _ _ _ _ hsv hsv2).mono ?_
    rintro v w' ⟨rfl, rfl⟩
    rw [decide_eq_true rfl]
    (refine Ga ?_)
    refine rndQ_n (α := Nat) (i + 1) ⟨by omega, b7, hb'.trans ((hb6.trans (hb7.mono hb6.size)).mono hz')⟩ ⟨rfl, rfl, rfl, rfl, ?_, trivial⟩ (by omega)
    show Value.int .i64 ((i : Int) + 1) = Value.int .i64 ((i + 1 : Nat) : Int)
    rw [Int.natCast_add]
    rfl
  · have hie : i = d.list.length := by omega
    subst hie
    (refine Ga ?_)
    (apply retQ1; (focus rfl))
    exact ⟨rfl, hb⟩
end Dk
end Go.Proofs.Ytgcklcpbmlibdaa
