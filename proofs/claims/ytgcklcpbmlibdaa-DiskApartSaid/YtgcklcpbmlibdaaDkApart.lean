/- DiskApart: the walk. -/
import Derived.Test.YtgcklcpbmlibdaaDkBoth
namespace Go.Proofs.Ytgcklcpbmlibdaa
set_option maxRecDepth 100000
namespace Dk
open Go Go.RowKit Sx
def R0 (r : Int) : Dsk := ⟨[], max r 0, -1, false⟩
attribute [local irreducible] W Lst Qst Pu seqQ blkQ rndQ cutQ retQ Does Enters IntKind.wrap bits sb World.alloc World.putObj Blk
set_option maxHeartbeats 4000000 in
theorem law_DiskApart (room : Int) (v v2 : Value) (l l2 : List St) (hl : l.length ≤ 281474976710656) (hl2 : l2.length ≤ 281474976710656) (w : World) (hW : Steps w v l) (hW2 : Steps w v2 l2) :
    Does Try.prog 8 #[.int .i64 room, v, v2] w fun r w' => r = .bool true ∧ Below w.heap.size w w' := by
  obtain ⟨va, vc, rfl⟩ := hW.1
  obtain ⟨va2, vc2, rfl⟩ := hW2.1
  refine Does_of (args := [.int .i64 room, .slice va l.length vc, .slice va2 l2.length vc2]) Try.func8 (by kernel_rfl) rfl rfl rfl rfl rfl ?_
  (refine Ga ?_)
  (apply Lst_call; (focus rfl); (focus rfl))
  refine (c_known _).mono ?_
  rintro v w1 ⟨rfl, hb1⟩
  have b1 := Sx.Below.after (w := w) Bel hb1
  have s1 := hb1.size
  try simp only [Sx.sizes] at s1
  (refine Ga ?_)
  (apply Lst_call; (focus rfl); (focus rfl))
  refine (c_light _ l hl _ (hW.below hb1 (Nat.le_refl _))).mono ?_
  rintro r w2 ⟨t, rfl, hb2, ht⟩
  have b2 := b1.trans (hb2.mono b1.size)
  cases t
  · (refine Ga ?_)
    (apply retQ1; (focus rfl))
    exact ⟨rfl, b2⟩
  obtain ⟨hl3, hwt⟩ := ht rfl
  (refine Ga ?_)
  (apply Lst_call; (focus rfl); (focus rfl))
  refine (c_light _ l2 hl2 _ (hW2.below b2 (Nat.le_refl _))).mono ?_
  rintro r w3 ⟨t2, rfl, hb3, ht2⟩
  have b3 := b2.trans (hb3.mono b2.size)
  cases t2
  · (refine Ga ?_)
    (apply retQ1; (focus rfl))
    exact ⟨rfl, b3⟩
  obtain ⟨hl4, hwt2⟩ := ht2 rfl
  clear hb1 hb2 hb3 b1 b2 ht ht2 hl hl2
  (refine Ga ?_)
  (apply Lst_call; (focus rfl); (focus rfl))
  refine (c_New room _).mono ?_
  rintro r w4 ⟨pa, ma, rfl, hpa, hma, hda, hb4⟩
  have hda : DkAt w4 pa ma (R0 room) := hda
  have hpa' : w.heap.size ≤ pa := Nat.le_trans b3.size hpa
  have hma' : w.heap.size ≤ ma := Nat.le_trans b3.size hma
  have b4 := b3.trans (hb4.mono b3.size)
  clear hb4 b3 hpa hma
  (refine Ga ?_)
  (apply Lst_call; (focus rfl); (focus rfl))
  refine (c_New room _).mono ?_
  rintro r w5 ⟨pb, mm, rfl, hpb, hmb, hdb, hb5⟩
  have hdb : DkAt w5 pb mm (R0 room) := hdb
  have hpb' : w.heap.size ≤ pb := Nat.le_trans b4.size hpb
  have hmb' : w.heap.size ≤ mm := Nat.le_trans b4.size hmb
  have b5 := b4.trans (hb5.mono b4.size)
  have n1 : pa ≠ pb := by have := hda.pl; omega
  have n2 : ma ≠ mm := by have := hda.ml; omega
  have hda := hda.below hb5
  clear hb5 b4 hpb hmb
  (refine Ga ?_)
  (apply Lst_call; (focus rfl); (focus rfl))
  refine (c_New room _).mono ?_
  rintro r w6 ⟨pd, md, rfl, hpd, hmd, hdd, hb6⟩
  have hdd : DkAt w6 pd md (R0 room) := hdd
  have hpd' : w.heap.size ≤ pd := Nat.le_trans b5.size hpd
  have hmd' : w.heap.size ≤ md := Nat.le_trans b5.size hmd
  have b6 := b5.trans (hb6.mono b5.size)
  have n3 : pa ≠ pd := by have := hda.pl; omega
  have n4 : ma ≠ md := by have := hda.ml; omega
  have n5 : pb ≠ pd := by have := hdb.pl; omega
  have n6 : mm ≠ md := by have := hdb.ml; omega
  have hda := hda.below hb6
  have hdb := hdb.below hb6
  clear hb6 b5 hpd hmd
  have f0 : Fine (R0 room) 0 0 := fine0 _
  (refine Ga ?_)
  (apply Lst_call; (focus rfl); (focus rfl))
  refine (c_play pa ma (R0 room) 0 0 f0 _ l (by omega) (by omega) w w6 hW b6 hpa' hma' hda).mono ?_
  rintro r w7 ⟨rfl, hda7, hc7⟩
  have hdb7 := hdb.other hda hc7 (Ne.symm n1) (Ne.symm n2)
  have hdd7 := hdd.other hda hc7 (Ne.symm n3) (Ne.symm n4)
  have b7 := b6.trans (Chg.low hc7 hpa' hma' b6.size)
  clear hda hdb hdd hc7 b6
  (refine Ga ?_)
  (apply Lst_call; (focus rfl); (focus rfl))
  refine (c_play pb mm (R0 room) 0 0 f0 _ l (by omega) (by omega) w w7 hW b7 hpb' hmb' hdb7).mono ?_
  rintro r w8 ⟨rfl, hdb8, hc8⟩
  have hda8 := hda7.other hdb7 hc8 n1 n2
  have hdd8 := hdd7.other hdb7 hc8 (Ne.symm n5) (Ne.symm n6)
  have b8 := b7.trans (Chg.low hc8 hpb' hmb' b7.size)
  clear hda7 hdb7 hdd7 hc8 b7
  (refine Ga ?_)
  (apply Lst_call; (focus rfl); (focus rfl))
  refine (c_play pd md (R0 room) 0 0 f0 _ l (by omega) (by omega) w w8 hW b8 hpd' hmd' hdd8).mono ?_
  rintro r w9 ⟨rfl, hdd9, hc9⟩
  have hda9 := hda8.other hdd8 hc9 n3 n4
  have hdb9 := hdb8.other hdd8 hc9 n5 n6
  have b9 := b8.trans (Chg.low hc9 hpd' hmd' b8.size)
  clear hda8 hdb8 hdd8 hc9 b8
  have f1 := Fine.play l f0
  generalize playD (R0 room) l = D1 at *
  (refine Ga ?_)
  (apply Lst_call; (focus rfl); (focus rfl))
  refine (c_Copy pa ma D1 _ hda9).mono ?_
  rintro r w10 ⟨pc, mc, rfl, hpc, hmc, hdc, hb10⟩
  have hpc' : w.heap.size ≤ pc := Nat.le_trans b9.size hpc
  have hmc' : w.heap.size ≤ mc := Nat.le_trans b9.size hmc
  have b10 := b9.trans (hb10.mono b9.size)
  have n7 : pa ≠ pc := by have := hda9.pl; omega
  have n8 : ma ≠ mc := by have := hda9.ml; omega
  have n9 : pb ≠ pc := by have := hdb9.pl; omega
  have n10 : mm ≠ mc := by have := hdb9.ml; omega
  have n11 : pd ≠ pc := by have := hdd9.pl; omega
  have n12 : md ≠ mc := by have := hdd9.ml; omega
  have hda10 := hda9.below hb10
  have hdb10 := hdb9.below hb10
  have hdd10 := hdd9.below hb10
  clear hda9 hdb9 hdd9 hb10 b9 hpc hmc
  (refine Ga ?_)
  (apply Lst_call; (focus rfl); (focus rfl))
  refine (c_play pc mc D1 _ _ f1 _ l2 (by omega) (by omega) w w10 hW2 b10 hpc' hmc' hdc).mono ?_
  rintro r w11 ⟨rfl, hdc11, hc11⟩
  have hda11 := hda10.other hdc hc11 n7 n8
  have hdb11 := hdb10.other hdc hc11 n9 n10
  have hdd11 := hdd10.other hdc hc11 n11 n12
  have b11 := b10.trans (Chg.low hc11 hpc' hmc' b10.size)
  clear hda10 hdb10 hdd10 hdc hc11 b10
  (refine Ga ?_)
  (apply Lst_call; (focus rfl); (focus rfl))
  refine (c_play pb mm D1 _ _ f1 _ l2 (by omega) (by omega) w w11 hW2 b11 hpb' hmb' hdb11).mono ?_
  rintro r w12 ⟨rfl, hdb12, hc12⟩
  have hda12 := hda11.other hdb11 hc12 n1 n2
  have hdc12 := hdc11.other hdb11 hc12 (Ne.symm n9) (Ne.symm n10)
  have hdd12 := hdd11.other hdb11 hc12 (Ne.symm n5) (Ne.symm n6)
  have b12 := b11.trans (Chg.low hc12 hpb' hmb' b11.size)
  clear hda11 hdb11 hdd11 hdc11 hc12 b11
  have f2 := Fine.play l2 f1
  generalize playD D1 l2 = D2 at *
  (refine Ga ?_)
  (apply Lst_call; (focus rfl); (focus rfl))
  refine (c_both pc mc pb mm D2 D2 rfl rfl _ _ f2 (by omega) (by omega) _ hdc12 hdb12).mono ?_
  rintro r w13 ⟨rfl, hb13⟩
  have hda13 := hda12.below hb13
  have hdd13 := hdd12.below hb13
  have b13 := b12.trans (hb13.mono b12.size)
  clear hda12 hdd12 hdb12 hdc12 hb13 b12
  (refine Ga ?_)
  (apply Lst_call; (focus rfl); (focus rfl))
  refine (c_both pa ma pd md D1 D1 rfl rfl _ _ f1 (by omega) (by omega) _ hda13 hdd13).mono ?_
  rintro r w14 ⟨rfl, hb14⟩
  have b14 := b13.trans (hb14.mono b13.size)
  (refine Ga ?_)
  (apply retQ1; (focus rfl))
  exact ⟨rfl, b14⟩
end Dk
end Go.Proofs.Ytgcklcpbmlibdaa
