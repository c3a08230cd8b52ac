/- DiskCuts: the plain law and the walk. -/
import Derived.Test.YtgcklcpbmlibdaaDkPlay
namespace Go.Proofs.Ytgcklcpbmlibdaa
set_option maxRecDepth 100000
namespace Dk
open Go Go.RowKit Sx
/-- What a step comes to: an error, or new files. -/
def Dsk.core (d : Dsk) (s : St) : Int × Option (List (ByteArray × Fl)) :=
  if s.what = 0 ∨ s.what = 1 ∨ s.what = 2 ∨ s.what = 3 then
    (if d.dead then (43, none) else if nameOk s.name then (if d.full s.name s.b.length then (42, none) else (0, some (Sx.put d.es s.name ⟨(d.file s.name).b ++ s.b, (d.file s.name).safe⟩))) else (41, none))
  else if s.what = 4 then (if d.isE s.name = 0 then (0, some (Sx.put d.es s.name ⟨(d.file s.name).b, (d.file s.name).b.length⟩)) else (d.isE s.name, none))
  else if s.what = 5 then (if d.isE s.name = 0 then (if nameOk s.to then (0, some (Sx.put (Sx.del d.es s.name) s.to (d.file s.name))) else (41, none)) else (d.isE s.name, none))
  else if s.what = 6 then (if d.isE s.name = 0 then (0, some (Sx.put d.es s.name ⟨(d.file s.name).b.take (cutTo (d.file s.name) s.n), min (d.file s.name).safe (cutTo (d.file s.name) s.n)⟩)) else (d.isE s.name, none))
  else if s.what = 7 then (if d.isE s.name = 0 then (0, some (Sx.del d.es s.name)) else (d.isE s.name, none))
  else (1, none)
theorem step_core (d : Dsk) (s : St) : d.step s = (match (d.core s).2 with | none => ((d.core s).1, d) | some es => (0, Dsk.done { d with es := es })) := by
  unfold Dsk.step Dsk.core Dsk.append Dsk.sync Dsk.rename Dsk.truncate Dsk.delete
  repeat (first | rfl | split)
theorem core_err (d : Dsk) (s : St) (h : (d.core s).2 = none) : (d.core s).1 ≠ 0 := by
  revert h
  unfold Dsk.core
  repeat' split
  all_goals intro h
  all_goals first
    | (cases h; done)
    | assumption
    | (simp only [ne_eq]; omega)
theorem core_cut (d : Dsk) (s : St) (k : Int) : Dsk.core { d with cut := k } s = d.core s := rfl
theorem core_dead (d : Dsk) (s : St) (h : d.dead = true) : (d.core s).2 = none := by
  have hE : ∀ n, d.isE n = 43 := fun n => by unfold Dsk.isE; rw [h]; rfl
  unfold Dsk.core
  simp only [h, hE, if_true]
  repeat (first | rfl | split)
theorem play_dead (d : Dsk) (h : d.dead = true) : ∀ l, playN d l = 0 ∧ playD d l = d
  | [] => ⟨rfl, rfl⟩
  | s :: l => by
    have hc := core_dead d s h
    have he := core_err d s hc
    have hs := step_core d s
    rw [hc] at hs
    simp only at hs
    obtain ⟨h1, h2⟩ := play_dead d h l
    unfold playN playD
    rw [hs]
    dsimp only
    rw [if_neg he]
    exact ⟨by omega, h2⟩
theorem cuts : ∀ (l : List St) (a : Dsk) (k : Int), a.cut = -1 → a.dead = false → 0 < k →
    (playN { a with cut := k } l : Int) = min (playN a l : Int) k ∧ (playD { a with cut := k } l).dead = decide (k ≤ (playN a l : Int)) ∧ (¬ k ≤ (playN a l : Int) → (playD { a with cut := k } l).es = (playD a l).es)
  | [], a, k, hc, hd, hk => by
    refine ⟨by simp only [playN]; omega, ?_, fun _ => rfl⟩
    rw [decide_eq_false (by simp only [playN]; omega)]
    exact hd
  | s :: l, a, k, hc, hd, hk => by
    have ha := step_core a s
    have hb := step_core { a with cut := k } s
    rw [core_cut] at hb
    cases hcs : (a.core s).2 with
    | none =>
      rw [hcs] at ha hb
      simp only at ha hb
      have he := core_err a s hcs
      obtain ⟨h1, h2, h3⟩ := cuts l a k hc hd hk
      unfold playN playD
      rw [ha, hb]
      dsimp only
      rw [if_neg he]
      simp only [Nat.zero_add]
      exact ⟨h1, h2, h3⟩
    | some es =>
      rw [hcs] at ha hb
      simp only at ha hb
      have ea : Dsk.done { a with es := es } = { a with es := es } := by unfold Dsk.done; rw [if_neg (by show ¬ 0 < a.cut; omega)]
      have eb : Dsk.done { { a with cut := k } with es := es } = { { a with es := es } with cut := k - 1, dead := decide (k - 1 = 0) } := by unfold Dsk.done; rw [if_pos hk]
      rw [ea] at ha
      rw [eb] at hb
      unfold playN playD
      rw [ha, hb]
      dsimp only
      rw [if_pos rfl]
      by_cases h0 : k - 1 = 0
      · rw [decide_eq_true h0]
        obtain ⟨h1, h2⟩ := play_dead { { a with es := es } with cut := k - 1, dead := true } rfl l
        rw [h1, h2]
        refine ⟨by omega, ?_, fun h => absurd (by omega) h⟩
        rw [decide_eq_true (by omega)]
      · rw [decide_eq_false h0]
        obtain ⟨h1, h2, h3⟩ := cuts l { a with es := es } (k - 1) hc hd (by omega)
        have e : ({ { a with es := es } with cut := k - 1, dead := false } : Dsk) = { { a with es := es } with cut := k - 1 } := by rw [← hd]
        rw [e]
        dsimp only at h1 h2 h3 ⊢
        refine ⟨by omega, ?_, fun h => h3 (by omega)⟩
        rw [h2]
        congr 1
        exact propext ⟨fun h => by omega, fun h => by omega⟩
theorem nilInts (w : World) : By w (.slice none 0 0) [] := .inr ⟨rfl, _, _, rfl⟩
def C0 : Dsk := ⟨[], 65536, -1, false⟩
theorem fine0 (r : Int) : Fine ⟨[], r, -1, false⟩ 0 0 := ⟨by show (-1 : Int) < _; decide, Nat.le_refl _, Nat.le_refl _, by simp⟩
/-- Another disk's life leaves this one as it is. -/
theorem DkAt.other {w w' : World} {p mb p2 mb2 : Nat} {d d2 : Dsk} (h : DkAt w p mb d) (h2 : DkAt w p2 mb2 d2) (hc : Chg [p2, mb2] w w') (hp : p ≠ p2) (hm : mb ≠ mb2) : DkAt w' p mb d := by
  have e1 : p ≠ mb2 := by
    rintro rfl
    have := h2.2.not_cells 0
    rw [h.1.cell 0] at this
    simp at this
  have e2 : mb ≠ p2 := by
    rintro rfl
    have := h.2.not_cells 0
    rw [h2.1.cell 0] at this
    simp at this
  exact h.chg hc (by simp [hp, e1]) (by simp [hm, e2]) h2.n8
theorem DkAt.pl {w : World} {p mb : Nat} {d : Dsk} (h : DkAt w p mb d) : p < w.heap.size := h.1.lt
theorem DkAt.ml {w : World} {p mb : Nat} {d : Dsk} (h : DkAt w p mb d) : mb < w.heap.size := h.2.lt
attribute [local irreducible] W Lst Qst Pu seqQ blkQ rndQ cutQ retQ Does Enters IntKind.wrap bits sb World.alloc World.putObj Blk
set_option maxHeartbeats 4000000 in
theorem law_DiskCuts (v : Value) (l : List St) (hl : l.length ≤ 281474976710656) (n : Int) (w : World) (hW : Steps w v l) : Does Try.prog 5 #[v, .int .i64 n] w fun r w' => r = .bool true ∧ Below w.heap.size w w' := by
  have hform := hW.1
  refine Does_of (args := [v, .int .i64 n]) Try.func5 (by kernel_rfl) rfl rfl rfl rfl rfl ?_
  (refine Ga ?_)
  (apply Lst_call; (focus rfl); (focus rfl))
  refine (c_known _).mono ?_
  rintro v w1 ⟨rfl, hb1⟩
  have b1 := Sx.Below.after (w := w) Bel hb1
  have s1 := hb1.size
  try simp only [Sx.sizes] at s1
  (refine Ga ?_)
  (apply Lst_call; (focus rfl); (focus rfl))
  refine (c_light v l hl _ (hW.below hb1 (Nat.le_refl _))).mono ?_
  rintro r w2 ⟨t, rfl, hb2, ht⟩
  have b2 := b1.trans (hb2.mono b1.size)
  cases t
  · (refine Ga ?_)
    (apply retQ1; (focus rfl))
    exact ⟨rfl, b2⟩
  obtain ⟨hl3, hwt⟩ := ht rfl
  (refine Ga ?_)
  (apply Lst_call; (focus rfl); (focus rfl))
  refine (c_New 65536 _).mono ?_
  rintro r w3 ⟨pa, ma, rfl, hpa, hma, hda, hb3⟩
  have hda : DkAt w3 pa ma C0 := hda
  have hpa' : w.heap.size ≤ pa := Nat.le_trans b2.size hpa
  have hma' : w.heap.size ≤ ma := Nat.le_trans b2.size hma
  have b3 := b2.trans (hb3.mono b2.size)
  (refine Ga ?_)
  (apply Lst_call; (focus rfl); (focus rfl))
  refine (c_New 65536 _).mono ?_
  rintro r w4 ⟨pb, mm, rfl, hpb, hmb, hdb, hb4⟩
  have hdb : DkAt w4 pb mm C0 := hdb
  have hpb' : w.heap.size ≤ pb := Nat.le_trans b3.size hpb
  have hmb' : w.heap.size ≤ mm := Nat.le_trans b3.size hmb
  have b4 := b3.trans (hb4.mono b3.size)
  have hne : pa ≠ pb := by have := hda.pl; omega
  have hme : ma ≠ mm := by have := hda.ml; omega
  have hda := hda.below hb4
  clear hb1 hb2 hb3 hb4 b1 b2 b3 hpa hma hpb hmb
  (refine Ga ?_)
  (apply Lst_call; (focus rfl); (focus rfl))
  refine (c_play pa ma C0 0 0 (fine0 _) v l (by omega) (by omega) w w4 hW b4 hpa' hma' hda).mono ?_
  rintro r w5 ⟨rfl, hda5, hc5⟩
  have hdb5 := hdb.other hda hc5 (Ne.symm hne) (Ne.symm hme)
  have b5 := b4.trans (Chg.low hc5 hpa' hma' b4.size)
  clear hda hdb hc5
  generalize hN : n % 400 = N
  have hN0 : 0 ≤ N := by omega
  have hN1 : N < 400 := by omega
  (refine Ga ?_)
  have cP := fun A => c_Place n 400 (by omega) (by omega) A
  rw [hN] at cP
  (apply Lst_call; (focus rfl); (focus rfl))
  refine (cP _).mono ?_
  rintro v w' ⟨rfl, rfl⟩
  (refine Ga ?_)
  (apply Lst_call; (focus rfl); (focus rfl))
  refine (c_Cut pb mm C0 N _ hdb5).mono ?_
  rintro r w6 ⟨rfl, hdb6, hc6⟩
  have hc6 := hc6.mono (cs := [pb, mm]) (by simp)
  have hda6 := hda5.other hdb5 hc6 hne hme
  have b6 := b5.trans (Chg.low hc6 hpb' hmb' b5.size)
  clear hda5 hdb5 hc6 b5
  have hmx : max N (-1) = N := by omega
  rw [hmx] at hdb6
  have hfb : Fine { C0 with cut := N, dead := C0.dead || decide (N = 0) } 0 0 := ⟨by show N < _; omega, Nat.le_refl _, Nat.le_refl _, by simp [C0]⟩
  (refine Ga ?_)
  (apply Lst_call; (focus rfl); (focus rfl))
  refine (c_play pb mm _ 0 0 hfb v l (by omega) (by omega) w w6 hW b6 hpb' hmb' hdb6).mono ?_
  rintro r w7 ⟨rfl, hdb7, hc7⟩
  have hda7 := hda6.other hdb6 hc7 hne hme
  have b7 := b6.trans (Chg.low hc7 hpb' hmb' b6.size)
  have key : (playN { C0 with cut := N, dead := C0.dead || decide (N = 0) } l : Int) = min (playN C0 l : Int) N ∧ (playD { C0 with cut := N, dead := C0.dead || decide (N = 0) } l).dead = decide (N ≤ (playN C0 l : Int)) ∧ (¬ N ≤ (playN C0 l : Int) → (playD { C0 with cut := N, dead := C0.dead || decide (N = 0) } l).es = (playD C0 l).es) := by
    by_cases h0 : N = 0
    · obtain ⟨h1, h2⟩ := play_dead { C0 with cut := N, dead := C0.dead || decide (N = 0) } (by rw [decide_eq_true h0, Bool.or_true]) l
      rw [h1, h2]
      refine ⟨by omega, ?_, fun h => absurd (by omega) h⟩
      rw [decide_eq_true h0, Bool.or_true, decide_eq_true (by omega)]
    · have := cuts l C0 N rfl rfl (by omega)
      rw [decide_eq_false h0]
      exact this
  have hfa := Fine.play l (fine0 65536)
  have hfb' := Fine.play l hfb
  have hall := playN_le l C0
  generalize { C0 with cut := N, dead := C0.dead || decide (N = 0) } = dB at *
  have hfa : Fine (playD C0 l) (0 + weight l) (0 + l.length) := hfa
  obtain ⟨k1, k2, k3⟩ := key
  generalize playD C0 l = eA at *
  generalize playN C0 l = nA' at *
  generalize playD dB l = eB at *
  generalize playN dB l = nB' at *
  clear hda6 hdb6 hc7 b6 hfb hmx
  by_cases hd : N ≤ (nA' : Int)
  · rw [decide_eq_true hd] at k2
    have hrd : (eB.read nA).2 = 43 := by
      have : eB.isE nA = 43 := by unfold Dsk.isE; rw [k2]; rfl
      unfold Dsk.read
      rw [this]
      rfl
    have hap : eB.append nA [] = (43, eB) := by unfold Dsk.append; rw [k2]; rfl
    have htr : (eB.truncate nA 0).1 = 43 := by
      have : eB.isE nA = 43 := by unfold Dsk.isE; rw [k2]; rfl
      unfold Dsk.truncate
      rw [this]
      rfl
    have hli : eB.list = [] := by unfold Dsk.list; rw [k2]; rfl
    have huB := hfb'.used
    have hfl := file_used eB nA
    have hlB := hfb'.len
    (refine Ga ?_)
    (apply Lst_call; (focus rfl); (focus rfl))
    refine (c_Dead pb mm eB _ hdb7).mono ?_
    rintro v w' ⟨rfl, rfl⟩
    rw [k2]
    (refine Ga ?_)
    (apply Lst_call; (focus rfl); (focus rfl))
    refine (c_Dead pb mm eB _ hdb7).mono ?_
    rintro v w' ⟨rfl, rfl⟩
    rw [k2]
    (refine Ga ?_)
    have cA := c_Read pb mm eB nA (by omega) _ hdb7
    rw [hrd] at cA
    (apply Lst_call; (focus rfl); (focus rfl))
    refine cA.mono ?_
    clear cA
    rintro r w8 ⟨⟨sv, rfl, _⟩, hb8⟩
    have hd8 := hdb7.below hb8
    have b8 := b7.trans (hb8.mono b7.size)
    clear hdb7 hb8
    (refine Ga ?_)
    have cA := c_List pb mm eB ⟨hfb'.names, by omega⟩ _ hd8
    rw [hli] at cA
    (apply Lst_call; (focus rfl); (focus rfl))
    refine cA.mono ?_
    clear cA
    rintro r w9 ⟨hs9, hb9⟩
    obtain ⟨ss1, ss2, hv⟩ := hs9.form
    have hv : r = .slice ss1 0 ss2 := hv
    subst hv
    have hd9 := hd8.below hb9
    have b9 := b8.trans (hb9.mono b8.size)
    clear hd8 hb9
    (refine Ga ?_)
    have cA := c_AppendBy pb mm eB hfb'.cut nA _ [] (by simp only [List.length_nil]; omega) (by omega) _ hd9 (nilInts _)
    rw [hap] at cA
    (apply Lst_call; (focus rfl); (focus rfl))
    refine cA.mono ?_
    clear cA
    rintro r w10 ⟨rfl, hd10, hc10⟩
    have b10 := b9.trans (Chg.low hc10 hpb' hmb' b9.size)
    clear hd9 hc10
    (refine Ga ?_)
    have cA := c_Truncate pb mm eB hfb'.cut nA 0 _ hd10
    rw [htr] at cA
    (apply Lst_call; (focus rfl); (focus rfl))
    refine cA.mono ?_
    clear cA
    rintro r w11 ⟨rfl, _, hc11⟩
    have b11 := b10.trans (Chg.low hc11 hpb' hmb' b10.size)
    clear hd10 hc11
    (refine Ga ?_)
    (apply retQ1; (focus rfl))
    exact ⟨rfl, b11⟩
  · rw [decide_eq_false hd] at k2
    have hue := hfa.used
    have k4 : used eB.es = used eA.es := by rw [k3 hd]
    (refine Ga ?_)
    (apply Lst_call; (focus rfl); (focus rfl))
    refine (c_Dead pb mm eB _ hdb7).mono ?_
    rintro v w' ⟨rfl, rfl⟩
    rw [k2]
    (refine Ga ?_)
    (apply Lst_call; (focus rfl); (focus rfl))
    refine (c_Dead pb mm eB _ hdb7).mono ?_
    rintro v w' ⟨rfl, rfl⟩
    rw [k2]
    (refine Ga ?_)
    have cA := c_Used pa ma eA (by omega) _ hda7
    (apply Lst_call; (focus rfl); (focus rfl))
    refine cA.mono ?_
    clear cA
    rintro r w8 ⟨rfl, hb8⟩
    have hd8 := hdb7.below hb8
    have b8 := b7.trans (hb8.mono b7.size)
    clear hdb7 hb8
    (refine Ga ?_)
    have cA := c_Used pb mm eB (by omega) _ hd8
    rw [k4] at cA
    (apply Lst_call; (focus rfl); (focus rfl))
    refine cA.mono ?_
    clear cA
    rintro r w9 ⟨rfl, hb9⟩
    have b9 := b8.trans (hb9.mono b8.size)
    (refine Ga ?_)
    (apply retQ1; (focus rfl))
    exact ⟨rfl, b9⟩
end Dk
end Go.Proofs.Ytgcklcpbmlibdaa
