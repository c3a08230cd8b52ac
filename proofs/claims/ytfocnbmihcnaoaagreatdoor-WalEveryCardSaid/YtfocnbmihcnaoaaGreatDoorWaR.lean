/- (*Log).Restart. -/
import Derived.Test.YtfocnbmihcnaoaaGreatDoorWaS
namespace Go.Proofs.YtfocnbmihcnaoaaGreatDoor
set_option maxRecDepth 100000
namespace Wa
open Go Go.RowKit Sx Wire Dk
/-- Deletes, one behind the other, till the power fails. -/
def delM (d : Dsk) : List ByteArray → Int × Dsk
  | [] => (0, d)
  | n :: r => if (d.delete n).1 = 43 then (43, (d.delete n).2) else delM (d.delete n).2 r
/-- A new beginning is made. -/
def make3 (g : Lg) (d : Dsk) (b : List UInt8) : Int × Dsk :=
  let s1 := d.append (fresh g.name) (rec1 0 b)
  let s2 := if s1.1 = 0 then s1.2.sync (fresh g.name) else s1
  if s2.1 = 0 then s2.2.rename (fresh g.name) (nm g.name (g.age + 1) 0) else s2
def Lg.anew (g : Lg) (b : List UInt8) : Lg := { g with age := g.age + 1, files := [nm g.name (g.age + 1) 0], size := 20 + b.length, recs := 1, dirty := [] }
def Lg.restart (g : Lg) (d : Dsk) (b : List UInt8) : Int × Lg × Dsk :=
  if (g.fell d).dead = true then (43, g.fell d, d)
  else if (make3 g d b).1 = 0 then ((delM (make3 g d b).2 g.files).1, { g.anew b with dead := decide ((delM (make3 g d b).2 g.files).1 = 43) }, (delM (make3 g d b).2 g.files).2)
  else ((make3 g d b).1, { g with dead := decide ((make3 g d b).1 = 43) }, ((make3 g d b).2.delete (fresh g.name)).2)
theorem cut_delete (d : Dsk) (n : ByteArray) : (d.delete n).2.cut ≤ d.cut := by
  unfold Dsk.delete
  split
  · exact cut_done { d with es := Sx.del d.es n }
  · exact Int.le_refl _
theorem cut_append (d : Dsk) (n : ByteArray) (b : List UInt8) : (d.append n b).2.cut ≤ d.cut := by
  unfold Dsk.append
  split
  · exact Int.le_refl _
  · split
    · split
      · exact Int.le_refl _
      · exact cut_done { d with es := Sx.put d.es n ⟨(d.file n).b ++ b, (d.file n).safe⟩ }
    · exact Int.le_refl _
theorem cut_rename (d : Dsk) (a b : ByteArray) : (d.rename a b).2.cut ≤ d.cut := by
  unfold Dsk.rename
  split
  · split
    · exact cut_done { d with es := Sx.put (Sx.del d.es a) b (d.file a) }
    · exact Int.le_refl _
  · exact Int.le_refl _
theorem used_look : ∀ (es : List (ByteArray × Fl)) (n : ByteArray) (f : Fl), Sx.look es n = some f → f.b.length ≤ used es
  | [], _, _, h => by cases h
  | (k, f') :: es, n, f, h => by
    unfold Sx.look at h
    unfold used
    dsimp only at h ⊢
    split at h
    · cases h
      omega
    · have := used_look es n f h
      omega
theorem file_used (d : Dsk) (n : ByteArray) : (d.file n).b.length ≤ used d.es := by
  unfold Dsk.file
  cases h : Sx.look d.es n with
  | none => exact Nat.zero_le _
  | some f => exact used_look _ _ _ h
theorem By.chg {bs : List Nat} {w w' : World} {v : Value} {l : List UInt8} (h : By w v l) (hc : Chg bs w w') (h8 : ∀ b ∈ bs, Dk.N8 w b) : By w' v l := by
  rcases h with h | h
  · exact .inl (Dk.Ints.chg h hc h8)
  · exact .inr h
/-- The world that all began with, and where we are. -/
structure Base (W0 w : World) : Prop where
  env : Env W0
  low : Below W0.heap.size W0 w
theorem Base.now {W0 w : World} (h : Base W0 w) : Env w := h.env.below h.low
theorem Base.below {W0 w w' : World} (h : Base W0 w) (hb : Below w.heap.size w w') : Base W0 w' := ⟨h.env, Sx.Below.after (w := W0) h.low hb⟩
theorem Base.chg {W0 w w' : World} {bs : List Nat} (h : Base W0 w) (hc : Chg bs w w') (hb : ∀ b ∈ bs, W0.heap.size ≤ b) : Base W0 w' := ⟨h.env, h.low.trans (hc.below hb h.low.size)⟩
section
attribute [local irreducible] RnS RnT
attribute [local irreducible] W Lst Qst Pu seqQ blkQ rndQ cutQ retQ Does Enters IntKind.wrap bits sb World.alloc World.putObj Blk
theorem c_LRestart (lb p mb : Nat) (fv dv : Value) (g : Lg) (d : Dsk) (v0 : Value) (b : List UInt8) (hbl : b.length ≤ 1048576) (hc : d.cut < 9223372036854775808) (hu : used d.es ≤ 1000000000) (hnm : g.name.length ≤ 100) (ha : g.age < 1000000000) (hl : g.files.length ≤ 1000000) (W0 w : World) (hE : Base W0 w) (hlb : W0.heap.size ≤ lb) (h : LgAt w lb p fv dv g) (hd : DkAt w p mb d) (hv : By w v0 b) :
    Does Tryz.prog 12 #[.pointer (some ⟨lb, 0, none⟩), v0] w fun v w' => v = .int .i64 (g.restart d b).1 ∧ ∃ fv' dv', LgAt w' lb p fv' dv' (g.restart d b).2.1 ∧ DkAt w' p mb (g.restart d b).2.2 ∧ Chg [lb, p, mb] w w' ∧ ((fv' = fv ∧ dv' = dv) ∨ ∀ k ∈ rowsOf fv' dv', w.heap.size ≤ k) := by
  obtain ⟨a0, c0, rfl⟩ := hv.form
  refine Does_of (args := [.pointer (some ⟨lb, 0, none⟩), .slice a0 b.length c0]) Tryz.func12 (by kernel_rfl) rfl rfl rfl rfl rfl ?_
  (refine Ga ?_)
  (apply Lst_call; (focus rfl); (focus rfl))
  refine (c_fell lb p mb fv dv g d w h hd).mono ?_
  rintro v w1 ⟨rfl, h1, hd1, hc1⟩
  have c1 : Chg [lb, p, mb] w w1 := hc1.mono (by simp)
  unfold Lg.restart
  cases hdead : (g.fell d).dead with
  | true =>
    rw [if_pos rfl]
    (refine Ga ?_)
    (apply retQ1; (focus rfl))
    exact ⟨rfl, fv, dv, h1, hd1, c1, .inl ⟨rfl, rfl⟩⟩
  | false =>
    rw [if_neg (by simp)]
    have eg : g.fell d = { g with dead := false } := by
      have : (g.fell d) = { g with dead := (g.fell d).dead } := rfl
      rw [this, hdead]
    rw [eg] at h1
    have hE1 : Base W0 w1 := hE.chg hc1 (by simpa using hlb)
    have hv1 : By w1 (.slice a0 b.length c0) b := By.chg hv hc1 (fun k hk => h.n8 k (by rw [List.mem_singleton.1 hk]; simp))
    (refine Ga ?_)
    (apply Lst_call; (focus rfl); (focus rfl))
    refine (c_framed 0 (by decide) _ b (by have := cut_append d (fresh g.name) (rec1 0 b); omega) w1 hv1).mono ?_
    rintro v w2 ⟨hi2, ⟨a2, c2, rfl⟩, hb2⟩
    have h2 := h1.below hb2
    have hd2 := hd1.below hb2
    have hE2 := hE1.below hb2
    obtain ⟨fa, fc, rfl, _⟩ := h2.files.form
    obtain ⟨da, dc, rfl, _⟩ := h2.dirty.form
    have hB := h2.blk
    unfold lcs at hB
    have hlt := hB.lt
    dsimp only at hB
    have hw1 : arith .add .u64 (g.age : Int) 1 = ((g.age + 1 : Nat) : Int) := wu64 (by have := cut_append d (fresh g.name) (rec1 0 b); omega) (by have := cut_append d (fresh g.name) (rec1 0 b); omega)
    (refine Ga ?_)
    refine W_calm ?_
    refine W_drawS 17 (fun A => Below w2.heap.size w2 A) rfl rfl ?_
    have hS : Below w2.heap.size w2 w2.drew := Below.drew (Below.refl _ _)
    refine S_takeV 0 16 rfl (by kernel_rfl) calm_no hS ?_
    (refine Qb ?_)
    refine S_takeV 1 15 rfl (by kernel_rfl) calm_no hS ?_
    (refine Qb ?_)
    refine S_takeV 2 14 rfl (by kernel_rfl) calm_no hS ?_
    (refine Qb ?_)
    refine S_takeV 3 13 rfl (by kernel_rfl) calm_no hS ?_
    (refine Qb ?_)
    refine S_takeV 4 12 rfl (by kernel_rfl) calm_no hS ?_
    apply Qst_pu
    · apply P_saddB (p := g.name) (q := [126])
      focus rfl
      focus rfl
      focus (simp only [List.length_cons, List.length_nil]; omega)
    focus rfl
    (refine Qb ?_)
    refine S_takeV 5 11 rfl (by kernel_rfl) calm_no hS ?_
    (refine Qb ?_)
    refine S_takeV 6 10 rfl (by kernel_rfl) calm_no hS ?_
    (refine Qb ?_)
    refine S_takeV 7 9 rfl (by kernel_rfl) calm_no hS ?_
    (refine Qb ?_)
    refine S_takeV 8 8 rfl (by kernel_rfl) calm_no hS ?_
    (refine Qb ?_)
    refine S_takeV 9 7 rfl (by kernel_rfl) calm_no hS ?_
    (refine Qb ?_)
    refine S_takeV 10 6 rfl (by kernel_rfl) calm_no hS ?_
    (refine Qb ?_)
    refine S_takeV 11 5 rfl (by kernel_rfl) calm_no hS ?_
    (refine Qb ?_)
    refine S_takeV 12 4 rfl (by kernel_rfl) calm_no hS ?_
    (refine Qb ?_)
    refine S_takeV 13 3 rfl (by kernel_rfl) calm_no hS ?_
    (refine Qb ?_)
    refine S_any [14] 2 rfl (by kernel_rfl) (all1 ?_)
    (apply Lst_call; (focus rfl); (focus rfl))
    refine (c_file g.name (g.age + 1) 0 hnm (by have := cut_append d (fresh g.name) (rec1 0 b); omega) (by have := cut_append d (fresh g.name) (rec1 0 b); omega) _ (hE2.below hS).now).mono ?_
    rintro v w3 ⟨rfl, hb3⟩
    have hS2 := Sx.Below.after (w := w2) hS hb3
    apply Lst_nil
    apply rnQ_n
    refine ⟨hS2, ?_⟩
    clear hS
    have hS := hS2
    clear hS2
    refine S_takeV 15 1 rfl (by kernel_rfl) calm_no hS ?_
    (refine Qb ?_)
    refine S_takeV 16 0 rfl (by kernel_rfl) calm_no hS ?_
    (refine Qb ?_)
    refine S_done (by kernel_rfl) ?_
    refine calm_n ?_
    have hL3 := h2.below hS
    have hD3 := hd2.below hS
    have c3 : Chg [lb, p, mb] w w3 := c1.trans (.of (Sx.Below.after (w := w1) hb2 hS))
    have hB3 := hL3.blk
    unfold lcs at hB3
    dsimp only at hB3
    have hi3 := Ints.below hi2 hS (Nat.le_refl _)
    clear hB
    (refine Ga ?_)
    (apply Lst_call; (focus rfl); (focus rfl))
    refine (c_Append p mb d hc (fresh g.name) _ (rec1 0 b) (by rw [rec_len]; omega) (Nat.le_trans (file_used d _) (by have := cut_append d (fresh g.name) (rec1 0 b); omega)) w3 hD3 hi3).mono ?_
    rintro v wA4 ⟨rfl, hDA4, hcA4⟩
    have hk4 := hL3.disk hD3
    have hLA4 := hL3.chg hcA4 hk4.1 hk4.2
    (refine Ga ?_)
    (apply Lst_call; (focus rfl); (focus rfl))
    refine (c_may lb p mb _ _ _ _ (d.append (fresh g.name) (rec1 0 b)).1 wA4 hLA4 hDA4).mono ?_
    rintro v w4 ⟨rfl, hL4, hD4, hcB4⟩
    have c4 : Chg [lb, p, mb] w w4 := (c3.trans (hcA4.mono (by simp))).trans (hcB4.mono (by simp))
    have q1 := cut_append d (fresh g.name) (rec1 0 b)
    by_cases he : ¬ (d.append (fresh g.name) (rec1 0 b)).1 = 0
    · have em : make3 g d b = ((d.append (fresh g.name) (rec1 0 b)).1, (d.append (fresh g.name) (rec1 0 b)).2) := by
        unfold make3
        simp only [if_neg he]
      rw [em, if_neg he]
      have eg2 : Lg.may { g with dead := false } (d.append (fresh g.name) (rec1 0 b)).1 = { g with dead := decide ((d.append (fresh g.name) (rec1 0 b)).1 = 43) } := by
        unfold Lg.may
        rw [Bool.false_or]
      rw [eg2] at hL4
      have hB4 := hL4.blk
      unfold lcs at hB4
      dsimp only at hB4
      have hne0 : ¬ (d.append (fresh g.name) (rec1 0 b)).1 = 0 := he
      generalize hEE : (d.append (fresh g.name) (rec1 0 b)).1 = E0 at *
      (refine Ga ?_)
      (apply Lst_call; (focus rfl); (focus rfl))
      refine (c_Delete p mb (d.append (fresh g.name) (rec1 0 b)).2 (by have := cut_append d (fresh g.name) (rec1 0 b); omega) (fresh g.name) _ hD4).mono ?_
      rintro v w9 ⟨rfl, hD9, hc9⟩
      have hk9 := hL4.disk hD4
      have hL9 := hL4.chg hc9 hk9.1 hk9.2
      (refine Ga ?_)
      (apply retQ1; (focus rfl))
      exact ⟨rfl, _, _, hL9, hD9, c4.trans (hc9.mono (by simp)), .inl ⟨rfl, rfl⟩⟩
    have e4 := Classical.not_not.1 he
    clear he
    have he := e4
    have eg2 : Lg.may { g with dead := false } (d.append (fresh g.name) (rec1 0 b)).1 = { g with dead := false } := by
      unfold Lg.may
      rw [he]
      rfl
    rw [eg2] at hL4
    have hB4 := hL4.blk
    unfold lcs at hB4
    dsimp only at hB4
    rw [he]
    clear eg2
    (refine Ga ?_)
    (apply Lst_call; (focus rfl); (focus rfl))
    refine (c_Sync p mb (d.append (fresh g.name) (rec1 0 b)).2 (by have := cut_append d (fresh g.name) (rec1 0 b); omega) (fresh g.name) _ hD4).mono ?_
    rintro v wA5 ⟨rfl, hDA5, hcA5⟩
    have hk5 := hL4.disk hD4
    have hLA5 := hL4.chg hcA5 hk5.1 hk5.2
    (refine Ga ?_)
    (apply Lst_call; (focus rfl); (focus rfl))
    refine (c_may lb p mb _ _ _ _ ((d.append (fresh g.name) (rec1 0 b)).2.sync (fresh g.name)).1 wA5 hLA5 hDA5).mono ?_
    rintro v w5 ⟨rfl, hL5, hD5, hcB5⟩
    have c5 : Chg [lb, p, mb] w w5 := (c4.trans (hcA5.mono (by simp))).trans (hcB5.mono (by simp))
    have q2 := cut_sync (d.append (fresh g.name) (rec1 0 b)).2 (fresh g.name)
    clear he
    by_cases he : ¬ ((d.append (fresh g.name) (rec1 0 b)).2.sync (fresh g.name)).1 = 0
    · have em : make3 g d b = (((d.append (fresh g.name) (rec1 0 b)).2.sync (fresh g.name)).1, ((d.append (fresh g.name) (rec1 0 b)).2.sync (fresh g.name)).2) := by
        unfold make3
        simp only [if_pos e4, if_neg he]
      rw [em, if_neg he]
      have eg2 : Lg.may { g with dead := false } ((d.append (fresh g.name) (rec1 0 b)).2.sync (fresh g.name)).1 = { g with dead := decide (((d.append (fresh g.name) (rec1 0 b)).2.sync (fresh g.name)).1 = 43) } := by
        unfold Lg.may
        rw [Bool.false_or]
      rw [eg2] at hL5
      have hB5 := hL5.blk
      unfold lcs at hB5
      dsimp only at hB5
      have hne0 : ¬ ((d.append (fresh g.name) (rec1 0 b)).2.sync (fresh g.name)).1 = 0 := he
      generalize hEE : ((d.append (fresh g.name) (rec1 0 b)).2.sync (fresh g.name)).1 = E0 at *
      (refine Ga ?_)
      (apply Lst_call; (focus rfl); (focus rfl))
      refine (c_Delete p mb ((d.append (fresh g.name) (rec1 0 b)).2.sync (fresh g.name)).2 (by have := cut_append d (fresh g.name) (rec1 0 b); omega) (fresh g.name) _ hD5).mono ?_
      rintro v w9 ⟨rfl, hD9, hc9⟩
      have hk9 := hL5.disk hD5
      have hL9 := hL5.chg hc9 hk9.1 hk9.2
      (refine Ga ?_)
      (apply retQ1; (focus rfl))
      exact ⟨rfl, _, _, hL9, hD9, c5.trans (hc9.mono (by simp)), .inl ⟨rfl, rfl⟩⟩
    have e5 := Classical.not_not.1 he
    clear he
    have he := e5
    have eg2 : Lg.may { g with dead := false } ((d.append (fresh g.name) (rec1 0 b)).2.sync (fresh g.name)).1 = { g with dead := false } := by
      unfold Lg.may
      rw [he]
      rfl
    rw [eg2] at hL5
    have hB5 := hL5.blk
    unfold lcs at hB5
    dsimp only at hB5
    rw [he]
    clear eg2
    (refine Ga ?_)
    (apply Lst_call; (focus rfl); (focus rfl))
    refine (c_Rename p mb ((d.append (fresh g.name) (rec1 0 b)).2.sync (fresh g.name)).2 (by have := cut_append d (fresh g.name) (rec1 0 b); omega) (fresh g.name) (nm g.name (g.age + 1) 0) _ hD5).mono ?_
    rintro v wA6 ⟨rfl, hDA6, hcA6⟩
    have hk6 := hL5.disk hD5
    have hLA6 := hL5.chg hcA6 hk6.1 hk6.2
    (refine Ga ?_)
    (apply Lst_call; (focus rfl); (focus rfl))
    refine (c_may lb p mb _ _ _ _ (((d.append (fresh g.name) (rec1 0 b)).2.sync (fresh g.name)).2.rename (fresh g.name) (nm g.name (g.age + 1) 0)).1 wA6 hLA6 hDA6).mono ?_
    rintro v w6 ⟨rfl, hL6, hD6, hcB6⟩
    have c6 : Chg [lb, p, mb] w w6 := (c5.trans (hcA6.mono (by simp))).trans (hcB6.mono (by simp))
    have q3 := cut_rename ((d.append (fresh g.name) (rec1 0 b)).2.sync (fresh g.name)).2 (fresh g.name) (nm g.name (g.age + 1) 0)
    clear he
    by_cases he : ¬ (((d.append (fresh g.name) (rec1 0 b)).2.sync (fresh g.name)).2.rename (fresh g.name) (nm g.name (g.age + 1) 0)).1 = 0
    · have em : make3 g d b = ((((d.append (fresh g.name) (rec1 0 b)).2.sync (fresh g.name)).2.rename (fresh g.name) (nm g.name (g.age + 1) 0)).1, (((d.append (fresh g.name) (rec1 0 b)).2.sync (fresh g.name)).2.rename (fresh g.name) (nm g.name (g.age + 1) 0)).2) := by
        unfold make3
        simp only [if_pos e4, if_pos e5]
      rw [em, if_neg he]
      have eg2 : Lg.may { g with dead := false } (((d.append (fresh g.name) (rec1 0 b)).2.sync (fresh g.name)).2.rename (fresh g.name) (nm g.name (g.age + 1) 0)).1 = { g with dead := decide ((((d.append (fresh g.name) (rec1 0 b)).2.sync (fresh g.name)).2.rename (fresh g.name) (nm g.name (g.age + 1) 0)).1 = 43) } := by
        unfold Lg.may
        rw [Bool.false_or]
      rw [eg2] at hL6
      have hB6 := hL6.blk
      unfold lcs at hB6
      dsimp only at hB6
      have hne0 : ¬ (((d.append (fresh g.name) (rec1 0 b)).2.sync (fresh g.name)).2.rename (fresh g.name) (nm g.name (g.age + 1) 0)).1 = 0 := he
      generalize hEE : (((d.append (fresh g.name) (rec1 0 b)).2.sync (fresh g.name)).2.rename (fresh g.name) (nm g.name (g.age + 1) 0)).1 = E0 at *
      (refine Ga ?_)
      (apply Lst_call; (focus rfl); (focus rfl))
      refine (c_Delete p mb (((d.append (fresh g.name) (rec1 0 b)).2.sync (fresh g.name)).2.rename (fresh g.name) (nm g.name (g.age + 1) 0)).2 (by have := cut_append d (fresh g.name) (rec1 0 b); omega) (fresh g.name) _ hD6).mono ?_
      rintro v w9 ⟨rfl, hD9, hc9⟩
      have hk9 := hL6.disk hD6
      have hL9 := hL6.chg hc9 hk9.1 hk9.2
      (refine Ga ?_)
      (apply retQ1; (focus rfl))
      exact ⟨rfl, _, _, hL9, hD9, c6.trans (hc9.mono (by simp)), .inl ⟨rfl, rfl⟩⟩
    have e6 := Classical.not_not.1 he
    clear he
    have he := e6
    have eg2 : Lg.may { g with dead := false } (((d.append (fresh g.name) (rec1 0 b)).2.sync (fresh g.name)).2.rename (fresh g.name) (nm g.name (g.age + 1) 0)).1 = { g with dead := false } := by
      unfold Lg.may
      rw [he]
      rfl
    rw [eg2] at hL6
    have hB6 := hL6.blk
    unfold lcs at hB6
    dsimp only at hB6
    rw [he]
    clear eg2
    have em : make3 g d b = ((((d.append (fresh g.name) (rec1 0 b)).2.sync (fresh g.name)).2.rename (fresh g.name) (nm g.name (g.age + 1) 0)).1, (((d.append (fresh g.name) (rec1 0 b)).2.sync (fresh g.name)).2.rename (fresh g.name) (nm g.name (g.age + 1) 0)).2) := by
      unfold make3
      simp only [if_pos e4, if_pos e5]
    rw [em, if_pos e6]
    clear em
    have hw1 : arith .add .u64 (g.age : Int) 1 = ((g.age + 1 : Nat) : Int) := wu64 (by have := cut_append d (fresh g.name) (rec1 0 b); omega) (by have := cut_append d (fresh g.name) (rec1 0 b); omega)
    (refine Ga ?_)
    refine Lst_abs (fun A => Blk A lb [.pointer (some ⟨p, 0, none⟩), .string (bs g.name), .int .i64 g.seg, .int .u64 ((g.age + 1 : Nat) : Int), .slice fa g.files.length fc, .int .i64 (g.size : Int), .int .i64 (g.recs : Int), .slice da g.dirty.length dc, .bool false] 53 ∧ Chg [lb] w6 A) ⟨Blk.put_same hL6.blk.lt _ _, chg1 _⟩ ?_
    rintro w7 ⟨k7, c7⟩
    (apply Lst_slit; (focus rfl); (focus rfl); (focus rfl); (focus rfl); (focus rfl); (focus rfl); (focus rfl); (focus rfl); (focus rfl); (focus (repeat (first | apply FillO.nil | (apply FillO.cons; (focus constructor); (focus rfl); (focus rfl); (focus (repeat constructor)))))); (focus ((try simp only [Sx.sizes]); first | done | rfl)); (focus rfl))
    have kN := Blk.newE (w := w7) (b := w7.heap.size) rfl [.string (nm g.name (g.age + 1) 0)] 9
    refine Lst_abs (fun A => Blk A lb [.pointer (some ⟨p, 0, none⟩), .string (bs g.name), .int .i64 g.seg, .int .u64 ((g.age + 1 : Nat) : Int), .slice fa g.files.length fc, .int .i64 (g.size : Int), .int .i64 (g.recs : Int), .slice da g.dirty.length dc, .bool false] 53 ∧ Blk A w7.heap.size [.string (nm g.name (g.age + 1) 0)] 9 ∧ Chg [lb] w6 A) ⟨k7.alloc _, kN, c7.alloc _⟩ ?_
    clear kN
    rintro w8 ⟨k8, kn8, c8⟩
    have l8 := k8.lt
    have s7 := c7.size
    have hlb6 := hL6.blk.lt
    (refine Ga ?_)
    obtain ⟨N, hN⟩ : ∃ N, w7.heap.size = N := ⟨_, rfl⟩
    rw [hN] at kn8 s7 ⊢
    have hnl : N ≠ lb := by omega
    obtain ⟨G, hG⟩ : ∃ G : Lg, G = { g.anew b with dead := false } := ⟨_, rfl⟩
    refine W_abs (fun A => Blk A lb (lcs p (.slice (some ⟨N, 0, none⟩) 1 1) (.slice none 0 0) G) 53 ∧ Blk A N [.string (nm g.name (g.age + 1) 0)] 9 ∧ Chg [lb] w6 A) ⟨?_, ?_, ?_⟩ ?_
    · rw [hG]
      exact Blk.put_same (by simp only [World.putObj_size]; exact l8) _ _
    · exact Blk.put_ne hnl (Blk.put_ne hnl (Blk.put_ne hnl (Blk.put_ne hnl kn8)))
    · exact (((c8.put (.inl (by simp)) _).put (.inl (by simp)) _).put (.inl (by simp)) _).put (.inl (by simp)) _
    rintro w9 ⟨k9, kn9, c9⟩
    have hne6 := hL6.ne.1
    have hdk6 := hL6.disk hD6
    have hrow : ∀ k, (Value.slice fa g.files.length fc).ownBlock = some k → k ≠ lb ∧ k ∉ [p, mb] := fun k hk => ⟨fun e => hne6 (by rw [hk, e]), hdk6.2 k (List.mem_append.2 (.inl (by rw [hk]; simp)))⟩
    have hF9 : NmO w9 (.slice fa g.files.length fc) g.files := hL6.files.keep fun k hk => c9.block k (hL6.files.lt hk) (by simpa using (hrow k hk).1)
    have hD9 := dk_log hD6 hL6 (c9.mono (by simp))
    have hL9 : LgAt w9 lb p (.slice (some ⟨N, 0, none⟩) 1 1) (.slice none 0 0) G := by
      refine ⟨k9, ?_, ?_, fun k _ e => by cases e⟩
      · rw [hG]
        exact .inr ⟨N, 0, 1, [.string (nm g.name (g.age + 1) 0)], rfl, kn9, Nat.le_refl _, by simp only [maxLen]; omega, Nat.le_refl _, rfl, fun u hu => ⟨_, List.mem_singleton.1 hu⟩⟩
      · rw [hG]
        exact NmO.nil _
    have cc9 : Chg [lb, p, mb] w w9 := c6.trans (c9.mono (by simp))
    have hNw : w.heap.size ≤ N := Nat.le_trans c6.size s7
    have eG : ∀ e, G.may e = { g.anew b with dead := decide (e = 43) } := fun e => by
      rw [hG]
      unfold Lg.may
      rw [Bool.false_or]
    have hdF : Lg.mk G.name G.seg G.age G.files G.size G.recs G.dirty false = G := by rw [hG]
    generalize (((d.append (fresh g.name) (rec1 0 b)).2.sync (fresh g.name)).2.rename (fresh g.name) (nm g.name (g.age + 1) 0)).2 = D3 at *
    refine W_loop (α := Nat × Dsk) (fun x => [(0, .pointer (some ⟨lb, 0, none⟩)), (103, .slice fa g.files.length fc), (104, .int .i64 (g.files.length : Int)), (105, .int .i64 (x.1 : Int))])
      (fun x A => x.1 ≤ g.files.length ∧ LgAt A lb p (.slice (some ⟨N, 0, none⟩) 1 1) (.slice none 0 0) G ∧ DkAt A p mb x.2 ∧ NmO A (.slice fa g.files.length fc) g.files ∧ delM x.2 (g.files.drop x.1) = delM D3 g.files ∧ x.2.cut < 9223372036854775808 ∧ Chg [lb, p, mb] w A) (fun x _ => g.files.length - x.1) (0, D3) ⟨Nat.zero_le _, hL9, hD9, hF9, rfl, by dsimp only; omega, cc9⟩ ⟨rfl, rfl, rfl, rfl, trivial⟩ ?_
    rintro J ⟨i, d2⟩ A ⟨hi, hL, hD, hF, hM, hcut, hch⟩
    dsimp only at hi hL hD hM hcut ⊢
    have hB := hL.blk
    unfold lcs at hB
    have hlt := hB.lt
    by_cases hil : i < g.files.length
    · obtain ⟨gb, go, rfl⟩ := hF.some (by intro e; rw [e] at hil; exact absurd hil (Nat.not_lt_zero _))
      have hx := NmO.at hF hil
      have hdr : g.files.drop i = g.files[i] :: g.files.drop (i + 1) := List.drop_eq_getElem_cons hil
      generalize g.files[i] = n at *
      (refine Ga ?_)
      (apply Lst_call; (focus rfl); (focus rfl))
      refine (c_Delete p mb d2 hcut n _ hD).mono ?_
      rintro v wA ⟨rfl, hDA, hcA⟩
      have hk := hL.disk hD
      have hLA := hL.chg hcA hk.1 hk.2
      (refine Ga ?_)
      (apply Lst_call; (focus rfl); (focus rfl))
      refine (c_may lb p mb _ _ _ _ (d2.delete n).1 wA hLA hDA).mono ?_
      rintro v wB ⟨rfl, hLB, hDB, hcB⟩
      have cB : Chg [lb, p, mb] w wB := (hch.trans (hcA.mono (by simp))).trans (hcB.mono (by simp))
      rw [eG] at hLB
      by_cases e43 : (d2.delete n).1 = 43
      · have hr : delM D3 g.files = (43, (d2.delete n).2) := by
          rw [← hM, hdr]
          unfold delM
          rw [if_pos e43]
        rw [hr]
        rw [e43] at hLB ⊢
        (refine Ga ?_)
        (apply retQ1; (focus rfl))
        exact ⟨rfl, _, _, hLB, hDB, cB, .inr (fun k hk => by
          have : k = N := by simpa [rowsOf, Value.ownBlock] using hk
          omega)⟩
      · have hM2 : delM (d2.delete n).2 (g.files.drop (i + 1)) = delM D3 g.files := by
          rw [← hM, hdr]
          conv => rhs; unfold delM
          rw [if_neg e43]
        rw [decide_eq_false e43, ← hG] at hLB
        have hFB : NmO wB (.slice (some ⟨gb, go, none⟩) g.files.length fc) g.files := (hF.keep fun k hk => hcA.block k (hF.lt hk) (hrow k hk).2).keep fun k hk => hcB.block k (Nat.lt_of_lt_of_le (hF.lt hk) hcA.size) (by simpa using (hrow k hk).1)
        (refine Ga ?_)
        refine rndQ_n (α := Nat × Dsk) (i + 1, (d2.delete n).2) ⟨hil, hLB, hDB, hFB, hM2, ?_, cB⟩ ⟨rfl, rfl, rfl, ?_, trivial⟩ (by dsimp only; omega)
        · have := cut_delete d2 n
          dsimp only
          omega
        · exact congrArg (Value.int .i64) (by dsimp only; omega)
    · have hr : delM D3 g.files = (0, d2) := by
        rw [← hM, List.drop_of_length_le (by omega)]
        rfl
      rw [hr]
      (refine Ga ?_)
      (apply retQ1; (focus rfl))
      rw [hG] at hL
      exact ⟨rfl, _, _, hL, hD, hch, .inr (fun k hk => by
        have : k = N := by simpa [rowsOf, Value.ownBlock] using hk
        omega)⟩
end
end Wa
end Go.Proofs.YtfocnbmihcnaoaaGreatDoor
