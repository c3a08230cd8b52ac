/- (*Log).Append. -/
import Derived.Test.YtfocnbmihcnaoaaGreatDoorWaQ
namespace Go.Proofs.YtfocnbmihcnaoaaGreatDoor
set_option maxRecDepth 100000
namespace Wa
open Go Go.RowKit Sx Wire Dk
/-- One name more, if it is not there. -/
noncomputable def addN (L : List ByteArray) (n : ByteArray) : List ByteArray := @ite _ (n ∈ L) (Classical.propDecidable _) L (L ++ [n])
/-- Does a new segment begin? -/
def newSeg (g : Lg) (b : List UInt8) : Bool := decide (g.files.length = 0) || decide (g.seg ≤ (g.size : Int)) || decide (4194304 < g.size + (20 + b.length))
def Lg.seg1 (g : Lg) (b : List UInt8) : List ByteArray × Nat := if newSeg g b = true then (g.files ++ [nm g.name g.age g.files.length], 0) else (g.files, g.size)
def Lg.last1 (g : Lg) (b : List UInt8) : ByteArray := ((g.seg1 b).1[(g.seg1 b).1.length - 1]?).getD ⟨#[]⟩
theorem seg1_pos (g : Lg) (b : List UInt8) : 0 < (g.seg1 b).1.length := by
  unfold Lg.seg1
  split
  · simp
  · rename_i h
    unfold newSeg at h
    simp only [Bool.or_eq_true, decide_eq_true_eq] at h
    dsimp only
    omega
theorem seg1_len (g : Lg) (b : List UInt8) : (g.seg1 b).1.length ≤ g.files.length + 1 := by
  unfold Lg.seg1
  split
  · simp
  · dsimp only
    omega
theorem seg1_size (g : Lg) (b : List UInt8) : (g.seg1 b).2 ≤ g.size := by
  unfold Lg.seg1
  split
  · exact Nat.zero_le _
  · exact Nat.le_refl _
theorem seg1_take (g : Lg) (b : List UInt8) : (g.seg1 b).1.take g.files.length = g.files ∧ g.files.length ≤ (g.seg1 b).1.length := by
  unfold Lg.seg1
  split
  · exact ⟨List.take_left' rfl, by simp⟩
  · exact ⟨List.take_of_length_le (Nat.le_refl _), Nat.le_refl _⟩
theorem addN_in {L : List ByteArray} {n : ByteArray} (h : n ∈ L) : addN L n = L := by
  unfold addN
  rw [if_pos h]
theorem addN_out {L : List ByteArray} {n : ByteArray} (h : ¬ n ∈ L) : addN L n = L ++ [n] := by
  unfold addN
  rw [if_neg h]
def CellB (A : World) (h lb p : Nat) : Prop := A.cell? ⟨h, 0, none⟩ = some (.pointer (some ⟨lb, 0, none⟩)) ∧ A.cell? ⟨lb, 0, none⟩ = some (.pointer (some ⟨p, 0, none⟩))
noncomputable def Lg.append (g : Lg) (d : Dsk) (b : List UInt8) : Int × Lg × Dsk :=
  if (g.fell d).dead = true then (43, g.fell d, d)
  else if 1048576 < b.length then (50, g.fell d, d)
  else if (d.append (g.last1 b) (rec1 g.recs b)).1 = 0 then (0, { g with files := (g.seg1 b).1, size := (g.seg1 b).2 + (20 + b.length), recs := g.recs + 1, dirty := addN g.dirty (g.last1 b), dead := false }, (d.append (g.last1 b) (rec1 g.recs b)).2)
  else ((d.append (g.last1 b) (rec1 g.recs b)).1, { g with dead := decide ((d.append (g.last1 b) (rec1 g.recs b)).1 = 43) }, (d.append (g.last1 b) (rec1 g.recs b)).2)
/-- The boxes of Append: the log, its error, how many files there were, how long the last one was. -/
structure Bx (A : World) (h lb X Y : Nat) (e : Int) (n0 s0 : Nat) : Prop where
  kb : Blk A h [.pointer (some ⟨lb, 0, none⟩)] 27
  ke : Blk A (h + 1) [.int .i64 e] 29
  kX : Blk A X [.int .i64 (n0 : Int)] 3
  kY : Blk A Y [.int .i64 (s0 : Int)] 3
structure B2 (A : World) (h lb : Nat) : Prop where
  kb : Blk A h [.pointer (some ⟨lb, 0, none⟩)] 27
  ke : Blk A (h + 1) [.int .i64 0] 29
theorem Bx.below {A A' : World} {h lb X Y n0 s0 : Nat} {e : Int} (b : Bx A h lb X Y e n0 s0) (hb : Below A.heap.size A A') : Bx A' h lb X Y e n0 s0 := ⟨b.kb.below hb b.kb.lt, b.ke.below hb b.ke.lt, b.kX.below hb b.kX.lt, b.kY.below hb b.kY.lt⟩
theorem Bx.chg {A A' : World} {h lb X Y n0 s0 : Nat} {e : Int} {bs : List Nat} (b : Bx A h lb X Y e n0 s0) (hc : Chg bs A A') (h1 : h ∉ bs) (h2 : h + 1 ∉ bs) (h3 : X ∉ bs) (h4 : Y ∉ bs) : Bx A' h lb X Y e n0 s0 := ⟨hc.blk b.kb h1, hc.blk b.ke h2, hc.blk b.kX h3, hc.blk b.kY h4⟩
theorem LgAt.out {w : World} {lb p k : Nat} {fv dv : Value} {g : Lg} {cs : List Value} {e : TypeId} (h : LgAt w lb p fv dv g) (hb : Blk w k cs e) (h1 : e ≠ 9) (h2 : e ≠ 53) : k ∉ lb :: rowsOf fv dv := fun hk => by
  have key : ∀ {cs' : List Value} {e' : TypeId}, Blk w k cs' e' → e = e' := fun hb' => by
    unfold Blk at hb hb'
    rw [hb] at hb'
    injection hb' with hb'
    injection hb'
  rcases List.mem_cons.1 hk with rfl | hk
  · exact h2 (key h.blk)
  · rcases List.mem_append.1 hk with hk | hk
    · obtain ⟨cs, hb, _⟩ := h.files.blk (show fv.ownBlock = some k by simpa using hk)
      exact h1 (key hb)
    · obtain ⟨cs, hb, _⟩ := h.dirty.blk (show dv.ownBlock = some k by simpa using hk)
      exact h1 (key hb)
theorem Chg.grown {w w' : World} {row : Option Nat} (h : w.grownBy w' row) : Chg row.toList w w' := ⟨h.os, h.tape, h.output, h.size, fun k hk hn => h.block k hk (fun e => hn (by rw [← e]; simp))⟩
theorem LgAt.fgrow {w w' : World} {lb p : Nat} {fv fv' dv : Value} {g : Lg} {L : List ByteArray} (h : LgAt w lb p fv dv g) (hg : w.grownBy w' fv.ownBlock) (hn : NmO w' fv' L) (hb : ∀ k, fv'.ownBlock = some k → fv.ownBlock = some k ∨ w.heap.size ≤ k) :
    Blk w' lb (lcs p fv dv g) 53 ∧ LgAt (w'.putObj lb (.cells (lcs p fv' dv { g with files := L }).toArray 53)) lb p fv' dv { g with files := L } := by
  have hne := h.ne
  have hlt := h.blk.lt
  have hb' : Blk w' lb (lcs p fv dv g) 53 := (hg.block lb hlt (fun e => hne.1 e.symm)).trans h.blk
  have hd : NmO w' dv g.dirty := h.dirty.keep fun k hk => hg.block k (h.dirty.lt hk) (fun e => h.apart k e.symm hk)
  refine ⟨hb', Blk.put_same hb'.lt _ _, hn.keep fun k hk => World.putObj_heap_other (fun e => ?_), hd.keep fun k hk => World.putObj_heap_other (fun e => hne.2 (by rw [hk, e])), fun k hk he => ?_⟩
  · rcases hb k hk with h2 | h2
    · exact hne.1 (by rw [h2, e])
    · omega
  · rcases hb k hk with h2 | h2
    · exact h.apart k h2 he
    · have := h.dirty.lt he
      omega
theorem LgAt.dgrow {w w' : World} {lb p : Nat} {fv dv dv' : Value} {g : Lg} {L : List ByteArray} (h : LgAt w lb p fv dv g) (hg : w.grownBy w' dv.ownBlock) (hn : NmO w' dv' L) (hb : ∀ k, dv'.ownBlock = some k → dv.ownBlock = some k ∨ w.heap.size ≤ k) :
    Blk w' lb (lcs p fv dv g) 53 ∧ LgAt (w'.putObj lb (.cells (lcs p fv dv' { g with dirty := L }).toArray 53)) lb p fv dv' { g with dirty := L } := by
  have hne := h.ne
  have hlt := h.blk.lt
  have hb' : Blk w' lb (lcs p fv dv g) 53 := (hg.block lb hlt (fun e => hne.2 e.symm)).trans h.blk
  have hd : NmO w' fv g.files := h.files.keep fun k hk => hg.block k (h.files.lt hk) (fun e => h.apart k hk e.symm)
  refine ⟨hb', Blk.put_same hb'.lt _ _, hd.keep fun k hk => World.putObj_heap_other (fun e => hne.1 (by rw [hk, e])), hn.keep fun k hk => World.putObj_heap_other (fun e => ?_), fun k hk he => ?_⟩
  · rcases hb k hk with h2 | h2
    · exact hne.2 (by rw [h2, e])
    · omega
  · rcases hb k he with h2 | h2
    · exact h.apart k hk h2
    · have := h.files.lt hk
      omega
/-- What region 9 reads, whatever turns. -/
def CellN (A : World) (h lb : Nat) (g : Lg) : Prop := A.cell? ⟨h, 0, none⟩ = some (.pointer (some ⟨lb, 0, none⟩)) ∧ A.cell? ⟨lb, 1, none⟩ = some (.string (bs g.name)) ∧ A.cell? ⟨lb, 3, none⟩ = some (.int .u64 (g.age : Int))
theorem put_blk {w : World} {b : Nat} {l : List Value} {e : TypeId} (h : Blk w b l e) : w.putObj b (.cells l.toArray e) = w := by
  unfold World.putObj
  have hw : w.heap.setIfInBounds b (.cells l.toArray e) = w.heap := by
    have hb' : w.heap[b]? = some (.cells l.toArray e (0, 0)) := h
    obtain ⟨hlt, hv⟩ := Array.getElem?_eq_some_iff.1 hb'
    apply Array.ext
    · simp
    · intro j h1 h2
      rw [Array.getElem_setIfInBounds]
      split
      · rename_i hj
        subst hj
        exact hv.symm
      · rfl
  rw [hw]
theorem dk_put {w : World} {p mb k : Nat} {d : Dsk} {e : Int} {E : TypeId} (hd : DkAt w p mb d) (hp : p ≠ k) (hm : mb ≠ k) (hb : Blk w k [.int .i64 e] E) (o : Obj) : DkAt (w.putObj k o) p mb d :=
  hd.chg (bs := [k]) (chg1 o) (by simpa using hp) (by simpa using hm) fun c hc off z hz => by
    rw [List.mem_singleton.1 hc, hb.cell] at hz
    match off, hz with
    | 0, hz => cases hz
def AppR (w : World) (lb p mb : Nat) (fv dv : Value) (r : Int × Lg × Dsk) : Value → World → Prop := fun v w' => v = .int .i64 r.1 ∧ ∃ fv' dv', LgAt w' lb p fv' dv' r.2.1 ∧ DkAt w' p mb r.2.2 ∧ Chg (foot lb p mb fv dv) w w' ∧ ∀ k ∈ rowsOf fv' dv', k ∈ rowsOf fv dv ∨ w.heap.size ≤ k
section
attribute [local irreducible] RnS RnT
attribute [local irreducible] W Lst Qst Pu seqQ blkQ rndQ cutQ retQ Does Enters IntKind.wrap bits sb World.alloc World.putObj Blk
theorem c_LAppend (lb p mb : Nat) (fv dv : Value) (g : Lg) (d : Dsk) (v0 : Value) (b : List UInt8) (hbl : b.length ≤ 50000000) (hc : d.cut < 9223372036854775808) (hu : used d.es ≤ 1000000000) (hnm : g.name.length ≤ 100) (ha : g.age < 1000000000) (hl : g.files.length ≤ 100000) (hl2 : g.dirty.length ≤ 100000) (hrs : g.recs < 1000000000) (hsz : g.size < 1000000000) (W0 w : World) (hE : Base W0 w) (hlow : ∀ k ∈ foot lb p mb fv dv, W0.heap.size ≤ k) (h0 : LgAt w lb p fv dv g) (hd : DkAt w p mb d) (hv : By w v0 b) :
    Does Tryz.prog 10 #[.pointer (some ⟨lb, 0, none⟩), v0] w (AppR w lb p mb fv dv (g.append d b)) := by
  obtain ⟨a0, c0, rfl⟩ := hv.form
  obtain ⟨fa, fc, rfl, hfc⟩ := h0.files.form
  obtain ⟨da, dc, rfl, hdc⟩ := h0.dirty.form
  refine Tries.does (Tries_of_defers (args := [.pointer (some ⟨lb, 0, none⟩), .slice a0 b.length c0]) (R := AppR w lb p mb (.slice fa g.files.length fc) (.slice da g.dirty.length dc) (g.append d b)) (K := fun _ _ => False) Tryz.func10 (by kernel_rfl) rfl rfl rfl ?_)
  have hE' : Sx.Enters Tryz.prog 25 := Sx.enters_of Tryz.func25 (by kernel_rfl) rfl
  (refine Ga ?_)
  obtain ⟨h, hh⟩ : ∃ n, w.heap.size = n := ⟨_, rfl⟩
  refine Lst_abs (fun A => B2 A h lb ∧ Below w.heap.size w A) ⟨⟨?_, ?_⟩, Bel⟩ ?_
  · rw [← hh]
    exact (by (repeat (first | assumption | (apply Blk.below (hb := hb1); rotate_left; (focus ((try simp only [Sx.sizes]); omega)); rotate_right) | (apply Blk.below (hb := hb2); rotate_left; (focus ((try simp only [Sx.sizes]); omega)); rotate_right) | (apply Blk.below (hb := hb3); rotate_left; (focus ((try simp only [Sx.sizes]); omega)); rotate_right) | (apply Blk.below (hb := hb4); rotate_left; (focus ((try simp only [Sx.sizes]); omega)); rotate_right) | (apply Blk.below (hb := hb5); rotate_left; (focus ((try simp only [Sx.sizes]); omega)); rotate_right) | (apply Blk.below (hb := hb6); rotate_left; (focus ((try simp only [Sx.sizes]); omega)); rotate_right) | (apply Blk.below (hb := hb7); rotate_left; (focus ((try simp only [Sx.sizes]); omega)); rotate_right) | (apply Blk.below (hb := hb8); rotate_left; (focus ((try simp only [Sx.sizes]); omega)); rotate_right) | (apply Blk.below (hb := hb9); rotate_left; (focus ((try simp only [Sx.sizes]); omega)); rotate_right) | exact Blk.newE (by first | rfl | ((try simp only [Sx.sizes]); first | done | omega)) _ _ | exact Blk.put_same (by (try simp only [Sx.sizes]); first | done | omega) _ _ | (apply Blk.put_ne; (focus omega)) | apply Blk.alloc | apply Blk.drew)); done)
  · rw [← hh]
    exact Blk.newE (by rw [World.size_alloc]) _ _
  rw [hh]
  rintro wa ⟨B0, ba⟩
  have hLa := h0.below (hh ▸ ba)
  have hDa := hd.below (hh ▸ ba)
  have hlbh : lb < h := hh ▸ h0.blk.lt
  have hph : p < h := hh ▸ hd.1.lt
  have hmh : mb < h := hh ▸ hd.2.lt
  have hB0 := B0.kb
  have hE0 := B0.ke
  (refine Ga ?_)
  (apply Lst_call; (focus rfl); (focus rfl))
  refine (c_fell lb p mb (.slice fa g.files.length fc) (.slice da g.dirty.length dc) g d wa hLa hDa).mono ?_
  rintro v w1 ⟨rfl, hL1, hD1, hc1⟩
  have B1 : B2 w1 h lb := ⟨hc1.blk hB0 (by simp; omega), hc1.blk hE0 (by simp; omega)⟩
  have c1 : Chg (foot lb p mb (.slice fa g.files.length fc) (.slice da g.dirty.length dc)) w w1 := (Chg.of (hh ▸ ba)).trans (hc1.mono (by simp [foot]))
  have hkb1 := B1.kb
  have hke1 := B1.ke
  have hkl := hke1.lt
  unfold Lg.append
  cases hdead : (g.fell d).dead with
  | true =>
    rw [if_pos rfl]
    have hbel : Below (h + 1) w1 (w1.putObj (h + 1) (.cells [.int .i64 43].toArray 29)) := Bel
    have hcc : Chg [h + 1] w1 (w1.putObj (h + 1) (.cells [.int .i64 43].toArray 29)) := chg1 _
    have hout := hL1.out B1.ke (by decide) (by decide)
    have hLe := hL1.chg hcc (fun e => hout (by rw [List.mem_singleton.1 e]; simp)) (fun k hk e => hout (by rw [← List.mem_singleton.1 e]; exact List.mem_cons_of_mem _ hk))
    have hDe := dk_put hD1 (by omega) (by omega) B1.ke (.cells [.int .i64 43].toArray 29)
    have hCe : Chg (foot lb p mb (.slice fa g.files.length fc) (.slice da g.dirty.length dc)) w (w1.putObj (h + 1) (.cells [.int .i64 43].toArray 29)) := Chg.trans' c1 hcc (fun k hk => .inr (by rw [List.mem_singleton.1 hk, hh]; omega))
    (refine Ga ?_)
    intro t ht hs
    have hq : retQ Tryz.prog [.cell 4 29] (AppR w lb p mb (.slice fa g.files.length fc) (.slice da g.dirty.length dc) (43, g.fell d, d)) .ret _ [] (w1.putObj (h + 1) (.cells [.int .i64 43].toArray 29)) :=
      retQ1c (F := fun i => t.getD i undef) (hs 4) Tryz.underlying29 rfl (Blk.put_same B1.ke.lt _ _) ⟨rfl, _, _, hLe, hDe, hCe, fun k hk => .inl hk⟩
    unfold retQ at hq
    obtain ⟨_, vs, hv, hR'⟩ := hq
    exact ⟨_, run_results (rs := [.cell 4 29]) rfl (by decide) (⟨ht, rfl, fun _ => rfl⟩ : Fits _ _ [] ⟨t, []⟩) hv, hR'⟩
  | false =>
    rw [if_neg (by simp)]
    by_cases hbig : 1048576 < b.length
    · rw [if_pos hbig]
      have hbel : Below (h + 1) w1 (w1.putObj (h + 1) (.cells [.int .i64 50].toArray 29)) := Bel
      have hcc : Chg [h + 1] w1 (w1.putObj (h + 1) (.cells [.int .i64 50].toArray 29)) := chg1 _
      have hout := hL1.out B1.ke (by decide) (by decide)
      have hLe := hL1.chg hcc (fun e => hout (by rw [List.mem_singleton.1 e]; simp)) (fun k hk e => hout (by rw [← List.mem_singleton.1 e]; exact List.mem_cons_of_mem _ hk))
      have hDe := dk_put hD1 (by omega) (by omega) B1.ke (.cells [.int .i64 50].toArray 29)
      have hCe : Chg (foot lb p mb (.slice fa g.files.length fc) (.slice da g.dirty.length dc)) w (w1.putObj (h + 1) (.cells [.int .i64 50].toArray 29)) := Chg.trans' c1 hcc (fun k hk => .inr (by rw [List.mem_singleton.1 hk, hh]; omega))
      (refine Ga ?_)
      intro t ht hs
      have hq : retQ Tryz.prog [.cell 4 29] (AppR w lb p mb (.slice fa g.files.length fc) (.slice da g.dirty.length dc) (50, g.fell d, d)) .ret _ [] (w1.putObj (h + 1) (.cells [.int .i64 50].toArray 29)) :=
        retQ1c (F := fun i => t.getD i undef) (hs 4) Tryz.underlying29 rfl (Blk.put_same B1.ke.lt _ _) ⟨rfl, _, _, hLe, hDe, hCe, fun k hk => .inl hk⟩
      unfold retQ at hq
      obtain ⟨_, vs, hv, hR'⟩ := hq
      exact ⟨_, run_results (rs := [.cell 4 29]) rfl (by decide) (⟨ht, rfl, fun _ => rfl⟩ : Fits _ _ [] ⟨t, []⟩) hv, hR'⟩
    rw [if_neg hbig]
    have eg : g.fell d = { g with dead := false } := by
      have : (g.fell d) = { g with dead := (g.fell d).dead } := rfl
      rw [this, hdead]
    rw [eg] at hL1
    (refine Ga ?_)
    refine Tl.W_cutS (α := Nat × Nat) (fun z => [(1, .slice a0 b.length c0), (2, .pointer (some ⟨h, 0, none⟩)), (4, .pointer (some ⟨h + 1, 0, none⟩)), (5, .pointer (some ⟨z.1, 0, none⟩)), (6, .pointer (some ⟨z.2, 0, none⟩))])
      (fun z A => Bx A h lb z.1 z.2 0 g.files.length g.size ∧ LgAt A lb p (.slice fa g.files.length fc) (.slice da g.dirty.length dc) { g with dead := false } ∧ DkAt A p mb d ∧ Chg (foot lb p mb (.slice fa g.files.length fc) (.slice da g.dirty.length dc)) w A ∧ h + 2 ≤ z.1 ∧ h + 2 ≤ z.2 ∧ z.1 ≠ z.2 ∧ Below w1.heap.size w1 A) ?_ ?_
    · have hs1 : h + 2 ≤ w1.heap.size := by omega
      refine W_calm ?_
      refine W_drawS 13 (fun A => Below w1.heap.size w1 A) rfl rfl ?_
      have hS : Below w1.heap.size w1 w1.drew := Below.drew (Below.refl _ _)
      have hb1 := hL1.blk
      unfold lcs at hb1
      dsimp only at hb1
      have hlt1 := hb1.lt
      refine S_takeV 0 12 rfl (by kernel_rfl) calm_no hS ?_
      (refine Qb ?_)
      refine S_takeV 1 11 rfl (by kernel_rfl) calm_no hS ?_
      (refine Qb ?_)
      refine S_takeV 2 10 rfl (by kernel_rfl) calm_no hS ?_
      (refine Qb ?_)
      refine S_takeV 3 9 rfl (by kernel_rfl) calm_no hS ?_
      (refine Qb ?_)
      refine S_takeL 4 8 rfl (by kernel_rfl) calm_no hS ?_
      (refine Qb ?_)
      refine S_takeV 5 7 rfl (by kernel_rfl) calm_no hS ?_
      (refine Qb ?_)
      refine S_takeV 6 6 rfl (by kernel_rfl) calm_no hS ?_
      (refine Qb ?_)
      refine S_takeV 7 5 rfl (by kernel_rfl) calm_no hS ?_
      (refine Qb ?_)
      refine S_takeV 8 4 rfl (by kernel_rfl) calm_no hS ?_
      (refine Qb ?_)
      refine S_any [9, 10] 3 rfl (by kernel_rfl) (all2 ?_ ?_)
      · (refine Ga ?_)
        have hS2 : Below w1.heap.size w1 (w1.drew.alloc (.cells [.int .i64 0].toArray 3)) := Bel
        try apply Lst_nil
        apply rnQ_n
        refine ⟨hS2, ?_⟩
        clear hS
        have hS := hS2
        clear hS2
        refine S_any [10] 2 rfl (by kernel_rfl) (all1 ?_)
        (refine Ga ?_)
        have hS2 : Below w1.heap.size w1 ((w1.drew.alloc (.cells [.int .i64 0].toArray 3)).alloc (.cells [.int .i64 0].toArray 3)) := Bel
        try apply Lst_nil
        apply rnQ_n
        refine ⟨hS2, ?_⟩
        clear hS
        have hS := hS2
        clear hS2
        refine S_any [11] 1 rfl (by kernel_rfl) (all1 ?_)
        (refine Ga ?_)
        have hS2 : Below w1.heap.size w1 (((w1.drew.alloc (.cells [.int .i64 0].toArray 3)).alloc (.cells [.int .i64 0].toArray 3)).putObj w1.heap.size (.cells [.int .i64 (g.files.length : Int)].toArray 3)) := Bel
        try apply Lst_nil
        apply rnQ_n
        refine ⟨hS2, ?_⟩
        clear hS
        have hS := hS2
        clear hS2
        refine S_any [12] 0 rfl (by kernel_rfl) (all1 ?_)
        (refine Ga ?_)
        have hS2 : Below w1.heap.size w1 ((((w1.drew.alloc (.cells [.int .i64 0].toArray 3)).alloc (.cells [.int .i64 0].toArray 3)).putObj w1.heap.size (.cells [.int .i64 (g.files.length : Int)].toArray 3)).putObj (w1.heap.size + 1) (.cells [.int .i64 (g.size : Int)].toArray 3)) := Bel
        try apply Lst_nil
        apply rnQ_n
        refine ⟨hS2, ?_⟩
        clear hS
        have hS := hS2
        clear hS2
        refine S_done (by kernel_rfl) ?_
        refine calm_n ?_
        have hbel : Below w1.heap.size w1 ((((w1.drew.alloc (.cells [.int .i64 0].toArray 3)).alloc (.cells [.int .i64 0].toArray 3)).putObj w1.heap.size (.cells [.int .i64 (g.files.length : Int)].toArray 3)).putObj (w1.heap.size + 1) (.cells [.int .i64 (g.size : Int)].toArray 3)) := Bel
        have hLz := hL1.below hbel
        have hDz := hD1.below hbel
        have hCz := c1.trans (.of hbel)
        have hbx : Bx ((((w1.drew.alloc (.cells [.int .i64 0].toArray 3)).alloc (.cells [.int .i64 0].toArray 3)).putObj w1.heap.size (.cells [.int .i64 (g.files.length : Int)].toArray 3)).putObj (w1.heap.size + 1) (.cells [.int .i64 (g.size : Int)].toArray 3)) h lb w1.heap.size (w1.heap.size + 1) 0 g.files.length g.size := ⟨B1.kb.below hbel B1.kb.lt, B1.ke.below hbel B1.ke.lt, (by (repeat (first | assumption | (apply Blk.below (hb := hb1); rotate_left; (focus ((try simp only [Sx.sizes]); omega)); rotate_right) | (apply Blk.below (hb := hb2); rotate_left; (focus ((try simp only [Sx.sizes]); omega)); rotate_right) | (apply Blk.below (hb := hb3); rotate_left; (focus ((try simp only [Sx.sizes]); omega)); rotate_right) | (apply Blk.below (hb := hb4); rotate_left; (focus ((try simp only [Sx.sizes]); omega)); rotate_right) | (apply Blk.below (hb := hb5); rotate_left; (focus ((try simp only [Sx.sizes]); omega)); rotate_right) | (apply Blk.below (hb := hb6); rotate_left; (focus ((try simp only [Sx.sizes]); omega)); rotate_right) | (apply Blk.below (hb := hb7); rotate_left; (focus ((try simp only [Sx.sizes]); omega)); rotate_right) | (apply Blk.below (hb := hb8); rotate_left; (focus ((try simp only [Sx.sizes]); omega)); rotate_right) | (apply Blk.below (hb := hb9); rotate_left; (focus ((try simp only [Sx.sizes]); omega)); rotate_right) | exact Blk.newE (by first | rfl | ((try simp only [Sx.sizes]); first | done | omega)) _ _ | exact Blk.put_same (by (try simp only [Sx.sizes]); first | done | omega) _ _ | (apply Blk.put_ne; (focus omega)) | apply Blk.alloc | apply Blk.drew)); done), (by (repeat (first | assumption | (apply Blk.below (hb := hb1); rotate_left; (focus ((try simp only [Sx.sizes]); omega)); rotate_right) | (apply Blk.below (hb := hb2); rotate_left; (focus ((try simp only [Sx.sizes]); omega)); rotate_right) | (apply Blk.below (hb := hb3); rotate_left; (focus ((try simp only [Sx.sizes]); omega)); rotate_right) | (apply Blk.below (hb := hb4); rotate_left; (focus ((try simp only [Sx.sizes]); omega)); rotate_right) | (apply Blk.below (hb := hb5); rotate_left; (focus ((try simp only [Sx.sizes]); omega)); rotate_right) | (apply Blk.below (hb := hb6); rotate_left; (focus ((try simp only [Sx.sizes]); omega)); rotate_right) | (apply Blk.below (hb := hb7); rotate_left; (focus ((try simp only [Sx.sizes]); omega)); rotate_right) | (apply Blk.below (hb := hb8); rotate_left; (focus ((try simp only [Sx.sizes]); omega)); rotate_right) | (apply Blk.below (hb := hb9); rotate_left; (focus ((try simp only [Sx.sizes]); omega)); rotate_right) | exact Blk.newE (by first | rfl | ((try simp only [Sx.sizes]); first | done | omega)) _ _ | exact Blk.put_same (by (try simp only [Sx.sizes]); first | done | omega) _ _ | (apply Blk.put_ne; (focus omega)) | apply Blk.alloc | apply Blk.drew)); done)⟩
        refine cutQ_n (α := Nat × Nat) (w1.heap.size, (w1.heap.size + 1)) ⟨hbx, hLz, hDz, hCz, by dsimp only; omega, by dsimp only; omega, by dsimp only; omega, hbel⟩ ⟨rfl, rfl, rfl, rfl, rfl, trivial⟩
      · (refine Ga ?_)
        have hS2 : Below w1.heap.size w1 (w1.drew.alloc (.cells [.int .i64 0].toArray 3)) := Bel
        try apply Lst_nil
        apply rnQ_n
        refine ⟨hS2, ?_⟩
        clear hS
        have hS := hS2
        clear hS2
        refine S_any [9] 2 rfl (by kernel_rfl) (all1 ?_)
        (refine Ga ?_)
        have hS2 : Below w1.heap.size w1 ((w1.drew.alloc (.cells [.int .i64 0].toArray 3)).alloc (.cells [.int .i64 0].toArray 3)) := Bel
        try apply Lst_nil
        apply rnQ_n
        refine ⟨hS2, ?_⟩
        clear hS
        have hS := hS2
        clear hS2
        refine S_any [11] 1 rfl (by kernel_rfl) (all1 ?_)
        (refine Ga ?_)
        have hS2 : Below w1.heap.size w1 (((w1.drew.alloc (.cells [.int .i64 0].toArray 3)).alloc (.cells [.int .i64 0].toArray 3)).putObj (w1.heap.size + 1) (.cells [.int .i64 (g.files.length : Int)].toArray 3)) := Bel
        try apply Lst_nil
        apply rnQ_n
        refine ⟨hS2, ?_⟩
        clear hS
        have hS := hS2
        clear hS2
        refine S_any [12] 0 rfl (by kernel_rfl) (all1 ?_)
        (refine Ga ?_)
        have hS2 : Below w1.heap.size w1 ((((w1.drew.alloc (.cells [.int .i64 0].toArray 3)).alloc (.cells [.int .i64 0].toArray 3)).putObj (w1.heap.size + 1) (.cells [.int .i64 (g.files.length : Int)].toArray 3)).putObj w1.heap.size (.cells [.int .i64 (g.size : Int)].toArray 3)) := Bel
        try apply Lst_nil
        apply rnQ_n
        refine ⟨hS2, ?_⟩
        clear hS
        have hS := hS2
        clear hS2
        refine S_done (by kernel_rfl) ?_
        refine calm_n ?_
        have hbel : Below w1.heap.size w1 ((((w1.drew.alloc (.cells [.int .i64 0].toArray 3)).alloc (.cells [.int .i64 0].toArray 3)).putObj (w1.heap.size + 1) (.cells [.int .i64 (g.files.length : Int)].toArray 3)).putObj w1.heap.size (.cells [.int .i64 (g.size : Int)].toArray 3)) := Bel
        have hLz := hL1.below hbel
        have hDz := hD1.below hbel
        have hCz := c1.trans (.of hbel)
        have hbx : Bx ((((w1.drew.alloc (.cells [.int .i64 0].toArray 3)).alloc (.cells [.int .i64 0].toArray 3)).putObj (w1.heap.size + 1) (.cells [.int .i64 (g.files.length : Int)].toArray 3)).putObj w1.heap.size (.cells [.int .i64 (g.size : Int)].toArray 3)) h lb (w1.heap.size + 1) w1.heap.size 0 g.files.length g.size := ⟨B1.kb.below hbel B1.kb.lt, B1.ke.below hbel B1.ke.lt, (by (repeat (first | assumption | (apply Blk.below (hb := hb1); rotate_left; (focus ((try simp only [Sx.sizes]); omega)); rotate_right) | (apply Blk.below (hb := hb2); rotate_left; (focus ((try simp only [Sx.sizes]); omega)); rotate_right) | (apply Blk.below (hb := hb3); rotate_left; (focus ((try simp only [Sx.sizes]); omega)); rotate_right) | (apply Blk.below (hb := hb4); rotate_left; (focus ((try simp only [Sx.sizes]); omega)); rotate_right) | (apply Blk.below (hb := hb5); rotate_left; (focus ((try simp only [Sx.sizes]); omega)); rotate_right) | (apply Blk.below (hb := hb6); rotate_left; (focus ((try simp only [Sx.sizes]); omega)); rotate_right) | (apply Blk.below (hb := hb7); rotate_left; (focus ((try simp only [Sx.sizes]); omega)); rotate_right) | (apply Blk.below (hb := hb8); rotate_left; (focus ((try simp only [Sx.sizes]); omega)); rotate_right) | (apply Blk.below (hb := hb9); rotate_left; (focus ((try simp only [Sx.sizes]); omega)); rotate_right) | exact Blk.newE (by first | rfl | ((try simp only [Sx.sizes]); first | done | omega)) _ _ | exact Blk.put_same (by (try simp only [Sx.sizes]); first | done | omega) _ _ | (apply Blk.put_ne; (focus omega)) | apply Blk.alloc | apply Blk.drew)); done), (by (repeat (first | assumption | (apply Blk.below (hb := hb1); rotate_left; (focus ((try simp only [Sx.sizes]); omega)); rotate_right) | (apply Blk.below (hb := hb2); rotate_left; (focus ((try simp only [Sx.sizes]); omega)); rotate_right) | (apply Blk.below (hb := hb3); rotate_left; (focus ((try simp only [Sx.sizes]); omega)); rotate_right) | (apply Blk.below (hb := hb4); rotate_left; (focus ((try simp only [Sx.sizes]); omega)); rotate_right) | (apply Blk.below (hb := hb5); rotate_left; (focus ((try simp only [Sx.sizes]); omega)); rotate_right) | (apply Blk.below (hb := hb6); rotate_left; (focus ((try simp only [Sx.sizes]); omega)); rotate_right) | (apply Blk.below (hb := hb7); rotate_left; (focus ((try simp only [Sx.sizes]); omega)); rotate_right) | (apply Blk.below (hb := hb8); rotate_left; (focus ((try simp only [Sx.sizes]); omega)); rotate_right) | (apply Blk.below (hb := hb9); rotate_left; (focus ((try simp only [Sx.sizes]); omega)); rotate_right) | exact Blk.newE (by first | rfl | ((try simp only [Sx.sizes]); first | done | omega)) _ _ | exact Blk.put_same (by (try simp only [Sx.sizes]); first | done | omega) _ _ | (apply Blk.put_ne; (focus omega)) | apply Blk.alloc | apply Blk.drew)); done)⟩
        refine cutQ_n (α := Nat × Nat) ((w1.heap.size + 1), w1.heap.size) ⟨hbx, hLz, hDz, hCz, by dsimp only; omega, by dsimp only; omega, by dsimp only; omega, hbel⟩ ⟨rfl, rfl, rfl, rfl, rfl, trivial⟩
    rintro J ⟨X, Y⟩ A ⟨hbx, hL, hD, hcA, hX, hY, hXY, hbA⟩
    dsimp only at hbx hX hY hXY ⊢
    (refine Ga ?_)
    apply Lst_defer (cs := [.pointer (some ⟨h + 1, 0, none⟩), .pointer (some ⟨h, 0, none⟩), .pointer (some ⟨X, 0, none⟩), .pointer (some ⟨Y, 0, none⟩)])
    focus rfl
    have hn8 : ∀ k ∈ foot lb p mb (.slice fa g.files.length fc) (.slice da g.dirty.length dc), Dk.N8 w k := fun k hk => by
      unfold foot at hk
      rcases List.mem_cons.1 hk with e | hk
      · exact h0.n8 k (by rw [e]; simp)
      · rcases List.mem_cons.1 hk with e | hk
        · exact hd.n8 k (by rw [e]; simp)
        · rcases List.mem_cons.1 hk with e | hk
          · exact hd.n8 k (by rw [e]; simp)
          · exact h0.n8 k (List.mem_cons_of_mem _ hk)
    have hvA := By.chg hv hcA hn8
    have hkb := hbx.kb
    have hB := hL.blk
    unfold lcs at hB
    dsimp only at hB
    have hlt := hB.lt
    (refine Ga ?_)
    (apply Lst_call; (focus rfl); (focus rfl))
    refine (c_framed g.recs (by omega) _ b hbl A hvA).mono ?_
    rintro v A2 ⟨hi2, ⟨a2, c2, rfl⟩, hb2⟩
    have hL2 := hL.below hb2
    have hD2 := hD.below hb2
    have hx2 := hbx.below hb2
    have hc2 := hcA.trans (.of hb2)
    have hE2 : Base W0 A2 := hE.chg hc2 hlow
    have s2 := hb2.size
    have hkb2 := hx2.kb
    have hkl2 := hkb2.lt
    have hB2 := hL2.blk
    unfold lcs at hB2
    dsimp only at hB2
    have hlt2 := hB2.lt
    clear hB hlt hkb hb2
    (refine Ga ?_)
    refine W_cut3 (α := Value) (fun z => [(2, .pointer (some ⟨h, 0, none⟩)), (4, .pointer (some ⟨h + 1, 0, none⟩)), (7, (.slice a2 (20 + b.length) c2))])
      (fun z B => LgAt B lb p z (.slice da g.dirty.length dc) { g with files := (g.seg1 b).1, size := (g.seg1 b).2, dead := false } ∧ DkAt B p mb d ∧ Bx B h lb X Y 0 g.files.length g.size ∧ Ints B .u8 (.slice a2 (20 + b.length) c2) (nums (rec1 g.recs b)) ∧ Chg (foot lb p mb (.slice fa g.files.length fc) (.slice da g.dirty.length dc)) w B ∧ (∀ k, z.ownBlock = some k → (Value.slice fa g.files.length fc).ownBlock = some k ∨ w.heap.size ≤ k) ∧ Base W0 B) ?_ ?_
    · refine Tl.W_cutS (α := Unit) (fun _ => [(2, .pointer (some ⟨h, 0, none⟩)), (4, .pointer (some ⟨h + 1, 0, none⟩)), (7, (.slice a2 (20 + b.length) c2)), (58, .bool (newSeg g b))]) (fun _ B => Below A2.heap.size A2 B) ?_ ?_
      · unfold newSeg
        by_cases q1 : g.files.length = 0
        · rw [decide_eq_true q1, Bool.true_or, Bool.true_or]
          refine W_draws (Dk.Grown _) rfl (by kernel_rfl) (Dk.grown_start _) ?_
          (refine Qb ?_)
          intro w9 hb9
          refine cutQ_n (α := Unit) () hb9 ⟨rfl, rfl, rfl, rfl, trivial⟩
        · by_cases q2 : g.seg ≤ (g.size : Int)
          · rw [decide_eq_false q1, decide_eq_true q2, Bool.false_or, Bool.true_or]
            refine W_draws (Dk.Grown _) rfl (by kernel_rfl) (Dk.grown_start _) ?_
            (refine Qb ?_)
            intro w9 hb9
            refine cutQ_n (α := Unit) () hb9 ⟨rfl, rfl, rfl, rfl, trivial⟩
          · rw [decide_eq_false q1, decide_eq_false q2, Bool.false_or, Bool.false_or]
            have hw : arith .add .i64 (g.size : Int) ((20 + b.length : Nat) : Int) = ((g.size + (20 + b.length) : Nat) : Int) := wi64 (by omega) (by omega)
            by_cases q3 : 4194304 < g.size + (20 + b.length)
            · rw [decide_eq_true q3]
              refine W_draws (Dk.Grown _) rfl (by kernel_rfl) (Dk.grown_start _) ?_
              (refine Qb ?_)
              intro w9 hb9
              refine cutQ_n (α := Unit) () hb9 ⟨rfl, rfl, rfl, rfl, trivial⟩
            · rw [decide_eq_false q3]
              refine W_draws (Dk.Grown _) rfl (by kernel_rfl) (Dk.grown_start _) ?_
              (refine Qb ?_)
              intro w9 hb9
              refine cutQ_n (α := Unit) () hb9 ⟨rfl, rfl, rfl, rfl, trivial⟩
      rintro J2 _ B hbB
      cases hns : newSeg g b with
      | false =>
        have hs1 : g.seg1 b = (g.files, g.size) := by
          unfold Lg.seg1
          rw [hns]
          rfl
        rw [hs1]
        (refine Ga ?_)
        exact cutQ_n (α := Value) (.slice fa g.files.length fc) ⟨hL2.below hbB, hD2.below hbB, hx2.below hbB, Ints.below hi2 hbB (Nat.le_refl _), hc2.trans (.of hbB), fun k hk => .inl hk, hE2.below hbB⟩ ⟨rfl, rfl, rfl, trivial⟩
      | true =>
        have hs1 : g.seg1 b = (g.files ++ [nm g.name g.age g.files.length], 0) := by
          unfold Lg.seg1
          rw [hns]
          rfl
        rw [hs1]
        (refine Ga ?_)
        refine W_calm ?_
        refine W_drawS 28 (fun A => CellN A h lb g) rfl rfl ?_
        have hbd : Below B.heap.size B B.drew := Below.drew (Below.refl _ _)
        have hkk := hbB.trans (hbd.mono hbB.size)
        have hhl : h ≠ lb := by omega
        have kbc := hx2.kb.below hkk hkl2
        have hLc := hL2.below hkk
        have hDc := hD2.below hkk
        have hxc := hx2.below hkk
        have hic := Ints.below hi2 hkk (Nat.le_refl _)
        have hEc := hE2.below hkk
        have hcc := hc2.trans (.of hkk)
        have hBc := hLc.blk
        unfold lcs at hBc
        dsimp only at hBc
        have hltc := hBc.lt
        have hS : CellN B.drew h lb g := ⟨kbc.cell 0, hBc.cell 1, hBc.cell 3⟩
        refine S_takeV 0 27 rfl (by kernel_rfl) calm_no hS ?_
        apply Qst_loadc
        focus rfl
        focus rfl
        focus rfl
        focus exact fun A9 hA9 => hA9.1
        focus rfl
        (refine Qb ?_)
        refine S_takeV 1 26 rfl (by kernel_rfl) calm_no hS ?_
        apply Qst_loadc
        focus rfl
        focus rfl
        focus rfl
        focus exact fun A9 hA9 => hA9.1
        focus rfl
        (refine Qb ?_)
        refine S_takeV 2 25 rfl (by kernel_rfl) calm_no hS ?_
        apply Qst_loadc
        focus rfl
        focus rfl
        focus rfl
        focus exact fun A9 hA9 => hA9.1
        focus rfl
        (refine Qb ?_)
        refine S_takeV 3 24 rfl (by kernel_rfl) calm_no hS ?_
        (refine Qb ?_)
        refine S_takeV 4 23 rfl (by kernel_rfl) calm_no hS ?_
        (refine Qb ?_)
        refine S_takeV 6 22 rfl (by kernel_rfl) calm_no hS ?_
        apply Qst_loadc
        focus rfl
        focus rfl
        focus rfl
        focus exact fun A9 hA9 => hA9.1
        focus rfl
        (refine Qb ?_)
        refine S_takeV 7 21 rfl (by kernel_rfl) calm_no hS ?_
        (refine Qb ?_)
        refine S_takeV 8 20 rfl (by kernel_rfl) calm_no hS ?_
        (refine Qb ?_)
        refine S_takeV 9 19 rfl (by kernel_rfl) calm_no hS ?_
        apply Qst_loadc
        focus rfl
        focus rfl
        focus rfl
        focus exact fun A9 hA9 => hA9.2.1
        focus rfl
        (refine Qb ?_)
        refine S_takeV 10 18 rfl (by kernel_rfl) calm_no hS ?_
        apply Qst_loadc
        focus rfl
        focus rfl
        focus rfl
        focus exact fun A9 hA9 => hA9.1
        focus rfl
        (refine Qb ?_)
        refine S_takeV 11 17 rfl (by kernel_rfl) calm_no hS ?_
        (refine Qb ?_)
        refine S_takeV 12 16 rfl (by kernel_rfl) calm_no hS ?_
        (refine Qb ?_)
        refine S_takeV 13 15 rfl (by kernel_rfl) calm_no hS ?_
        apply Qst_loadc
        focus rfl
        focus rfl
        focus rfl
        focus exact fun A9 hA9 => hA9.2.2
        focus rfl
        (refine Qb ?_)
        refine S_takeV 14 14 rfl (by kernel_rfl) calm_no hS ?_
        apply Qst_loadc
        focus rfl
        focus rfl
        focus rfl
        focus exact fun A9 hA9 => hA9.1
        focus rfl
        (refine Qb ?_)
        refine S_takeV 15 13 rfl (by kernel_rfl) calm_no hS ?_
        (refine Qb ?_)
        refine S_takeV 16 12 rfl (by kernel_rfl) calm_no hS ?_
        (refine Qb ?_)
        refine S_any [5, 17] 11 rfl (by kernel_rfl) (all2 ?_ ?_)
        · (refine Ga ?_)
          have hS2 := hS
          try apply Lst_nil
          apply rnQ_n
          refine ⟨hS2, ?_⟩
          clear hS
          have hS := hS2
          clear hS2
          refine S_any [17] 10 rfl (by kernel_rfl) (all1 ?_)
          (refine Ga ?_)
          have hS2 := hS
          try apply Lst_nil
          apply rnQ_n
          refine ⟨hS2, ?_⟩
          clear hS
          have hS := hS2
          clear hS2
          refine S_takeL 18 9 rfl (by kernel_rfl) calm_no hS ?_
          (refine Qb ?_)
          refine S_any [19] 8 rfl (by kernel_rfl) (all1 ?_)
          (apply Lst_call; (focus rfl); (focus rfl))
          refine (c_file g.name g.age g.files.length hnm (by omega) (by omega) _ hEc.now).mono ?_
          rintro v wF ⟨rfl, hbF⟩
          have kbc := kbc.below hbF kbc.lt
          have hLc := hLc.below hbF
          have hDc := hDc.below hbF
          have hxc := hxc.below hbF
          have hic := Ints.below hic hbF (Nat.le_refl _)
          have hEc := hEc.below hbF
          have hcc := hcc.trans (.of hbF)
          have hBc := hLc.blk
          unfold lcs at hBc
          dsimp only at hBc
          have hltc := hBc.lt
          have hS2 : CellN wF h lb g := ⟨kbc.cell 0, hBc.cell 1, hBc.cell 3⟩
          try apply Lst_nil
          apply rnQ_n
          refine ⟨hS2, ?_⟩
          clear hS
          have hS := hS2
          clear hS2
          refine S_any [20] 7 rfl (by kernel_rfl) (all1 ?_)
          (apply Lst_slit; (focus rfl); (focus rfl); (focus rfl); (focus rfl); (focus rfl); (focus rfl); (focus rfl); (focus rfl); (focus rfl); (focus (repeat (first | apply FillO.nil | (apply FillO.cons; (focus constructor); (focus rfl); (focus rfl); (focus (repeat constructor)))))); (focus ((try simp only [Sx.sizes]); first | done | rfl)); (focus rfl))
          obtain ⟨SB, hSB⟩ : ∃ n, wF.heap.size = n := ⟨_, rfl⟩
          rw [hSB]
          refine Lst_abs (fun W => Blk W SB [.string (nm g.name g.age g.files.length)] 9 ∧ Below wF.heap.size wF W) ⟨Blk.newE hSB _ _, Bel⟩ ?_
          rintro wS ⟨kS, hbS⟩
          have kbc := kbc.below hbS kbc.lt
          have hLc := hLc.below hbS
          have hDc := hDc.below hbS
          have hxc := hxc.below hbS
          have hic := Ints.below hic hbS (Nat.le_refl _)
          have hEc := hEc.below hbS
          have hcc := hcc.trans (.of hbS)
          have hBc := hLc.blk
          unfold lcs at hBc
          dsimp only at hBc
          have hltc := hBc.lt
          have hS2 : CellN wS h lb g := ⟨kbc.cell 0, hBc.cell 1, hBc.cell 3⟩
          try apply Lst_nil
          apply rnQ_n
          refine ⟨hS2, ?_⟩
          clear hS
          have hS := hS2
          clear hS2
          refine S_any [21] 6 rfl (by kernel_rfl) (all1 ?_)
          apply Lst_pushO (h := hLc.files) (b := SB) (c1 := 1) (y := (nm g.name g.age g.files.length))
          focus rfl
          focus rfl
          focus exact kS.cell 0
          focus exact Nat.le_trans hl (by decide)
          focus rfl
          intro v' wP hnP hgP hbP
          obtain ⟨pa, pc, rfl, _⟩ := hnP.form
          obtain ⟨hbLP, hLP⟩ := hLc.fgrow hgP hnP hbP
          have cP := Chg.grown hgP
          have cP' : Chg (lb :: rowsOf (.slice fa g.files.length fc) (.slice da g.dirty.length dc)) wS wP := cP.mono (fun k hk => List.mem_cons_of_mem _ (List.mem_append.2 (.inl hk)))
          have hxP := hxc.chg cP' (hLc.out hxc.kb (by decide) (by decide)) (hLc.out hxc.ke (by decide) (by decide)) (hLc.out hxc.kX (by decide) (by decide)) (hLc.out hxc.kY (by decide) (by decide))
          have hDP := dk_log hDc hLc cP'
          have hiP := Dk.Ints.chg hic cP' hLc.n8
          have kbP := hxP.kb
          have hBP := hbLP
          unfold lcs at hBP
          dsimp only at hBP
          have hltP := hBP.lt
          have hS2 : CellN wP h lb g := ⟨kbP.cell 0, hBP.cell 1, hBP.cell 3⟩
          try apply Lst_nil
          apply rnQ_n
          refine ⟨hS2, ?_⟩
          clear hS
          have hS := hS2
          clear hS2
          refine S_takeV 22 5 rfl (by kernel_rfl) calm_no hS ?_
          (refine Qb ?_)
          refine S_takeV 23 4 rfl (by kernel_rfl) calm_no hS ?_
          (refine Qb ?_)
          refine S_any [24] 3 rfl (by kernel_rfl) (all1 ?_)
          (refine Ga ?_)
          have hS2 : CellN (wP.putObj lb (.cells (lcs p (.slice pa (g.files ++ [(nm g.name g.age g.files.length)]).length pc) (.slice da g.dirty.length dc) { g with files := g.files ++ [(nm g.name g.age g.files.length)], dead := false }).toArray 53)) h lb g := ⟨(Blk.put_ne hhl kbP).cell 0, (Blk.put_same hltP _ _).cell 1, (Blk.put_same hltP _ _).cell 3⟩
          try apply Lst_nil
          apply rnQ_n
          refine ⟨hS2, ?_⟩
          clear hS
          have hS := hS2
          clear hS2
          refine S_takeV 25 2 rfl (by kernel_rfl) calm_no hS ?_
          (refine Qb ?_)
          refine S_takeV 26 1 rfl (by kernel_rfl) calm_no hS ?_
          (refine Qb ?_)
          refine S_any [27] 0 rfl (by kernel_rfl) (all1 ?_)
          (refine Ga ?_)
          have hS2 : CellN ((wP.putObj lb (.cells (lcs p (.slice pa (g.files ++ [(nm g.name g.age g.files.length)]).length pc) (.slice da g.dirty.length dc) { g with files := g.files ++ [(nm g.name g.age g.files.length)], dead := false }).toArray 53)).putObj lb (.cells (lcs p (.slice pa (g.files ++ [(nm g.name g.age g.files.length)]).length pc) (.slice da g.dirty.length dc) { g with files := g.files ++ [(nm g.name g.age g.files.length)], size := 0, dead := false }).toArray 53)) h lb g := ⟨(Blk.put_ne hhl (Blk.put_ne hhl kbP)).cell 0, (Blk.put_same (by rw [World.putObj_size]; exact hltP) _ _).cell 1, (Blk.put_same (by rw [World.putObj_size]; exact hltP) _ _).cell 3⟩
          try apply Lst_nil
          apply rnQ_n
          refine ⟨hS2, ?_⟩
          clear hS
          have hS := hS2
          clear hS2
          refine S_done (by kernel_rfl) ?_
          refine calm_n ?_
          have hL9 := hLP.put (g' := { g with files := g.files ++ [(nm g.name g.age g.files.length)], size := 0, dead := false }) rfl rfl
          have c9 : Chg [lb] wP ((wP.putObj lb (.cells (lcs p (.slice pa (g.files ++ [(nm g.name g.age g.files.length)]).length pc) (.slice da g.dirty.length dc) { g with files := g.files ++ [(nm g.name g.age g.files.length)], dead := false }).toArray 53)).putObj lb (.cells (lcs p (.slice pa (g.files ++ [(nm g.name g.age g.files.length)]).length pc) (.slice da g.dirty.length dc) { g with files := g.files ++ [(nm g.name g.age g.files.length)], size := 0, dead := false }).toArray 53)) := (chg1 _).put (.inl (by simp)) _
          have c9' : Chg (lb :: rowsOf (.slice fa g.files.length fc) (.slice da g.dirty.length dc)) wS ((wP.putObj lb (.cells (lcs p (.slice pa (g.files ++ [(nm g.name g.age g.files.length)]).length pc) (.slice da g.dirty.length dc) { g with files := g.files ++ [(nm g.name g.age g.files.length)], dead := false }).toArray 53)).putObj lb (.cells (lcs p (.slice pa (g.files ++ [(nm g.name g.age g.files.length)]).length pc) (.slice da g.dirty.length dc) { g with files := g.files ++ [(nm g.name g.age g.files.length)], size := 0, dead := false }).toArray 53)) := cP'.trans (c9.mono (by simp))
          have hx9 := hxc.chg c9' (hLc.out hxc.kb (by decide) (by decide)) (hLc.out hxc.ke (by decide) (by decide)) (hLc.out hxc.kX (by decide) (by decide)) (hLc.out hxc.kY (by decide) (by decide))
          have hC9 : Chg (foot lb p mb (.slice fa g.files.length fc) (.slice da g.dirty.length dc)) w ((wP.putObj lb (.cells (lcs p (.slice pa (g.files ++ [(nm g.name g.age g.files.length)]).length pc) (.slice da g.dirty.length dc) { g with files := g.files ++ [(nm g.name g.age g.files.length)], dead := false }).toArray 53)).putObj lb (.cells (lcs p (.slice pa (g.files ++ [(nm g.name g.age g.files.length)]).length pc) (.slice da g.dirty.length dc) { g with files := g.files ++ [(nm g.name g.age g.files.length)], size := 0, dead := false }).toArray 53)) := hcc.trans (c9'.mono (fun k hk => by
            rcases List.mem_cons.1 hk with e | hk
            · rw [e]; exact List.mem_cons_self
            · exact List.mem_cons_of_mem _ (List.mem_cons_of_mem _ (List.mem_cons_of_mem _ hk))))
          have hE9 : Base W0 ((wP.putObj lb (.cells (lcs p (.slice pa (g.files ++ [(nm g.name g.age g.files.length)]).length pc) (.slice da g.dirty.length dc) { g with files := g.files ++ [(nm g.name g.age g.files.length)], dead := false }).toArray 53)).putObj lb (.cells (lcs p (.slice pa (g.files ++ [(nm g.name g.age g.files.length)]).length pc) (.slice da g.dirty.length dc) { g with files := g.files ++ [(nm g.name g.age g.files.length)], size := 0, dead := false }).toArray 53)) := hE.chg hC9 hlow
          have hi9 := Dk.Ints.chg hic c9' hLc.n8
          have hD9 := dk_log hDc hLc c9'
          (refine Ga ?_)
          exact cutQ_n (α := Value) _ ⟨hL9, hD9, hx9, hi9, hC9, fun k hk => (hbP k hk).imp id (fun h9 => Nat.le_trans hcc.size h9), hE9⟩ ⟨rfl, rfl, rfl, trivial⟩
        · (refine Ga ?_)
          have hS2 := hS
          try apply Lst_nil
          apply rnQ_n
          refine ⟨hS2, ?_⟩
          clear hS
          have hS := hS2
          clear hS2
          refine S_takeL 18 10 rfl (by kernel_rfl) calm_no hS ?_
          (refine Qb ?_)
          refine S_any [5, 19] 9 rfl (by kernel_rfl) (all2 ?_ ?_)
          · (refine Ga ?_)
            have hS2 := hS
            try apply Lst_nil
            apply rnQ_n
            refine ⟨hS2, ?_⟩
            clear hS
            have hS := hS2
            clear hS2
            refine S_any [19] 8 rfl (by kernel_rfl) (all1 ?_)
            (apply Lst_call; (focus rfl); (focus rfl))
            refine (c_file g.name g.age g.files.length hnm (by omega) (by omega) _ hEc.now).mono ?_
            rintro v wF ⟨rfl, hbF⟩
            have kbc := kbc.below hbF kbc.lt
            have hLc := hLc.below hbF
            have hDc := hDc.below hbF
            have hxc := hxc.below hbF
            have hic := Ints.below hic hbF (Nat.le_refl _)
            have hEc := hEc.below hbF
            have hcc := hcc.trans (.of hbF)
            have hBc := hLc.blk
            unfold lcs at hBc
            dsimp only at hBc
            have hltc := hBc.lt
            have hS2 : CellN wF h lb g := ⟨kbc.cell 0, hBc.cell 1, hBc.cell 3⟩
            try apply Lst_nil
            apply rnQ_n
            refine ⟨hS2, ?_⟩
            clear hS
            have hS := hS2
            clear hS2
            refine S_any [20] 7 rfl (by kernel_rfl) (all1 ?_)
            (apply Lst_slit; (focus rfl); (focus rfl); (focus rfl); (focus rfl); (focus rfl); (focus rfl); (focus rfl); (focus rfl); (focus rfl); (focus (repeat (first | apply FillO.nil | (apply FillO.cons; (focus constructor); (focus rfl); (focus rfl); (focus (repeat constructor)))))); (focus ((try simp only [Sx.sizes]); first | done | rfl)); (focus rfl))
            obtain ⟨SB, hSB⟩ : ∃ n, wF.heap.size = n := ⟨_, rfl⟩
            rw [hSB]
            refine Lst_abs (fun W => Blk W SB [.string (nm g.name g.age g.files.length)] 9 ∧ Below wF.heap.size wF W) ⟨Blk.newE hSB _ _, Bel⟩ ?_
            rintro wS ⟨kS, hbS⟩
            have kbc := kbc.below hbS kbc.lt
            have hLc := hLc.below hbS
            have hDc := hDc.below hbS
            have hxc := hxc.below hbS
            have hic := Ints.below hic hbS (Nat.le_refl _)
            have hEc := hEc.below hbS
            have hcc := hcc.trans (.of hbS)
            have hBc := hLc.blk
            unfold lcs at hBc
            dsimp only at hBc
            have hltc := hBc.lt
            have hS2 : CellN wS h lb g := ⟨kbc.cell 0, hBc.cell 1, hBc.cell 3⟩
            try apply Lst_nil
            apply rnQ_n
            refine ⟨hS2, ?_⟩
            clear hS
            have hS := hS2
            clear hS2
            refine S_any [21] 6 rfl (by kernel_rfl) (all1 ?_)
            apply Lst_pushO (h := hLc.files) (b := SB) (c1 := 1) (y := (nm g.name g.age g.files.length))
            focus rfl
            focus rfl
            focus exact kS.cell 0
            focus exact Nat.le_trans hl (by decide)
            focus rfl
            intro v' wP hnP hgP hbP
            obtain ⟨pa, pc, rfl, _⟩ := hnP.form
            obtain ⟨hbLP, hLP⟩ := hLc.fgrow hgP hnP hbP
            have cP := Chg.grown hgP
            have cP' : Chg (lb :: rowsOf (.slice fa g.files.length fc) (.slice da g.dirty.length dc)) wS wP := cP.mono (fun k hk => List.mem_cons_of_mem _ (List.mem_append.2 (.inl hk)))
            have hxP := hxc.chg cP' (hLc.out hxc.kb (by decide) (by decide)) (hLc.out hxc.ke (by decide) (by decide)) (hLc.out hxc.kX (by decide) (by decide)) (hLc.out hxc.kY (by decide) (by decide))
            have hDP := dk_log hDc hLc cP'
            have hiP := Dk.Ints.chg hic cP' hLc.n8
            have kbP := hxP.kb
            have hBP := hbLP
            unfold lcs at hBP
            dsimp only at hBP
            have hltP := hBP.lt
            have hS2 : CellN wP h lb g := ⟨kbP.cell 0, hBP.cell 1, hBP.cell 3⟩
            try apply Lst_nil
            apply rnQ_n
            refine ⟨hS2, ?_⟩
            clear hS
            have hS := hS2
            clear hS2
            refine S_takeV 22 5 rfl (by kernel_rfl) calm_no hS ?_
            (refine Qb ?_)
            refine S_takeV 23 4 rfl (by kernel_rfl) calm_no hS ?_
            (refine Qb ?_)
            refine S_any [24] 3 rfl (by kernel_rfl) (all1 ?_)
            (refine Ga ?_)
            have hS2 : CellN (wP.putObj lb (.cells (lcs p (.slice pa (g.files ++ [(nm g.name g.age g.files.length)]).length pc) (.slice da g.dirty.length dc) { g with files := g.files ++ [(nm g.name g.age g.files.length)], dead := false }).toArray 53)) h lb g := ⟨(Blk.put_ne hhl kbP).cell 0, (Blk.put_same hltP _ _).cell 1, (Blk.put_same hltP _ _).cell 3⟩
            try apply Lst_nil
            apply rnQ_n
            refine ⟨hS2, ?_⟩
            clear hS
            have hS := hS2
            clear hS2
            refine S_takeV 25 2 rfl (by kernel_rfl) calm_no hS ?_
            (refine Qb ?_)
            refine S_takeV 26 1 rfl (by kernel_rfl) calm_no hS ?_
            (refine Qb ?_)
            refine S_any [27] 0 rfl (by kernel_rfl) (all1 ?_)
            (refine Ga ?_)
            have hS2 : CellN ((wP.putObj lb (.cells (lcs p (.slice pa (g.files ++ [(nm g.name g.age g.files.length)]).length pc) (.slice da g.dirty.length dc) { g with files := g.files ++ [(nm g.name g.age g.files.length)], dead := false }).toArray 53)).putObj lb (.cells (lcs p (.slice pa (g.files ++ [(nm g.name g.age g.files.length)]).length pc) (.slice da g.dirty.length dc) { g with files := g.files ++ [(nm g.name g.age g.files.length)], size := 0, dead := false }).toArray 53)) h lb g := ⟨(Blk.put_ne hhl (Blk.put_ne hhl kbP)).cell 0, (Blk.put_same (by rw [World.putObj_size]; exact hltP) _ _).cell 1, (Blk.put_same (by rw [World.putObj_size]; exact hltP) _ _).cell 3⟩
            try apply Lst_nil
            apply rnQ_n
            refine ⟨hS2, ?_⟩
            clear hS
            have hS := hS2
            clear hS2
            refine S_done (by kernel_rfl) ?_
            refine calm_n ?_
            have hL9 := hLP.put (g' := { g with files := g.files ++ [(nm g.name g.age g.files.length)], size := 0, dead := false }) rfl rfl
            have c9 : Chg [lb] wP ((wP.putObj lb (.cells (lcs p (.slice pa (g.files ++ [(nm g.name g.age g.files.length)]).length pc) (.slice da g.dirty.length dc) { g with files := g.files ++ [(nm g.name g.age g.files.length)], dead := false }).toArray 53)).putObj lb (.cells (lcs p (.slice pa (g.files ++ [(nm g.name g.age g.files.length)]).length pc) (.slice da g.dirty.length dc) { g with files := g.files ++ [(nm g.name g.age g.files.length)], size := 0, dead := false }).toArray 53)) := (chg1 _).put (.inl (by simp)) _
            have c9' : Chg (lb :: rowsOf (.slice fa g.files.length fc) (.slice da g.dirty.length dc)) wS ((wP.putObj lb (.cells (lcs p (.slice pa (g.files ++ [(nm g.name g.age g.files.length)]).length pc) (.slice da g.dirty.length dc) { g with files := g.files ++ [(nm g.name g.age g.files.length)], dead := false }).toArray 53)).putObj lb (.cells (lcs p (.slice pa (g.files ++ [(nm g.name g.age g.files.length)]).length pc) (.slice da g.dirty.length dc) { g with files := g.files ++ [(nm g.name g.age g.files.length)], size := 0, dead := false }).toArray 53)) := cP'.trans (c9.mono (by simp))
            have hx9 := hxc.chg c9' (hLc.out hxc.kb (by decide) (by decide)) (hLc.out hxc.ke (by decide) (by decide)) (hLc.out hxc.kX (by decide) (by decide)) (hLc.out hxc.kY (by decide) (by decide))
            have hC9 : Chg (foot lb p mb (.slice fa g.files.length fc) (.slice da g.dirty.length dc)) w ((wP.putObj lb (.cells (lcs p (.slice pa (g.files ++ [(nm g.name g.age g.files.length)]).length pc) (.slice da g.dirty.length dc) { g with files := g.files ++ [(nm g.name g.age g.files.length)], dead := false }).toArray 53)).putObj lb (.cells (lcs p (.slice pa (g.files ++ [(nm g.name g.age g.files.length)]).length pc) (.slice da g.dirty.length dc) { g with files := g.files ++ [(nm g.name g.age g.files.length)], size := 0, dead := false }).toArray 53)) := hcc.trans (c9'.mono (fun k hk => by
              rcases List.mem_cons.1 hk with e | hk
              · rw [e]; exact List.mem_cons_self
              · exact List.mem_cons_of_mem _ (List.mem_cons_of_mem _ (List.mem_cons_of_mem _ hk))))
            have hE9 : Base W0 ((wP.putObj lb (.cells (lcs p (.slice pa (g.files ++ [(nm g.name g.age g.files.length)]).length pc) (.slice da g.dirty.length dc) { g with files := g.files ++ [(nm g.name g.age g.files.length)], dead := false }).toArray 53)).putObj lb (.cells (lcs p (.slice pa (g.files ++ [(nm g.name g.age g.files.length)]).length pc) (.slice da g.dirty.length dc) { g with files := g.files ++ [(nm g.name g.age g.files.length)], size := 0, dead := false }).toArray 53)) := hE.chg hC9 hlow
            have hi9 := Dk.Ints.chg hic c9' hLc.n8
            have hD9 := dk_log hDc hLc c9'
            (refine Ga ?_)
            exact cutQ_n (α := Value) _ ⟨hL9, hD9, hx9, hi9, hC9, fun k hk => (hbP k hk).imp id (fun h9 => Nat.le_trans hcc.size h9), hE9⟩ ⟨rfl, rfl, rfl, trivial⟩
          · (apply Lst_call; (focus rfl); (focus rfl))
            refine (c_file g.name g.age g.files.length hnm (by omega) (by omega) _ hEc.now).mono ?_
            rintro v wF ⟨rfl, hbF⟩
            have kbc := kbc.below hbF kbc.lt
            have hLc := hLc.below hbF
            have hDc := hDc.below hbF
            have hxc := hxc.below hbF
            have hic := Ints.below hic hbF (Nat.le_refl _)
            have hEc := hEc.below hbF
            have hcc := hcc.trans (.of hbF)
            have hBc := hLc.blk
            unfold lcs at hBc
            dsimp only at hBc
            have hltc := hBc.lt
            have hS2 : CellN wF h lb g := ⟨kbc.cell 0, hBc.cell 1, hBc.cell 3⟩
            try apply Lst_nil
            apply rnQ_n
            refine ⟨hS2, ?_⟩
            clear hS
            have hS := hS2
            clear hS2
            refine S_any [5, 20] 8 rfl (by kernel_rfl) (all2 ?_ ?_)
            · (refine Ga ?_)
              have hS2 := hS
              try apply Lst_nil
              apply rnQ_n
              refine ⟨hS2, ?_⟩
              clear hS
              have hS := hS2
              clear hS2
              refine S_any [20] 7 rfl (by kernel_rfl) (all1 ?_)
              (apply Lst_slit; (focus rfl); (focus rfl); (focus rfl); (focus rfl); (focus rfl); (focus rfl); (focus rfl); (focus rfl); (focus rfl); (focus (repeat (first | apply FillO.nil | (apply FillO.cons; (focus constructor); (focus rfl); (focus rfl); (focus (repeat constructor)))))); (focus ((try simp only [Sx.sizes]); first | done | rfl)); (focus rfl))
              obtain ⟨SB, hSB⟩ : ∃ n, wF.heap.size = n := ⟨_, rfl⟩
              rw [hSB]
              refine Lst_abs (fun W => Blk W SB [.string (nm g.name g.age g.files.length)] 9 ∧ Below wF.heap.size wF W) ⟨Blk.newE hSB _ _, Bel⟩ ?_
              rintro wS ⟨kS, hbS⟩
              have kbc := kbc.below hbS kbc.lt
              have hLc := hLc.below hbS
              have hDc := hDc.below hbS
              have hxc := hxc.below hbS
              have hic := Ints.below hic hbS (Nat.le_refl _)
              have hEc := hEc.below hbS
              have hcc := hcc.trans (.of hbS)
              have hBc := hLc.blk
              unfold lcs at hBc
              dsimp only at hBc
              have hltc := hBc.lt
              have hS2 : CellN wS h lb g := ⟨kbc.cell 0, hBc.cell 1, hBc.cell 3⟩
              try apply Lst_nil
              apply rnQ_n
              refine ⟨hS2, ?_⟩
              clear hS
              have hS := hS2
              clear hS2
              refine S_any [21] 6 rfl (by kernel_rfl) (all1 ?_)
              apply Lst_pushO (h := hLc.files) (b := SB) (c1 := 1) (y := (nm g.name g.age g.files.length))
              focus rfl
              focus rfl
              focus exact kS.cell 0
              focus exact Nat.le_trans hl (by decide)
              focus rfl
              intro v' wP hnP hgP hbP
              obtain ⟨pa, pc, rfl, _⟩ := hnP.form
              obtain ⟨hbLP, hLP⟩ := hLc.fgrow hgP hnP hbP
              have cP := Chg.grown hgP
              have cP' : Chg (lb :: rowsOf (.slice fa g.files.length fc) (.slice da g.dirty.length dc)) wS wP := cP.mono (fun k hk => List.mem_cons_of_mem _ (List.mem_append.2 (.inl hk)))
              have hxP := hxc.chg cP' (hLc.out hxc.kb (by decide) (by decide)) (hLc.out hxc.ke (by decide) (by decide)) (hLc.out hxc.kX (by decide) (by decide)) (hLc.out hxc.kY (by decide) (by decide))
              have hDP := dk_log hDc hLc cP'
              have hiP := Dk.Ints.chg hic cP' hLc.n8
              have kbP := hxP.kb
              have hBP := hbLP
              unfold lcs at hBP
              dsimp only at hBP
              have hltP := hBP.lt
              have hS2 : CellN wP h lb g := ⟨kbP.cell 0, hBP.cell 1, hBP.cell 3⟩
              try apply Lst_nil
              apply rnQ_n
              refine ⟨hS2, ?_⟩
              clear hS
              have hS := hS2
              clear hS2
              refine S_takeV 22 5 rfl (by kernel_rfl) calm_no hS ?_
              (refine Qb ?_)
              refine S_takeV 23 4 rfl (by kernel_rfl) calm_no hS ?_
              (refine Qb ?_)
              refine S_any [24] 3 rfl (by kernel_rfl) (all1 ?_)
              (refine Ga ?_)
              have hS2 : CellN (wP.putObj lb (.cells (lcs p (.slice pa (g.files ++ [(nm g.name g.age g.files.length)]).length pc) (.slice da g.dirty.length dc) { g with files := g.files ++ [(nm g.name g.age g.files.length)], dead := false }).toArray 53)) h lb g := ⟨(Blk.put_ne hhl kbP).cell 0, (Blk.put_same hltP _ _).cell 1, (Blk.put_same hltP _ _).cell 3⟩
              try apply Lst_nil
              apply rnQ_n
              refine ⟨hS2, ?_⟩
              clear hS
              have hS := hS2
              clear hS2
              refine S_takeV 25 2 rfl (by kernel_rfl) calm_no hS ?_
              (refine Qb ?_)
              refine S_takeV 26 1 rfl (by kernel_rfl) calm_no hS ?_
              (refine Qb ?_)
              refine S_any [27] 0 rfl (by kernel_rfl) (all1 ?_)
              (refine Ga ?_)
              have hS2 : CellN ((wP.putObj lb (.cells (lcs p (.slice pa (g.files ++ [(nm g.name g.age g.files.length)]).length pc) (.slice da g.dirty.length dc) { g with files := g.files ++ [(nm g.name g.age g.files.length)], dead := false }).toArray 53)).putObj lb (.cells (lcs p (.slice pa (g.files ++ [(nm g.name g.age g.files.length)]).length pc) (.slice da g.dirty.length dc) { g with files := g.files ++ [(nm g.name g.age g.files.length)], size := 0, dead := false }).toArray 53)) h lb g := ⟨(Blk.put_ne hhl (Blk.put_ne hhl kbP)).cell 0, (Blk.put_same (by rw [World.putObj_size]; exact hltP) _ _).cell 1, (Blk.put_same (by rw [World.putObj_size]; exact hltP) _ _).cell 3⟩
              try apply Lst_nil
              apply rnQ_n
              refine ⟨hS2, ?_⟩
              clear hS
              have hS := hS2
              clear hS2
              refine S_done (by kernel_rfl) ?_
              refine calm_n ?_
              have hL9 := hLP.put (g' := { g with files := g.files ++ [(nm g.name g.age g.files.length)], size := 0, dead := false }) rfl rfl
              have c9 : Chg [lb] wP ((wP.putObj lb (.cells (lcs p (.slice pa (g.files ++ [(nm g.name g.age g.files.length)]).length pc) (.slice da g.dirty.length dc) { g with files := g.files ++ [(nm g.name g.age g.files.length)], dead := false }).toArray 53)).putObj lb (.cells (lcs p (.slice pa (g.files ++ [(nm g.name g.age g.files.length)]).length pc) (.slice da g.dirty.length dc) { g with files := g.files ++ [(nm g.name g.age g.files.length)], size := 0, dead := false }).toArray 53)) := (chg1 _).put (.inl (by simp)) _
              have c9' : Chg (lb :: rowsOf (.slice fa g.files.length fc) (.slice da g.dirty.length dc)) wS ((wP.putObj lb (.cells (lcs p (.slice pa (g.files ++ [(nm g.name g.age g.files.length)]).length pc) (.slice da g.dirty.length dc) { g with files := g.files ++ [(nm g.name g.age g.files.length)], dead := false }).toArray 53)).putObj lb (.cells (lcs p (.slice pa (g.files ++ [(nm g.name g.age g.files.length)]).length pc) (.slice da g.dirty.length dc) { g with files := g.files ++ [(nm g.name g.age g.files.length)], size := 0, dead := false }).toArray 53)) := cP'.trans (c9.mono (by simp))
              have hx9 := hxc.chg c9' (hLc.out hxc.kb (by decide) (by decide)) (hLc.out hxc.ke (by decide) (by decide)) (hLc.out hxc.kX (by decide) (by decide)) (hLc.out hxc.kY (by decide) (by decide))
              have hC9 : Chg (foot lb p mb (.slice fa g.files.length fc) (.slice da g.dirty.length dc)) w ((wP.putObj lb (.cells (lcs p (.slice pa (g.files ++ [(nm g.name g.age g.files.length)]).length pc) (.slice da g.dirty.length dc) { g with files := g.files ++ [(nm g.name g.age g.files.length)], dead := false }).toArray 53)).putObj lb (.cells (lcs p (.slice pa (g.files ++ [(nm g.name g.age g.files.length)]).length pc) (.slice da g.dirty.length dc) { g with files := g.files ++ [(nm g.name g.age g.files.length)], size := 0, dead := false }).toArray 53)) := hcc.trans (c9'.mono (fun k hk => by
                rcases List.mem_cons.1 hk with e | hk
                · rw [e]; exact List.mem_cons_self
                · exact List.mem_cons_of_mem _ (List.mem_cons_of_mem _ (List.mem_cons_of_mem _ hk))))
              have hE9 : Base W0 ((wP.putObj lb (.cells (lcs p (.slice pa (g.files ++ [(nm g.name g.age g.files.length)]).length pc) (.slice da g.dirty.length dc) { g with files := g.files ++ [(nm g.name g.age g.files.length)], dead := false }).toArray 53)).putObj lb (.cells (lcs p (.slice pa (g.files ++ [(nm g.name g.age g.files.length)]).length pc) (.slice da g.dirty.length dc) { g with files := g.files ++ [(nm g.name g.age g.files.length)], size := 0, dead := false }).toArray 53)) := hE.chg hC9 hlow
              have hi9 := Dk.Ints.chg hic c9' hLc.n8
              have hD9 := dk_log hDc hLc c9'
              (refine Ga ?_)
              exact cutQ_n (α := Value) _ ⟨hL9, hD9, hx9, hi9, hC9, fun k hk => (hbP k hk).imp id (fun h9 => Nat.le_trans hcc.size h9), hE9⟩ ⟨rfl, rfl, rfl, trivial⟩
            · (apply Lst_slit; (focus rfl); (focus rfl); (focus rfl); (focus rfl); (focus rfl); (focus rfl); (focus rfl); (focus rfl); (focus rfl); (focus (repeat (first | apply FillO.nil | (apply FillO.cons; (focus constructor); (focus rfl); (focus rfl); (focus (repeat constructor)))))); (focus ((try simp only [Sx.sizes]); first | done | rfl)); (focus rfl))
              obtain ⟨SB, hSB⟩ : ∃ n, wF.heap.size = n := ⟨_, rfl⟩
              rw [hSB]
              refine Lst_abs (fun W => Blk W SB [.string (nm g.name g.age g.files.length)] 9 ∧ Below wF.heap.size wF W) ⟨Blk.newE hSB _ _, Bel⟩ ?_
              rintro wS ⟨kS, hbS⟩
              have kbc := kbc.below hbS kbc.lt
              have hLc := hLc.below hbS
              have hDc := hDc.below hbS
              have hxc := hxc.below hbS
              have hic := Ints.below hic hbS (Nat.le_refl _)
              have hEc := hEc.below hbS
              have hcc := hcc.trans (.of hbS)
              have hBc := hLc.blk
              unfold lcs at hBc
              dsimp only at hBc
              have hltc := hBc.lt
              have hS2 : CellN wS h lb g := ⟨kbc.cell 0, hBc.cell 1, hBc.cell 3⟩
              try apply Lst_nil
              apply rnQ_n
              refine ⟨hS2, ?_⟩
              clear hS
              have hS := hS2
              clear hS2
              refine S_any [5] 7 rfl (by kernel_rfl) (all1 ?_)
              (refine Ga ?_)
              have hS2 := hS
              try apply Lst_nil
              apply rnQ_n
              refine ⟨hS2, ?_⟩
              clear hS
              have hS := hS2
              clear hS2
              refine S_any [21] 6 rfl (by kernel_rfl) (all1 ?_)
              apply Lst_pushO (h := hLc.files) (b := SB) (c1 := 1) (y := (nm g.name g.age g.files.length))
              focus rfl
              focus rfl
              focus exact kS.cell 0
              focus exact Nat.le_trans hl (by decide)
              focus rfl
              intro v' wP hnP hgP hbP
              obtain ⟨pa, pc, rfl, _⟩ := hnP.form
              obtain ⟨hbLP, hLP⟩ := hLc.fgrow hgP hnP hbP
              have cP := Chg.grown hgP
              have cP' : Chg (lb :: rowsOf (.slice fa g.files.length fc) (.slice da g.dirty.length dc)) wS wP := cP.mono (fun k hk => List.mem_cons_of_mem _ (List.mem_append.2 (.inl hk)))
              have hxP := hxc.chg cP' (hLc.out hxc.kb (by decide) (by decide)) (hLc.out hxc.ke (by decide) (by decide)) (hLc.out hxc.kX (by decide) (by decide)) (hLc.out hxc.kY (by decide) (by decide))
              have hDP := dk_log hDc hLc cP'
              have hiP := Dk.Ints.chg hic cP' hLc.n8
              have kbP := hxP.kb
              have hBP := hbLP
              unfold lcs at hBP
              dsimp only at hBP
              have hltP := hBP.lt
              have hS2 : CellN wP h lb g := ⟨kbP.cell 0, hBP.cell 1, hBP.cell 3⟩
              try apply Lst_nil
              apply rnQ_n
              refine ⟨hS2, ?_⟩
              clear hS
              have hS := hS2
              clear hS2
              refine S_takeV 22 5 rfl (by kernel_rfl) calm_no hS ?_
              (refine Qb ?_)
              refine S_takeV 23 4 rfl (by kernel_rfl) calm_no hS ?_
              (refine Qb ?_)
              refine S_any [24] 3 rfl (by kernel_rfl) (all1 ?_)
              (refine Ga ?_)
              have hS2 : CellN (wP.putObj lb (.cells (lcs p (.slice pa (g.files ++ [(nm g.name g.age g.files.length)]).length pc) (.slice da g.dirty.length dc) { g with files := g.files ++ [(nm g.name g.age g.files.length)], dead := false }).toArray 53)) h lb g := ⟨(Blk.put_ne hhl kbP).cell 0, (Blk.put_same hltP _ _).cell 1, (Blk.put_same hltP _ _).cell 3⟩
              try apply Lst_nil
              apply rnQ_n
              refine ⟨hS2, ?_⟩
              clear hS
              have hS := hS2
              clear hS2
              refine S_takeV 25 2 rfl (by kernel_rfl) calm_no hS ?_
              (refine Qb ?_)
              refine S_takeV 26 1 rfl (by kernel_rfl) calm_no hS ?_
              (refine Qb ?_)
              refine S_any [27] 0 rfl (by kernel_rfl) (all1 ?_)
              (refine Ga ?_)
              have hS2 : CellN ((wP.putObj lb (.cells (lcs p (.slice pa (g.files ++ [(nm g.name g.age g.files.length)]).length pc) (.slice da g.dirty.length dc) { g with files := g.files ++ [(nm g.name g.age g.files.length)], dead := false }).toArray 53)).putObj lb (.cells (lcs p (.slice pa (g.files ++ [(nm g.name g.age g.files.length)]).length pc) (.slice da g.dirty.length dc) { g with files := g.files ++ [(nm g.name g.age g.files.length)], size := 0, dead := false }).toArray 53)) h lb g := ⟨(Blk.put_ne hhl (Blk.put_ne hhl kbP)).cell 0, (Blk.put_same (by rw [World.putObj_size]; exact hltP) _ _).cell 1, (Blk.put_same (by rw [World.putObj_size]; exact hltP) _ _).cell 3⟩
              try apply Lst_nil
              apply rnQ_n
              refine ⟨hS2, ?_⟩
              clear hS
              have hS := hS2
              clear hS2
              refine S_done (by kernel_rfl) ?_
              refine calm_n ?_
              have hL9 := hLP.put (g' := { g with files := g.files ++ [(nm g.name g.age g.files.length)], size := 0, dead := false }) rfl rfl
              have c9 : Chg [lb] wP ((wP.putObj lb (.cells (lcs p (.slice pa (g.files ++ [(nm g.name g.age g.files.length)]).length pc) (.slice da g.dirty.length dc) { g with files := g.files ++ [(nm g.name g.age g.files.length)], dead := false }).toArray 53)).putObj lb (.cells (lcs p (.slice pa (g.files ++ [(nm g.name g.age g.files.length)]).length pc) (.slice da g.dirty.length dc) { g with files := g.files ++ [(nm g.name g.age g.files.length)], size := 0, dead := false }).toArray 53)) := (chg1 _).put (.inl (by simp)) _
              have c9' : Chg (lb :: rowsOf (.slice fa g.files.length fc) (.slice da g.dirty.length dc)) wS ((wP.putObj lb (.cells (lcs p (.slice pa (g.files ++ [(nm g.name g.age g.files.length)]).length pc) (.slice da g.dirty.length dc) { g with files := g.files ++ [(nm g.name g.age g.files.length)], dead := false }).toArray 53)).putObj lb (.cells (lcs p (.slice pa (g.files ++ [(nm g.name g.age g.files.length)]).length pc) (.slice da g.dirty.length dc) { g with files := g.files ++ [(nm g.name g.age g.files.length)], size := 0, dead := false }).toArray 53)) := cP'.trans (c9.mono (by simp))
              have hx9 := hxc.chg c9' (hLc.out hxc.kb (by decide) (by decide)) (hLc.out hxc.ke (by decide) (by decide)) (hLc.out hxc.kX (by decide) (by decide)) (hLc.out hxc.kY (by decide) (by decide))
              have hC9 : Chg (foot lb p mb (.slice fa g.files.length fc) (.slice da g.dirty.length dc)) w ((wP.putObj lb (.cells (lcs p (.slice pa (g.files ++ [(nm g.name g.age g.files.length)]).length pc) (.slice da g.dirty.length dc) { g with files := g.files ++ [(nm g.name g.age g.files.length)], dead := false }).toArray 53)).putObj lb (.cells (lcs p (.slice pa (g.files ++ [(nm g.name g.age g.files.length)]).length pc) (.slice da g.dirty.length dc) { g with files := g.files ++ [(nm g.name g.age g.files.length)], size := 0, dead := false }).toArray 53)) := hcc.trans (c9'.mono (fun k hk => by
                rcases List.mem_cons.1 hk with e | hk
                · rw [e]; exact List.mem_cons_self
                · exact List.mem_cons_of_mem _ (List.mem_cons_of_mem _ (List.mem_cons_of_mem _ hk))))
              have hE9 : Base W0 ((wP.putObj lb (.cells (lcs p (.slice pa (g.files ++ [(nm g.name g.age g.files.length)]).length pc) (.slice da g.dirty.length dc) { g with files := g.files ++ [(nm g.name g.age g.files.length)], dead := false }).toArray 53)).putObj lb (.cells (lcs p (.slice pa (g.files ++ [(nm g.name g.age g.files.length)]).length pc) (.slice da g.dirty.length dc) { g with files := g.files ++ [(nm g.name g.age g.files.length)], size := 0, dead := false }).toArray 53)) := hE.chg hC9 hlow
              have hi9 := Dk.Ints.chg hic c9' hLc.n8
              have hD9 := dk_log hDc hLc c9'
              (refine Ga ?_)
              exact cutQ_n (α := Value) _ ⟨hL9, hD9, hx9, hi9, hC9, fun k hk => (hbP k hk).imp id (fun h9 => Nat.le_trans hcc.size h9), hE9⟩ ⟨rfl, rfl, rfl, trivial⟩
    rintro J3 fv1 B ⟨hLB, hDB, hxB, hiB, hcB, hfB, hEB⟩
    have hseg := seg1_pos g b
    have hsl := seg1_len g b
    have hss := seg1_size g b
    obtain ⟨f1, f1c, rfl, _⟩ := hLB.files.form
    obtain ⟨gb, go, rfl⟩ := hLB.files.some (by intro e; have e2 : (g.seg1 b).1 = [] := e; rw [e2] at hseg; exact absurd hseg (Nat.lt_irrefl _))
    obtain ⟨n, hn⟩ : ∃ n, n = g.last1 b := ⟨_, rfl⟩
    have hx : B.cell? ⟨gb, go + ((g.seg1 b).1.length - 1), none⟩ = some (.string n) := by
      have hl1 : (g.seg1 b).1.length - 1 < (g.seg1 b).1.length := by omega
      have := NmO.at hLB.files (j := (g.seg1 b).1.length - 1) hl1
      rw [this, hn]
      unfold Lg.last1
      rw [List.getElem?_eq_getElem hl1]
      rfl
    have hgl : gb < B.heap.size := hLB.files.lt rfl
    rw [← hn]
    dsimp only at hLB
    have hwl : arith .sub .i64 ((g.seg1 b).1.length : Int) 1 = (((g.seg1 b).1.length - 1 : Nat) : Int) := by
      rw [show (((g.seg1 b).1.length - 1 : Nat) : Int) = ((g.seg1 b).1.length : Int) - 1 by omega]
      exact wi64 (by omega) (by omega)
    have hBB := hLB.blk
    unfold lcs at hBB
    dsimp only at hBB
    have hltB := hBB.lt
    have hkB := hxB.kb
    have hklB := hkB.lt
    have hltp : (g.seg1 b).1.length - 1 < (g.seg1 b).1.length := by omega
    (refine Ga ?_)
    refine W_draws (Dk.Grown _) rfl (by kernel_rfl) (Dk.grown_start _) ?_
    (refine Qb ?_)
    apply Qst_loadc
    focus rfl
    focus rfl
    focus rfl
    focus exact fun A9 hA9 => (World.cell?_of_block (a := ⟨gb, _, none⟩) (hA9.block _ hgl)).trans hx
    focus rfl
    (refine Qb ?_)
    intro w3 hb3
    have kb3 := hxB.kb.below hb3 hxB.kb.lt
    have hL3 := hLB.below hb3
    have hD3 := hDB.below hb3
    have hx3 := hxB.below hb3
    have hi3 := Ints.below hiB hb3 (Nat.le_refl _)
    have hc3 := hcB.trans (.of hb3)
    have hl3 := kb3.lt
    (refine Ga ?_)
    refine W_calm ?_
    refine W_drawS 10 (fun A => CellB A h lb p) rfl rfl ?_
    have hbd : Below w3.heap.size w3 w3.drew := Below.drew (Below.refl _ _)
    have hL4 := hL3.below hbd
    have hD4 := hD3.below hbd
    have hx4 := hx3.below hbd
    have hi4 := Ints.below hi3 hbd (Nat.le_refl _)
    have hc4 := hc3.trans (.of hbd)
    have hS : CellB w3.drew h lb p := ⟨hx4.kb.cell 0, hL4.blk.cell 0⟩
    refine S_takeV 0 9 rfl (by kernel_rfl) calm_no hS ?_
    apply Qst_loadc
    focus rfl
    focus rfl
    focus rfl
    focus exact fun A9 hA9 => hA9.1
    focus rfl
    (refine Qb ?_)
    refine S_takeV 1 8 rfl (by kernel_rfl) calm_no hS ?_
    apply Qst_loadc
    focus rfl
    focus rfl
    focus rfl
    focus exact fun A9 hA9 => hA9.1
    focus rfl
    (refine Qb ?_)
    refine S_takeV 2 7 rfl (by kernel_rfl) calm_no hS ?_
    (refine Qb ?_)
    refine S_takeV 3 6 rfl (by kernel_rfl) calm_no hS ?_
    (refine Qb ?_)
    refine S_takeV 4 5 rfl (by kernel_rfl) calm_no hS ?_
    apply Qst_loadc
    focus rfl
    focus rfl
    focus rfl
    focus exact fun A9 hA9 => hA9.2
    focus rfl
    (refine Qb ?_)
    refine S_takeV 5 4 rfl (by kernel_rfl) calm_no hS ?_
    (refine Qb ?_)
    refine S_takeV 6 3 rfl (by kernel_rfl) calm_no hS ?_
    (refine Qb ?_)
    refine S_any [7] 2 rfl (by kernel_rfl) (all1 ?_)
    (apply Lst_call; (focus rfl); (focus rfl))
    refine (c_Append p mb d hc n _ (rec1 g.recs b) (by rw [rec_len]; omega) (Nat.le_trans (file_used d _) (by omega)) w3.drew hD4 hi4).mono ?_
    rintro v w5 ⟨rfl, hD5, hk5⟩
    have hdk := hL4.disk hD4
    have hL5 := hL4.chg hk5 hdk.1 hdk.2
    have hbp : h ∉ [p, mb] ∧ h + 1 ∉ [p, mb] ∧ X ∉ [p, mb] ∧ Y ∉ [p, mb] := by simp; omega
    have hx5 := hx4.chg hk5 hbp.1 hbp.2.1 hbp.2.2.1 hbp.2.2.2
    have hc5 := hc4.trans (hk5.mono (by simp [foot]))
    have hS2 : CellB w5 h lb p := ⟨hx5.kb.cell 0, hL5.blk.cell 0⟩
    try apply Lst_nil
    apply rnQ_n
    refine ⟨hS2, ?_⟩
    clear hS
    have hS := hS2
    clear hS2
    refine S_any [8] 1 rfl (by kernel_rfl) (all1 ?_)
    (apply Lst_call; (focus rfl); (focus rfl))
    refine (c_may lb p mb _ _ _ _ (d.append n (rec1 g.recs b)).1 w5 hL5 hD5).mono ?_
    rintro v w6 ⟨rfl, hL6, hD6, hk6⟩
    have hbl4 : h ∉ [lb] ∧ h + 1 ∉ [lb] ∧ X ∉ [lb] ∧ Y ∉ [lb] := by simp; omega
    have hx6 := hx5.chg hk6 hbl4.1 hbl4.2.1 hbl4.2.2.1 hbl4.2.2.2
    have hc6 := hc5.trans (hk6.mono (by simp [foot]))
    have hS2 : CellB w6 h lb p := ⟨hx6.kb.cell 0, hL6.blk.cell 0⟩
    have hke6 := hx6.ke
    have hkl6 := hke6.lt
    try apply Lst_nil
    apply rnQ_n
    refine ⟨hS2, ?_⟩
    clear hS
    have hS := hS2
    clear hS2
    refine S_any [9] 0 rfl (by kernel_rfl) (all1 ?_)
    (refine Ga ?_)
    have hk7 : Chg [h + 1] w6 (w6.putObj (h + 1) (.cells [.int .i64 (d.append n (rec1 g.recs b)).1].toArray 29)) := chg1 _
    have hout := hL6.out hx6.ke (by decide) (by decide)
    have hL7 := hL6.chg hk7 (fun e => hout (by rw [List.mem_singleton.1 e]; simp)) (fun k hk e => hout (by rw [← List.mem_singleton.1 e]; exact List.mem_cons_of_mem _ hk))
    have hD7 := dk_put hD6 (by omega) (by omega) hx6.ke (.cells [.int .i64 (d.append n (rec1 g.recs b)).1].toArray 29)
    have hx7 : Bx (w6.putObj (h + 1) (.cells [.int .i64 (d.append n (rec1 g.recs b)).1].toArray 29)) h lb X Y (d.append n (rec1 g.recs b)).1 g.files.length g.size := ⟨Blk.put_ne (by omega) hx6.kb, Blk.put_same hkl6 _ _, Blk.put_ne (by omega) hx6.kX, Blk.put_ne (by omega) hx6.kY⟩
    have hc7 := Chg.trans' hc6 hk7 (fun k hk => .inr (by rw [List.mem_singleton.1 hk, hh]; omega))
    have hS2 : CellB (w6.putObj (h + 1) (.cells [.int .i64 (d.append n (rec1 g.recs b)).1].toArray 29)) h lb p := ⟨hx7.kb.cell 0, hL7.blk.cell 0⟩
    try apply Lst_nil
    apply rnQ_n
    refine ⟨hS2, ?_⟩
    clear hS
    have hS := hS2
    clear hS2
    refine S_done (by kernel_rfl) ?_
    refine calm_n ?_
    generalize w6.putObj (h + 1) (.cells [.int .i64 (d.append n (rec1 g.recs b)).1].toArray 29) = w7 at *
    clear hL6 hD6 hx6 hk7 hke6 hkl6 hc6 hk6 hL5 hD5 hx5 hk5 hc5 hL4 hD4 hx4 hi4 hc4
    have hke7 := hx7.ke
    have hkl7 := hke7.lt
    by_cases he : ¬ (d.append n (rec1 g.recs b)).1 = 0
    · rw [if_neg he]
      have hwe := put_blk hke7
      (refine Ga ?_)
      rw [hwe]
      intro t ht hs
      refine leave1 (cs := [.pointer (some ⟨h + 1, 0, none⟩), .pointer (some ⟨h, 0, none⟩), .pointer (some ⟨X, 0, none⟩), .pointer (some ⟨Y, 0, none⟩)]) (by simp) hE' _ (D_app1 h lb p X Y (h + 1) g.files.length g.size (d.append n (rec1 g.recs b)).1 he _ _ _ w7 hx7.ke hx7.kb hx7.kX hx7.kY (seg1_take g b).2 (by omega) (by omega) (by omega) (by omega) hL7) ?_
      rintro w' ⟨hke', hk', fv', hL', hf'⟩
      have hq : retQ Tryz.prog [.cell 4 29] (AppR w lb p mb (.slice fa g.files.length fc) (.slice da g.dirty.length dc) ((d.append n (rec1 g.recs b)).1, { g with dead := decide ((d.append n (rec1 g.recs b)).1 = 43) }, (d.append n (rec1 g.recs b)).2)) .ret (fun i => t.getD i undef) [] w' :=
        by
          refine retQ1c (F := fun i => t.getD i undef) (hs 4) Tryz.underlying29 rfl hke' ?_
          refine ⟨rfl, fv', (.slice da g.dirty.length dc), ?_, dk_log hD7 hL7 (hk'.mono (by simp)), hc7.trans (hk'.mono (by simp [foot])), ?_⟩
          · have eL : { Lg.may { g with files := (g.seg1 b).1, size := (g.seg1 b).2, dead := false } (d.append n (rec1 g.recs b)).1 with files := (g.seg1 b).1.take g.files.length, size := g.size } = { g with dead := decide ((d.append n (rec1 g.recs b)).1 = 43) } := by
              unfold Lg.may
              rw [(seg1_take g b).1, Bool.false_or]
            exact eL ▸ hL'
          · intro k hk
            rcases List.mem_append.1 hk with hk | hk
            · rcases hfB k (hf' k (by simpa using hk)) with h9 | h9
              · exact .inl (List.mem_append.2 (.inl (by rw [h9]; simp)))
              · exact .inr h9
            · exact .inl (List.mem_append.2 (.inr hk))
      unfold retQ at hq
      obtain ⟨_, vs, hv, hR'⟩ := hq
      exact ⟨_, run_results (rs := [.cell 4 29]) rfl (by decide) (⟨ht, rfl, fun _ => rfl⟩ : Fits _ _ [] ⟨t, []⟩) hv, hR'⟩
    have he' := Classical.not_not.1 he
    rw [if_pos he']
    rw [he'] at hx7 hL7
    have hL8 : LgAt w7 lb p (.slice (some ⟨gb, go, none⟩) (g.seg1 b).1.length f1c) (.slice da g.dirty.length dc) { g with files := (g.seg1 b).1, size := (g.seg1 b).2, dead := false } := hL7
    have hB8 := hL8.blk
    unfold lcs at hB8
    dsimp only at hB8
    have hlt8 := hB8.lt
    have hke8 := hx7.ke
    have hkb8 := hx7.kb
    have hkbl8 := hkb8.lt
    have hhl : h ≠ lb := by omega
    have hwA : arith .add .i64 ((g.seg1 b).2 : Int) ((20 + b.length : Nat) : Int) = (((g.seg1 b).2 + (20 + b.length) : Nat) : Int) := wi64 (by omega) (by omega)
    have hwB : arith .add .i64 (g.recs : Int) 1 = ((g.recs + 1 : Nat) : Int) := wi64 (by omega) (by omega)
    have hP1 := hL8.put (g' := { g with files := (g.seg1 b).1, size := (g.seg1 b).2 + (20 + b.length), dead := false }) rfl rfl
    have hP2 := hP1.put (g' := { g with files := (g.seg1 b).1, size := (g.seg1 b).2 + (20 + b.length), recs := g.recs + 1, dead := false }) rfl rfl
    have cP2 : Chg [lb] w7 _ := ((Chg.refl [lb] w7).put (b := lb) (.inl (by simp)) (.cells (lcs p (.slice (some ⟨gb, go, none⟩) (g.seg1 b).1.length f1c) (.slice da g.dirty.length dc) { g with files := (g.seg1 b).1, size := (g.seg1 b).2 + (20 + b.length), dead := false }).toArray 53)).put (b := lb) (.inl (by simp)) (.cells (lcs p (.slice (some ⟨gb, go, none⟩) (g.seg1 b).1.length f1c) (.slice da g.dirty.length dc) { g with files := (g.seg1 b).1, size := (g.seg1 b).2 + (20 + b.length), recs := g.recs + 1, dead := false }).toArray 53)
    have hD8 := dk_log hD7 hL7 (cP2.mono (by simp))
    have hx8 := hx7.chg cP2 (by simp; omega) (by simp; omega) (by simp; omega) (by simp; omega)
    have hc8 := hc7.trans (cP2.mono (by simp [foot]))
    (refine Ga ?_)
    refine Lst_abs (fun A => LgAt A lb p (.slice (some ⟨gb, go, none⟩) (g.seg1 b).1.length f1c) (.slice da g.dirty.length dc) { g with files := (g.seg1 b).1, size := (g.seg1 b).2 + (20 + b.length), recs := g.recs + 1, dead := false } ∧ DkAt A p mb (d.append n (rec1 g.recs b)).2 ∧ Bx A h lb X Y 0 g.files.length g.size ∧ Chg (foot lb p mb (.slice fa g.files.length fc) (.slice da g.dirty.length dc)) w A) ⟨hP2, hD8, hx8, hc8⟩ ?_
    clear hP1 hP2 cP2 hD8 hx8 hc8
    rintro w9 ⟨hL9, hD9, hx9, hc9⟩
    (apply Lst_call; (focus rfl); (focus rfl))
    refine (c_Contains g.dirty n _ _ (Nat.le_trans hl2 (by decide)) w9 hL9.dirty.names).mono ?_
    rintro v w9' ⟨⟨r, rfl, hr⟩, rfl⟩
    have hke9 := hx9.ke
    have hkl9 := hke9.lt
    cases r with
    | true =>
      have hnin := hr.1 rfl
      (refine Ga ?_)
      rw [put_blk hke9]
      intro t ht hs
      refine leave1 (cs := [.pointer (some ⟨h + 1, 0, none⟩), .pointer (some ⟨h, 0, none⟩), .pointer (some ⟨X, 0, none⟩), .pointer (some ⟨Y, 0, none⟩)]) (by simp) hE' _ (D_app0 h X Y (h + 1) _ hke9) ?_
      intro w' hw'
      rw [hw']
      have hq : retQ Tryz.prog [.cell 4 29] (AppR w lb p mb (.slice fa g.files.length fc) (.slice da g.dirty.length dc) (0, { g with files := (g.seg1 b).1, size := (g.seg1 b).2 + (20 + b.length), recs := g.recs + 1, dirty := addN g.dirty n, dead := false }, (d.append n (rec1 g.recs b)).2)) .ret (fun i => t.getD i undef) [] w9 :=
        retQ1c (F := fun i => t.getD i undef) (hs 4) Tryz.underlying29 rfl hke9 ⟨rfl, (.slice (some ⟨gb, go, none⟩) (g.seg1 b).1.length f1c), (.slice da g.dirty.length dc), by rw [addN_in hnin]; exact hL9, hD9, hc9, fun k hk => by
              rcases List.mem_append.1 hk with hk | hk
              · rcases hfB k (by simpa using hk) with h9 | h9
                · exact .inl (List.mem_append.2 (.inl (by rw [h9]; simp)))
                · exact .inr h9
              · exact .inl (List.mem_append.2 (.inr hk))⟩
      unfold retQ at hq
      obtain ⟨_, vs, hv, hR'⟩ := hq
      exact ⟨_, run_results (rs := [.cell 4 29]) rfl (by decide) (⟨ht, rfl, fun _ => rfl⟩ : Fits _ _ [] ⟨t, []⟩) hv, hR'⟩
    | false =>
      have hnin : ¬ n ∈ g.dirty := fun e => Bool.noConfusion (hr.2 e)
      (refine Ga ?_)
      refine W_calm ?_
      refine W_drawS 11 (fun A => A.cell? ⟨h, 0, none⟩ = some (.pointer (some ⟨lb, 0, none⟩))) rfl rfl ?_
      have hbd : Below w9.heap.size w9 w9.drew := Below.drew (Below.refl _ _)
      have hL10 := hL9.below hbd
      have hD10 := hD9.below hbd
      have hx10 := hx9.below hbd
      have hc10 := hc9.trans (.of hbd)
      generalize w9.drew = w10 at *
      have hB10 := hL10.blk
      unfold lcs at hB10
      dsimp only at hB10
      have hlt10 := hB10.lt
      have hS : w10.cell? ⟨h, 0, none⟩ = some (.pointer (some ⟨lb, 0, none⟩)) := hx10.kb.cell 0
      refine S_takeV 0 10 rfl (by kernel_rfl) calm_no hS ?_
      apply Qst_loadc
      focus rfl
      focus rfl
      focus rfl
      focus exact fun A9 hA9 => hA9
      focus rfl
      (refine Qb ?_)
      refine S_takeV 1 9 rfl (by kernel_rfl) calm_no hS ?_
      apply Qst_loadc
      focus rfl
      focus rfl
      focus rfl
      focus exact fun A9 hA9 => hA9
      focus rfl
      (refine Qb ?_)
      refine S_takeV 2 8 rfl (by kernel_rfl) calm_no hS ?_
      (refine Qb ?_)
      refine S_takeV 3 7 rfl (by kernel_rfl) calm_no hS ?_
      (refine Qb ?_)
      refine S_takeV 5 6 rfl (by kernel_rfl) calm_no hS ?_
      (refine Qb ?_)
      refine S_any [4, 6] 5 rfl (by kernel_rfl) (all2 ?_ ?_)
      · (refine Ga ?_)
        have hS2 := hS
        try apply Lst_nil
        apply rnQ_n
        refine ⟨hS2, ?_⟩
        clear hS
        have hS := hS2
        clear hS2
        refine S_any [6] 4 rfl (by kernel_rfl) (all1 ?_)
        (apply Lst_slit; (focus rfl); (focus rfl); (focus rfl); (focus rfl); (focus rfl); (focus rfl); (focus rfl); (focus rfl); (focus rfl); (focus (repeat (first | apply FillO.nil | (apply FillO.cons; (focus constructor); (focus rfl); (focus rfl); (focus (repeat constructor)))))); (focus ((try simp only [Sx.sizes]); first | done | rfl)); (focus rfl))
        refine Lst_abs (fun W => Blk W w10.heap.size [.string n] 9 ∧ Below w10.heap.size w10 W) ⟨Blk.newE rfl _ _, Bel⟩ ?_
        rintro wS ⟨kS, hbS⟩
        have hLS := hL10.below hbS
        have hDS := hD10.below hbS
        have hxS := hx10.below hbS
        have hcS := hc10.trans (.of hbS)
        have hBS := hLS.blk
        unfold lcs at hBS
        dsimp only at hBS
        have hltS := hBS.lt
        have hS2 : wS.cell? ⟨h, 0, none⟩ = some (.pointer (some ⟨lb, 0, none⟩)) := hxS.kb.cell 0
        try apply Lst_nil
        apply rnQ_n
        refine ⟨hS2, ?_⟩
        clear hS
        have hS := hS2
        clear hS2
        refine S_any [7] 3 rfl (by kernel_rfl) (all1 ?_)
        apply Lst_pushO (h := hLS.dirty) (b := w10.heap.size) (c1 := 1) (y := n)
        focus rfl
        focus rfl
        focus exact kS.cell 0
        focus exact Nat.le_trans hl2 (by decide)
        focus rfl
        intro v' wP hnP hgP hbP0
        have hbP : ∀ k, v'.ownBlock = some k → (Value.slice da g.dirty.length dc).ownBlock = some k ∨ w10.heap.size ≤ k := fun k hk => (hbP0 k hk).imp id (fun h9 => Nat.le_trans hbS.size h9)
        obtain ⟨pa, pc, rfl, _⟩ := hnP.form
        obtain ⟨hbLP, hLP⟩ := hLS.dgrow hgP hnP hbP0
        have cP := Chg.grown hgP
        have cP' : Chg (lb :: rowsOf (.slice (some ⟨gb, go, none⟩) (g.seg1 b).1.length f1c) (.slice da g.dirty.length dc)) wS wP := cP.mono (fun k hk => List.mem_cons_of_mem _ (List.mem_append.2 (.inr hk)))
        have hxP := hxS.chg cP' (hLS.out hxS.kb (by decide) (by decide)) (hLS.out hxS.ke (by decide) (by decide)) (hLS.out hxS.kX (by decide) (by decide)) (hLS.out hxS.kY (by decide) (by decide))
        have hBP := hbLP
        unfold lcs at hBP
        dsimp only at hBP
        have hltP := hBP.lt
        have kbP := hxP.kb
        have hS2 : wP.cell? ⟨h, 0, none⟩ = some (.pointer (some ⟨lb, 0, none⟩)) := kbP.cell 0
        try apply Lst_nil
        apply rnQ_n
        refine ⟨hS2, ?_⟩
        clear hS
        have hS := hS2
        clear hS2
        refine S_takeV 8 2 rfl (by kernel_rfl) calm_no hS ?_
        (refine Qb ?_)
        refine S_takeV 9 1 rfl (by kernel_rfl) calm_no hS ?_
        (refine Qb ?_)
        refine S_any [10] 0 rfl (by kernel_rfl) (all1 ?_)
        (refine Ga ?_)
        have hS2 : (wP.putObj lb (.cells (lcs p (.slice (some ⟨gb, go, none⟩) (g.seg1 b).1.length f1c) (.slice pa (g.dirty ++ [n]).length pc) { g with files := (g.seg1 b).1, size := (g.seg1 b).2 + (20 + b.length), recs := g.recs + 1, dirty := g.dirty ++ [n], dead := false }).toArray 53)).cell? ⟨h, 0, none⟩ = some (.pointer (some ⟨lb, 0, none⟩)) := (Blk.put_ne (by omega) kbP).cell 0
        try apply Lst_nil
        apply rnQ_n
        refine ⟨hS2, ?_⟩
        clear hS
        have hS := hS2
        clear hS2
        refine S_done (by kernel_rfl) ?_
        refine calm_n ?_
        have c9' : Chg (lb :: rowsOf (.slice (some ⟨gb, go, none⟩) (g.seg1 b).1.length f1c) (.slice da g.dirty.length dc)) wS (wP.putObj lb (.cells (lcs p (.slice (some ⟨gb, go, none⟩) (g.seg1 b).1.length f1c) (.slice pa (g.dirty ++ [n]).length pc) { g with files := (g.seg1 b).1, size := (g.seg1 b).2 + (20 + b.length), recs := g.recs + 1, dirty := g.dirty ++ [n], dead := false }).toArray 53)) := cP'.trans ((chg1 _).mono (by simp))
        have hx11 := hxS.chg c9' (hLS.out hxS.kb (by decide) (by decide)) (hLS.out hxS.ke (by decide) (by decide)) (hLS.out hxS.kX (by decide) (by decide)) (hLS.out hxS.kY (by decide) (by decide))
        have hD11 := dk_log hDS hLS c9'
        have hC11 : Chg (foot lb p mb (.slice fa g.files.length fc) (.slice da g.dirty.length dc)) w (wP.putObj lb (.cells (lcs p (.slice (some ⟨gb, go, none⟩) (g.seg1 b).1.length f1c) (.slice pa (g.dirty ++ [n]).length pc) { g with files := (g.seg1 b).1, size := (g.seg1 b).2 + (20 + b.length), recs := g.recs + 1, dirty := g.dirty ++ [n], dead := false }).toArray 53)) := Chg.trans' hcS c9' (fun k hk => by
          rcases List.mem_cons.1 hk with e | hk
          · rw [e]; exact .inl List.mem_cons_self
          · rcases List.mem_append.1 hk with hk | hk
            · rcases hfB k (by simpa using hk) with h9 | h9
              · exact .inl (List.mem_cons_of_mem _ (List.mem_cons_of_mem _ (List.mem_cons_of_mem _ (List.mem_append.2 (.inl (by rw [h9]; simp))))))
              · exact .inr h9
            · exact .inl (List.mem_cons_of_mem _ (List.mem_cons_of_mem _ (List.mem_cons_of_mem _ (List.mem_append.2 (.inr hk))))))
        have hL11 : LgAt (wP.putObj lb (.cells (lcs p (.slice (some ⟨gb, go, none⟩) (g.seg1 b).1.length f1c) (.slice pa (g.dirty ++ [n]).length pc) { g with files := (g.seg1 b).1, size := (g.seg1 b).2 + (20 + b.length), recs := g.recs + 1, dirty := g.dirty ++ [n], dead := false }).toArray 53)) lb p (.slice (some ⟨gb, go, none⟩) (g.seg1 b).1.length f1c) (.slice pa (g.dirty ++ [n]).length pc) { g with files := (g.seg1 b).1, size := (g.seg1 b).2 + (20 + b.length), recs := g.recs + 1, dirty := g.dirty ++ [n], dead := false } := hLP
        show seqQ _ _ _ _ _ _ _ _ (wP.putObj lb (.cells (lcs p (.slice (some ⟨gb, go, none⟩) (g.seg1 b).1.length f1c) (.slice pa (g.dirty ++ [n]).length pc) { g with files := (g.seg1 b).1, size := (g.seg1 b).2 + (20 + b.length), recs := g.recs + 1, dirty := g.dirty ++ [n], dead := false }).toArray 53))
        generalize (wP.putObj lb (.cells (lcs p (.slice (some ⟨gb, go, none⟩) (g.seg1 b).1.length f1c) (.slice pa (g.dirty ++ [n]).length pc) { g with files := (g.seg1 b).1, size := (g.seg1 b).2 + (20 + b.length), recs := g.recs + 1, dirty := g.dirty ++ [n], dead := false }).toArray 53)) = w11 at *
        have hke11 := hx11.ke
        have hkl11 := hke11.lt
        (refine Ga ?_)
        rw [put_blk hke11]
        intro t ht hs
        refine leave1 (cs := [.pointer (some ⟨h + 1, 0, none⟩), .pointer (some ⟨h, 0, none⟩), .pointer (some ⟨X, 0, none⟩), .pointer (some ⟨Y, 0, none⟩)]) (by simp) hE' _ (D_app0 h X Y (h + 1) _ hke11) ?_
        intro w' hw'
        rw [hw']
        have hq : retQ Tryz.prog [.cell 4 29] (AppR w lb p mb (.slice fa g.files.length fc) (.slice da g.dirty.length dc) (0, { g with files := (g.seg1 b).1, size := (g.seg1 b).2 + (20 + b.length), recs := g.recs + 1, dirty := addN g.dirty n, dead := false }, (d.append n (rec1 g.recs b)).2)) .ret (fun i => t.getD i undef) [] w11 :=
          retQ1c (F := fun i => t.getD i undef) (hs 4) Tryz.underlying29 rfl hke11 ⟨rfl, (.slice (some ⟨gb, go, none⟩) (g.seg1 b).1.length f1c), (.slice pa (g.dirty ++ [n]).length pc), by rw [addN_out hnin]; exact hL11, hD11, hC11, fun k hk => by
                rcases List.mem_append.1 hk with hk | hk
                · rcases hfB k (by simpa using hk) with h9 | h9
                  · exact .inl (List.mem_append.2 (.inl (by rw [h9]; simp)))
                  · exact .inr h9
                · rcases hbP k (by simpa using hk) with h9 | h9
                  · exact .inl (List.mem_append.2 (.inr (by rw [h9]; simp)))
                  · exact .inr (Nat.le_trans hc10.size h9)⟩
        unfold retQ at hq
        obtain ⟨_, vs, hv, hR'⟩ := hq
        exact ⟨_, run_results (rs := [.cell 4 29]) rfl (by decide) (⟨ht, rfl, fun _ => rfl⟩ : Fits _ _ [] ⟨t, []⟩) hv, hR'⟩
      · (apply Lst_slit; (focus rfl); (focus rfl); (focus rfl); (focus rfl); (focus rfl); (focus rfl); (focus rfl); (focus rfl); (focus rfl); (focus (repeat (first | apply FillO.nil | (apply FillO.cons; (focus constructor); (focus rfl); (focus rfl); (focus (repeat constructor)))))); (focus ((try simp only [Sx.sizes]); first | done | rfl)); (focus rfl))
        refine Lst_abs (fun W => Blk W w10.heap.size [.string n] 9 ∧ Below w10.heap.size w10 W) ⟨Blk.newE rfl _ _, Bel⟩ ?_
        rintro wS ⟨kS, hbS⟩
        have hLS := hL10.below hbS
        have hDS := hD10.below hbS
        have hxS := hx10.below hbS
        have hcS := hc10.trans (.of hbS)
        have hBS := hLS.blk
        unfold lcs at hBS
        dsimp only at hBS
        have hltS := hBS.lt
        have hS2 : wS.cell? ⟨h, 0, none⟩ = some (.pointer (some ⟨lb, 0, none⟩)) := hxS.kb.cell 0
        try apply Lst_nil
        apply rnQ_n
        refine ⟨hS2, ?_⟩
        clear hS
        have hS := hS2
        clear hS2
        refine S_any [4] 4 rfl (by kernel_rfl) (all1 ?_)
        (refine Ga ?_)
        have hS2 := hS
        try apply Lst_nil
        apply rnQ_n
        refine ⟨hS2, ?_⟩
        clear hS
        have hS := hS2
        clear hS2
        refine S_any [7] 3 rfl (by kernel_rfl) (all1 ?_)
        apply Lst_pushO (h := hLS.dirty) (b := w10.heap.size) (c1 := 1) (y := n)
        focus rfl
        focus rfl
        focus exact kS.cell 0
        focus exact Nat.le_trans hl2 (by decide)
        focus rfl
        intro v' wP hnP hgP hbP0
        have hbP : ∀ k, v'.ownBlock = some k → (Value.slice da g.dirty.length dc).ownBlock = some k ∨ w10.heap.size ≤ k := fun k hk => (hbP0 k hk).imp id (fun h9 => Nat.le_trans hbS.size h9)
        obtain ⟨pa, pc, rfl, _⟩ := hnP.form
        obtain ⟨hbLP, hLP⟩ := hLS.dgrow hgP hnP hbP0
        have cP := Chg.grown hgP
        have cP' : Chg (lb :: rowsOf (.slice (some ⟨gb, go, none⟩) (g.seg1 b).1.length f1c) (.slice da g.dirty.length dc)) wS wP := cP.mono (fun k hk => List.mem_cons_of_mem _ (List.mem_append.2 (.inr hk)))
        have hxP := hxS.chg cP' (hLS.out hxS.kb (by decide) (by decide)) (hLS.out hxS.ke (by decide) (by decide)) (hLS.out hxS.kX (by decide) (by decide)) (hLS.out hxS.kY (by decide) (by decide))
        have hBP := hbLP
        unfold lcs at hBP
        dsimp only at hBP
        have hltP := hBP.lt
        have kbP := hxP.kb
        have hS2 : wP.cell? ⟨h, 0, none⟩ = some (.pointer (some ⟨lb, 0, none⟩)) := kbP.cell 0
        try apply Lst_nil
        apply rnQ_n
        refine ⟨hS2, ?_⟩
        clear hS
        have hS := hS2
        clear hS2
        refine S_takeV 8 2 rfl (by kernel_rfl) calm_no hS ?_
        (refine Qb ?_)
        refine S_takeV 9 1 rfl (by kernel_rfl) calm_no hS ?_
        (refine Qb ?_)
        refine S_any [10] 0 rfl (by kernel_rfl) (all1 ?_)
        (refine Ga ?_)
        have hS2 : (wP.putObj lb (.cells (lcs p (.slice (some ⟨gb, go, none⟩) (g.seg1 b).1.length f1c) (.slice pa (g.dirty ++ [n]).length pc) { g with files := (g.seg1 b).1, size := (g.seg1 b).2 + (20 + b.length), recs := g.recs + 1, dirty := g.dirty ++ [n], dead := false }).toArray 53)).cell? ⟨h, 0, none⟩ = some (.pointer (some ⟨lb, 0, none⟩)) := (Blk.put_ne (by omega) kbP).cell 0
        try apply Lst_nil
        apply rnQ_n
        refine ⟨hS2, ?_⟩
        clear hS
        have hS := hS2
        clear hS2
        refine S_done (by kernel_rfl) ?_
        refine calm_n ?_
        have c9' : Chg (lb :: rowsOf (.slice (some ⟨gb, go, none⟩) (g.seg1 b).1.length f1c) (.slice da g.dirty.length dc)) wS (wP.putObj lb (.cells (lcs p (.slice (some ⟨gb, go, none⟩) (g.seg1 b).1.length f1c) (.slice pa (g.dirty ++ [n]).length pc) { g with files := (g.seg1 b).1, size := (g.seg1 b).2 + (20 + b.length), recs := g.recs + 1, dirty := g.dirty ++ [n], dead := false }).toArray 53)) := cP'.trans ((chg1 _).mono (by simp))
        have hx11 := hxS.chg c9' (hLS.out hxS.kb (by decide) (by decide)) (hLS.out hxS.ke (by decide) (by decide)) (hLS.out hxS.kX (by decide) (by decide)) (hLS.out hxS.kY (by decide) (by decide))
        have hD11 := dk_log hDS hLS c9'
        have hC11 : Chg (foot lb p mb (.slice fa g.files.length fc) (.slice da g.dirty.length dc)) w (wP.putObj lb (.cells (lcs p (.slice (some ⟨gb, go, none⟩) (g.seg1 b).1.length f1c) (.slice pa (g.dirty ++ [n]).length pc) { g with files := (g.seg1 b).1, size := (g.seg1 b).2 + (20 + b.length), recs := g.recs + 1, dirty := g.dirty ++ [n], dead := false }).toArray 53)) := Chg.trans' hcS c9' (fun k hk => by
          rcases List.mem_cons.1 hk with e | hk
          · rw [e]; exact .inl List.mem_cons_self
          · rcases List.mem_append.1 hk with hk | hk
            · rcases hfB k (by simpa using hk) with h9 | h9
              · exact .inl (List.mem_cons_of_mem _ (List.mem_cons_of_mem _ (List.mem_cons_of_mem _ (List.mem_append.2 (.inl (by rw [h9]; simp))))))
              · exact .inr h9
            · exact .inl (List.mem_cons_of_mem _ (List.mem_cons_of_mem _ (List.mem_cons_of_mem _ (List.mem_append.2 (.inr hk))))))
        have hL11 : LgAt (wP.putObj lb (.cells (lcs p (.slice (some ⟨gb, go, none⟩) (g.seg1 b).1.length f1c) (.slice pa (g.dirty ++ [n]).length pc) { g with files := (g.seg1 b).1, size := (g.seg1 b).2 + (20 + b.length), recs := g.recs + 1, dirty := g.dirty ++ [n], dead := false }).toArray 53)) lb p (.slice (some ⟨gb, go, none⟩) (g.seg1 b).1.length f1c) (.slice pa (g.dirty ++ [n]).length pc) { g with files := (g.seg1 b).1, size := (g.seg1 b).2 + (20 + b.length), recs := g.recs + 1, dirty := g.dirty ++ [n], dead := false } := hLP
        show seqQ _ _ _ _ _ _ _ _ (wP.putObj lb (.cells (lcs p (.slice (some ⟨gb, go, none⟩) (g.seg1 b).1.length f1c) (.slice pa (g.dirty ++ [n]).length pc) { g with files := (g.seg1 b).1, size := (g.seg1 b).2 + (20 + b.length), recs := g.recs + 1, dirty := g.dirty ++ [n], dead := false }).toArray 53))
        generalize (wP.putObj lb (.cells (lcs p (.slice (some ⟨gb, go, none⟩) (g.seg1 b).1.length f1c) (.slice pa (g.dirty ++ [n]).length pc) { g with files := (g.seg1 b).1, size := (g.seg1 b).2 + (20 + b.length), recs := g.recs + 1, dirty := g.dirty ++ [n], dead := false }).toArray 53)) = w11 at *
        have hke11 := hx11.ke
        have hkl11 := hke11.lt
        (refine Ga ?_)
        rw [put_blk hke11]
        intro t ht hs
        refine leave1 (cs := [.pointer (some ⟨h + 1, 0, none⟩), .pointer (some ⟨h, 0, none⟩), .pointer (some ⟨X, 0, none⟩), .pointer (some ⟨Y, 0, none⟩)]) (by simp) hE' _ (D_app0 h X Y (h + 1) _ hke11) ?_
        intro w' hw'
        rw [hw']
        have hq : retQ Tryz.prog [.cell 4 29] (AppR w lb p mb (.slice fa g.files.length fc) (.slice da g.dirty.length dc) (0, { g with files := (g.seg1 b).1, size := (g.seg1 b).2 + (20 + b.length), recs := g.recs + 1, dirty := addN g.dirty n, dead := false }, (d.append n (rec1 g.recs b)).2)) .ret (fun i => t.getD i undef) [] w11 :=
          retQ1c (F := fun i => t.getD i undef) (hs 4) Tryz.underlying29 rfl hke11 ⟨rfl, (.slice (some ⟨gb, go, none⟩) (g.seg1 b).1.length f1c), (.slice pa (g.dirty ++ [n]).length pc), by rw [addN_out hnin]; exact hL11, hD11, hC11, fun k hk => by
                rcases List.mem_append.1 hk with hk | hk
                · rcases hfB k (by simpa using hk) with h9 | h9
                  · exact .inl (List.mem_append.2 (.inl (by rw [h9]; simp)))
                  · exact .inr h9
                · rcases hbP k (by simpa using hk) with h9 | h9
                  · exact .inl (List.mem_append.2 (.inr (by rw [h9]; simp)))
                  · exact .inr (Nat.le_trans hc10.size h9)⟩
        unfold retQ at hq
        obtain ⟨_, vs, hv, hR'⟩ := hq
        exact ⟨_, run_results (rs := [.cell 4 29]) rfl (by decide) (⟨ht, rfl, fun _ => rfl⟩ : Fits _ _ [] ⟨t, []⟩) hv, hR'⟩
end
end Wa
end Go.Proofs.YtfocnbmihcnaoaaGreatDoor
