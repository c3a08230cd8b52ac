/- (*Log).clean. -/
import Derived.Test.YtfocnbmihcnaoaaGreatDoorWaI
namespace Go.Proofs.YtfocnbmihcnaoaaGreatDoor
set_option maxRecDepth 100000
namespace Wa
open Go Go.RowKit Sx Wire Dk
/-- A name that a log may have made. -/
def Kn (n : ByteArray) : Prop := (∃ m a i, 46 ∉ m ∧ m.length ≤ 100 ∧ a < 2000000000 ∧ i < 2000000000 ∧ n = nm m a i) ∨ ∃ m, 46 ∉ m ∧ m.length ≤ 100 ∧ n = fresh m
open Classical in
/-- The age of a log's file. -/
noncomputable def ageP (m : List UInt8) (n : ByteArray) : Option Nat := if h : ∃ a i, a < 2000000000 ∧ i < 2000000000 ∧ n = nm m a i then some h.choose else none
theorem ageP_nm {m : List UInt8} {a i : Nat} (hm : 46 ∉ m) (ha : a < 2000000000) (hi : i < 2000000000) : ageP m (nm m a i) = some a := by
  have h : ∃ a' i', a' < 2000000000 ∧ i' < 2000000000 ∧ nm m a i = nm m a' i' := ⟨a, i, ha, hi, rfl⟩
  unfold ageP
  rw [dif_pos h]
  obtain ⟨i', h1, h2, h3⟩ := h.choose_spec
  have := nm_inj hm hm (by omega) (by omega) (by omega) (by omega) h3
  rw [← this.2.1]
theorem ageP_other {m m' : List UInt8} {a i : Nat} (hm : 46 ∉ m) (hm' : 46 ∉ m') (ha : a < 2000000000) (hi : i < 2000000000) (hne : m ≠ m') : ageP m (nm m' a i) = none := by
  unfold ageP
  rw [dif_neg]
  rintro ⟨a', i', h1, h2, h3⟩
  exact hne (nm_inj hm' hm (by omega) (by omega) (by omega) (by omega) h3).1.symm
theorem ageP_fresh {m m' : List UInt8} (hm' : 46 ∉ m') : ageP m (fresh m') = none := by
  unfold ageP
  rw [dif_neg]
  rintro ⟨a', i', h1, h2, h3⟩
  exact nm_fresh hm' h3.symm
/-- Is it the log's, and none of these files? -/
def mine (m : List UInt8) (fs : List ByteArray) (n : ByteArray) : Prop := ((ageP m n).isSome = true ∨ n = fresh m) ∧ n ∉ fs
open Classical in
noncomputable def delM2 (m : List UInt8) (fs : List ByteArray) (d : Dsk) : List (List UInt8) → Int × Dsk
  | [] => (0, d)
  | s :: r => if mine m fs (bs s) then (if (d.delete (bs s)).1 = 0 then delM2 m fs (d.delete (bs s)).2 r else d.delete (bs s)) else delM2 m fs d r
def truM (d : Dsk) (last : Nat) (n : ByteArray) (r : List ByteArray) : Int × Dsk := if r = [] then d.truncate n (last : Int) else (0, d)
def synM (d : Dsk) (last : Nat) : List ByteArray → Int × Dsk
  | [] => (0, d)
  | n :: r => if (truM d last n r).1 = 0 then (if ((truM d last n r).2.sync n).1 = 0 then synM ((truM d last n r).2.sync n).2 last r else (truM d last n r).2.sync n) else truM d last n r
noncomputable def cleanM (m : List UInt8) (fs : List ByteArray) (d : Dsk) (last : Nat) : Int × Dsk := if (delM2 m fs d d.list).1 = 0 then synM (delM2 m fs d d.list).2 last fs else delM2 m fs d d.list
theorem cut_trunc (d : Dsk) (n : ByteArray) (z : Int) : (d.truncate n z).2.cut ≤ d.cut := by
  unfold Dsk.truncate
  split
  · exact cut_done { d with es := Sx.put d.es n ⟨(d.file n).b.take (cutTo (d.file n) z), min (d.file n).safe (cutTo (d.file n) z)⟩ }
  · exact Int.le_refl _
section
attribute [local irreducible] RnS RnT
attribute [local irreducible] W Lst Qst Pu seqQ blkQ rndQ cutQ retQ Does Enters IntKind.wrap bits sb World.alloc World.putObj Blk
theorem c_ageK (m : List UInt8) (n : ByteArray) (hk : Kn n) (hm : 46 ∉ m) (w : World) (hE : Env w) :
    Does Tryz.prog 21 #[.string (bs m), .string n] w fun v w' => v = .tuple #[.int .u64 (((ageP m n).getD 0 : Nat) : Int), .bool (ageP m n).isSome] ∧ Below w.heap.size w w' := by
  rcases hk with ⟨m', a, i, h1, h2, h3, h4, rfl⟩ | ⟨m', h1, h2, rfl⟩
  · refine (c_ageOf m m' a i h2 h1 (by omega) (by omega) w hE).mono ?_
    rintro v w' ⟨rfl, hb⟩
    refine ⟨?_, hb⟩
    by_cases e : m = m'
    · subst e
      rw [ageP_nm hm h3 h4, if_pos rfl, decide_eq_true rfl]
      rfl
    · rw [ageP_other hm h1 h3 h4 e, if_neg e, decide_eq_false e]
      rfl
  · refine (c_ageOf0 m m' h2 h1 w hE).mono ?_
    rintro v w' ⟨rfl, hb⟩
    rw [ageP_fresh h1]
    exact ⟨rfl, hb⟩
theorem c_clean (lb p mb last : Nat) (fv dv : Value) (g : Lg) (d : Dsk) (hc : d.cut < 9223372036854775808) (hnames : Names d) (hkn : ∀ s ∈ d.list, Kn (bs s)) (hm : 46 ∉ g.name) (hnm : g.name.length ≤ 100) (hfl : g.files.length ≤ 1000000) (W0 w : World) (hE : Base W0 w) (hlb : W0.heap.size ≤ lb) (hp : W0.heap.size ≤ p) (hmb : W0.heap.size ≤ mb)
    (h : LgAt w lb p fv dv g) (hd : DkAt w p mb d) :
    Does Tryz.prog 23 #[.pointer (some ⟨lb, 0, none⟩), .int .i64 (last : Int)] w fun v w' => v = .int .i64 (cleanM g.name g.files d last).1 ∧ (∃ g', LgAt w' lb p fv dv g' ∧ ((cleanM g.name g.files d last).1 = 0 → g' = { g with size := last })) ∧ DkAt w' p mb (cleanM g.name g.files d last).2 ∧ Chg [lb, p, mb] w w' := by
  refine Does_of (args := [.pointer (some ⟨lb, 0, none⟩), .int .i64 (last : Int)]) Tryz.func23 (by kernel_rfl) rfl rfl rfl rfl rfl ?_
  obtain ⟨fa, fc, rfl, _⟩ := h.files.form
  obtain ⟨da, dc, rfl, _⟩ := h.dirty.form
  have hB := h.blk
  unfold lcs at hB
  have hlt := hB.lt
  (refine Ga ?_)
  (apply Lst_call; (focus rfl); (focus rfl))
  refine (c_List p mb d hnames w hd).mono ?_
  rintro v w1 ⟨hss, hb1⟩
  obtain ⟨sa, sc, rfl⟩ := hss.form
  have hL1 := h.below hb1
  have hD1 := hd.below hb1
  have hc1 : Chg [lb, p, mb] w w1 := .of hb1
  have hlen : d.list.length ≤ 1000000 := by
    unfold Dsk.list
    split
    · exact Nat.zero_le _
    · rw [keysS_len]
      exact hnames.2
  unfold cleanM
  generalize d.list = ss at *
  (refine Ga ?_)
  refine Tl.W_cutB (α := Dsk) (fun _ => [(0, .pointer (some ⟨lb, 0, none⟩)), (1, .int .i64 (last : Int))])
    (fun d2 A => LgAt A lb p (.slice fa g.files.length fc) (.slice da g.dirty.length dc) g ∧ DkAt A p mb d2 ∧ delM2 g.name g.files d ss = (0, d2) ∧ d2.cut < 9223372036854775808 ∧ Chg [lb, p, mb] w A) ?_ ?_
  · refine W_loop (α := Nat × Dsk) (fun x => [(0, .pointer (some ⟨lb, 0, none⟩)), (1, .int .i64 (last : Int)), (18, .slice sa ss.length sc), (19, .int .i64 (ss.length : Int)), (20, .int .i64 (x.1 : Int))])
      (fun x A => x.1 ≤ ss.length ∧ LgAt A lb p (.slice fa g.files.length fc) (.slice da g.dirty.length dc) g ∧ DkAt A p mb x.2 ∧ Strs A (.slice sa ss.length sc) ss ∧ delM2 g.name g.files x.2 (ss.drop x.1) = delM2 g.name g.files d ss ∧ x.2.cut < 9223372036854775808 ∧ Chg [lb, p, mb] w A) (fun x _ => ss.length - x.1) (0, d) ⟨Nat.zero_le _, hL1, hD1, hss, rfl, hc, hc1⟩ ⟨rfl, rfl, rfl, rfl, rfl, trivial⟩ ?_
    clear hL1 hD1 hss hc1 hb1 w1
    rintro J ⟨i, d2⟩ A ⟨hi, hL, hD, hS, hM, hcut, hch⟩
    dsimp only at hi hL hD hS hM hcut ⊢
    have hEA : Base W0 A := hE.chg hch (by simp; omega)
    have hBA := hL.blk
    unfold lcs at hBA
    have hltA := hBA.lt
    by_cases hil : i < ss.length
    · obtain ⟨sb, rfl, hx⟩ := hS.at hil
      have hdr : ss.drop i = ss[i] :: ss.drop (i + 1) := List.drop_eq_getElem_cons hil
      have hK := hkn ss[i] (List.getElem_mem hil)
      have hx' : A.cell? ⟨sb, 0 + i, none⟩ = some (.string (bs ss[i])) := by rw [Nat.zero_add]; exact hx
      generalize ss[i] = s at *
      (refine Ga ?_)
      (apply Lst_call; (focus rfl); (focus rfl))
      refine (c_ageK g.name (bs s) hK hm A hEA.now).mono ?_
      rintro v w2 ⟨rfl, hb2⟩
      have hL2 := hL.below hb2
      have hD2 := hD.below hb2
      have hS2 := hS.below hb2
      have hc2 := hch.trans (.of hb2)
      have hB2 := hL2.blk
      unfold lcs at hB2
      have hlt2 := hB2.lt
      cases hA : (ageP g.name (bs s)).isSome with
      | true =>
        (refine Ga ?_)
        (apply Lst_call; (focus rfl); (focus rfl))
        refine (c_Contains g.files (bs s) fa fc hfl w2 hL2.files.names).mono ?_
        rintro v w3 ⟨⟨r, rfl, hr⟩, hw3⟩
        subst hw3
        cases r with
        | true =>
          have hmine : ¬ mine g.name g.files (bs s) := fun h9 => h9.2 (hr.1 rfl)
          have hM2 : delM2 g.name g.files d2 (ss.drop (i + 1)) = delM2 g.name g.files d ss := by
            rw [← hM, hdr]
            conv => rhs; unfold delM2
            rw [if_neg hmine]
          (refine Ga ?_)
          refine rndQ_n (α := Nat × Dsk) (i + 1, d2) ⟨hil, hL2, hD2, hS2, hM2, ?_, hc2⟩ ⟨rfl, rfl, rfl, rfl, ?_, trivial⟩ (by dsimp only; omega)
          · exact hcut
          · exact congrArg (Value.int .i64) (by dsimp only; omega)
        | false =>
          have hmine : mine g.name g.files (bs s) := ⟨.inl hA, fun h9 => Bool.noConfusion (hr.2 h9)⟩
          (refine Ga ?_)
          (apply Lst_call; (focus rfl); (focus rfl))
          refine (c_Delete p mb d2 hcut (bs s) _ hD2).mono ?_
          rintro v w4 ⟨rfl, hD4, hc4⟩
          have hk := hL2.disk hD2
          have hL4 := hL2.chg hc4 hk.1 hk.2
          have hcc4 := hc2.trans (hc4.mono (by simp))
          have hS4 := hS2.chg hc4 hD2.ns
          by_cases he : (d2.delete (bs s)).1 = 0
          · have hM2 : delM2 g.name g.files (d2.delete (bs s)).2 (ss.drop (i + 1)) = delM2 g.name g.files d ss := by
              rw [← hM, hdr]
              conv => rhs; unfold delM2
              rw [if_pos hmine, if_pos he]
            rw [he]
            (refine Ga ?_)
            refine rndQ_n (α := Nat × Dsk) (i + 1, (d2.delete (bs s)).2) ⟨hil, hL4, hD4, hS4, hM2, ?_, hcc4⟩ ⟨rfl, rfl, rfl, rfl, ?_, trivial⟩ (by dsimp only; omega)
            · have := cut_delete d2 (bs s)
              dsimp only
              omega
            · exact congrArg (Value.int .i64) (by dsimp only; omega)
          · have hM2 : delM2 g.name g.files d ss = d2.delete (bs s) := by
              rw [← hM, hdr]
              unfold delM2
              rw [if_pos hmine, if_neg he]
            rw [hM2, if_neg he]
            (refine Ga ?_)
            (apply retQ1; (focus rfl))
            exact ⟨rfl, ⟨_, hL4, fun e => absurd e he⟩, hD4, hcc4⟩
      | false =>
        (refine Ga ?_)
        apply Lst_pu
        · apply P_saddB (p := g.name) (q := [126])
          focus rfl
          focus rfl
          focus (simp only [List.length_cons, List.length_nil]; omega)
        focus rfl
        by_cases hf : bs s = bs (g.name ++ [126])
        · (refine Ga ?_)
          (apply Lst_call; (focus rfl); (focus rfl))
          refine (c_Contains g.files (bs s) fa fc hfl w2 hL2.files.names).mono ?_
          rintro v w3 ⟨⟨r, rfl, hr⟩, hw3⟩
          subst hw3
          cases r with
          | true =>
            have hmine : ¬ mine g.name g.files (bs s) := fun h9 => h9.2 (hr.1 rfl)
            have hM2 : delM2 g.name g.files d2 (ss.drop (i + 1)) = delM2 g.name g.files d ss := by
              rw [← hM, hdr]
              conv => rhs; unfold delM2
              rw [if_neg hmine]
            (refine Ga ?_)
            refine rndQ_n (α := Nat × Dsk) (i + 1, d2) ⟨hil, hL2, hD2, hS2, hM2, ?_, hc2⟩ ⟨rfl, rfl, rfl, rfl, ?_, trivial⟩ (by dsimp only; omega)
            · exact hcut
            · exact congrArg (Value.int .i64) (by dsimp only; omega)
          | false =>
            have hmine : mine g.name g.files (bs s) := ⟨.inr hf, fun h9 => Bool.noConfusion (hr.2 h9)⟩
            (refine Ga ?_)
            (apply Lst_call; (focus rfl); (focus rfl))
            refine (c_Delete p mb d2 hcut (bs s) _ hD2).mono ?_
            rintro v w4 ⟨rfl, hD4, hc4⟩
            have hk := hL2.disk hD2
            have hL4 := hL2.chg hc4 hk.1 hk.2
            have hcc4 := hc2.trans (hc4.mono (by simp))
            have hS4 := hS2.chg hc4 hD2.ns
            by_cases he : (d2.delete (bs s)).1 = 0
            · have hM2 : delM2 g.name g.files (d2.delete (bs s)).2 (ss.drop (i + 1)) = delM2 g.name g.files d ss := by
                rw [← hM, hdr]
                conv => rhs; unfold delM2
                rw [if_pos hmine, if_pos he]
              rw [he]
              (refine Ga ?_)
              refine rndQ_n (α := Nat × Dsk) (i + 1, (d2.delete (bs s)).2) ⟨hil, hL4, hD4, hS4, hM2, ?_, hcc4⟩ ⟨rfl, rfl, rfl, rfl, ?_, trivial⟩ (by dsimp only; omega)
              · have := cut_delete d2 (bs s)
                dsimp only
                omega
              · exact congrArg (Value.int .i64) (by dsimp only; omega)
            · have hM2 : delM2 g.name g.files d ss = d2.delete (bs s) := by
                rw [← hM, hdr]
                unfold delM2
                rw [if_pos hmine, if_neg he]
              rw [hM2, if_neg he]
              (refine Ga ?_)
              (apply retQ1; (focus rfl))
              exact ⟨rfl, ⟨_, hL4, fun e => absurd e he⟩, hD4, hcc4⟩
        · have hmine : ¬ mine g.name g.files (bs s) := fun h9 => h9.1.elim (fun h8 => by rw [hA] at h8; cases h8) hf
          have hM2 : delM2 g.name g.files d2 (ss.drop (i + 1)) = delM2 g.name g.files d ss := by
            rw [← hM, hdr]
            conv => rhs; unfold delM2
            rw [if_neg hmine]
          (refine Ga ?_)
          refine rndQ_n (α := Nat × Dsk) (i + 1, d2) ⟨hil, hL2, hD2, hS2, hM2, ?_, hc2⟩ ⟨rfl, rfl, rfl, rfl, ?_, trivial⟩ (by dsimp only; omega)
          · exact hcut
          · exact congrArg (Value.int .i64) (by dsimp only; omega)
    · (refine Ga ?_)
      refine cutQ_n (α := Dsk) d2 ⟨hL, hD, ?_, hcut, hch⟩ ⟨rfl, rfl, trivial⟩
      rw [← hM, List.drop_of_length_le (by omega)]
      rfl
  · rintro J d2 A ⟨hL, hD, hM, hcut, hch⟩
    rw [hM, if_pos rfl]
    have hBA := hL.blk
    unfold lcs at hBA
    have hltA := hBA.lt
    have hput := hL.put (g' := { g with size := last }) rfl rfl
    have hDp := dk_log hD hL ((chg1 (w := A) (lb := lb) (.cells (lcs p (.slice fa g.files.length fc) (.slice da g.dirty.length dc) { g with size := last }).toArray 53)).mono (by simp))
    have hcp := hch.put (b := lb) (.inl (by simp)) (.cells (lcs p (.slice fa g.files.length fc) (.slice da g.dirty.length dc) { g with size := last }).toArray 53)
    (refine Ga ?_)
    refine W_loop (α := Nat × Dsk) (fun x => [(0, .pointer (some ⟨lb, 0, none⟩)), (1, .int .i64 (last : Int)), (69, (.slice fa g.files.length fc)), (70, .int .i64 (g.files.length : Int)), (71, .int .i64 (x.1 : Int))])
      (fun x B => x.1 ≤ g.files.length ∧ LgAt B lb p (.slice fa g.files.length fc) (.slice da g.dirty.length dc) { g with size := last } ∧ DkAt B p mb x.2 ∧ synM x.2 last (g.files.drop x.1) = synM d2 last g.files ∧ x.2.cut < 9223372036854775808 ∧ Chg [lb, p, mb] w B) (fun x _ => g.files.length - x.1) (0, d2) ⟨Nat.zero_le _, hput, hDp, rfl, hcut, hcp⟩ ⟨rfl, rfl, rfl, rfl, rfl, trivial⟩ ?_
    clear hL hD hM hput hDp hcp hBA hltA hch
    rintro J ⟨i, d3⟩ B ⟨hi, hL, hD, hM2, hcut3, hch⟩
    dsimp only at hi hL hD hM2 hcut3 ⊢
    have hB := hL.blk
    unfold lcs at hB
    have hlt := hB.lt
    by_cases hil : i < g.files.length
    · obtain ⟨gb, go, rfl⟩ := hL.files.some (by intro e; have e2 : g.files = [] := e; rw [e2] at hil; exact absurd hil (Nat.not_lt_zero _))
      have hx := NmO.at hL.files (j := i) hil
      have hdr : g.files.drop i = g.files[i] :: g.files.drop (i + 1) := List.drop_eq_getElem_cons hil
      dsimp only at hx
      generalize g.files[i] = n at *
      have hwl : arith .sub .i64 (g.files.length : Int) 1 = ((g.files.length - 1 : Nat) : Int) := by
        rw [show ((g.files.length - 1 : Nat) : Int) = (g.files.length : Int) - 1 by omega]
        exact wi64 (by omega) (by omega)
      by_cases hend : i = g.files.length - 1
      · have hnil : g.files.drop (i + 1) = [] := List.drop_of_length_le (by omega)
        have htr : truM d3 last n (g.files.drop (i + 1)) = d3.truncate n (last : Int) := by
          unfold truM
          rw [if_pos hnil]
        (refine Ga ?_)
        (apply Lst_call; (focus rfl); (focus rfl))
        refine (c_Truncate p mb d3 hcut3 n (last : Int) _ hD).mono ?_
        rintro v w5 ⟨rfl, hD5, hc5⟩
        have hk5 := hL.disk hD
        have hL5 := hL.chg hc5 hk5.1 hk5.2
        have hcc5 := hch.trans (hc5.mono (by simp))
        have q5 := cut_trunc d3 n (last : Int)
        by_cases ht : (d3.truncate n (last : Int)).1 = 0
        · rw [ht]
          have hB5 := hL5.blk
          unfold lcs at hB5
          have hlt5 := hB5.lt
          (refine Ga ?_)
          (apply Lst_call; (focus rfl); (focus rfl))
          refine (c_Sync p mb (d3.truncate n (last : Int)).2 (by omega) n _ hD5).mono ?_
          rintro v w6 ⟨rfl, hD6, hc6⟩
          have hk6 := hL5.disk hD5
          have hL6 := hL5.chg hc6 hk6.1 hk6.2
          have hcc6 := hcc5.trans (hc6.mono (by simp))
          have hF6 : NmO w6 (.slice (some ⟨gb, go, none⟩) g.files.length fc) g.files := hL6.files
          have q6 := cut_sync (d3.truncate n (last : Int)).2 n
          by_cases hs : ((d3.truncate n (last : Int)).2.sync n).1 = 0
          · have hM3 : synM ((d3.truncate n (last : Int)).2.sync n).2 last (g.files.drop (i + 1)) = synM d2 last g.files := by
              rw [← hM2, hdr]
              conv => rhs; unfold synM
              rw [htr]
              first | rw [if_pos ht, if_pos hs] | rw [if_pos rfl, if_pos hs]
            rw [hs]
            (refine Ga ?_)
            refine rndQ_n (α := Nat × Dsk) (i + 1, ((d3.truncate n (last : Int)).2.sync n).2) ⟨hil, hL6, hD6, hM3, ?_, hcc6⟩ ⟨rfl, rfl, rfl, rfl, ?_, trivial⟩ (by dsimp only; omega)
            · dsimp only
              omega
            · exact congrArg (Value.int .i64) (by dsimp only; omega)
          · have hM3 : synM d2 last g.files = (d3.truncate n (last : Int)).2.sync n := by
              rw [← hM2, hdr]
              unfold synM
              rw [htr]
              first | rw [if_pos ht, if_neg hs] | rw [if_pos rfl, if_neg hs]
            rw [hM3]
            (refine Ga ?_)
            (apply retQ1; (focus rfl))
            exact ⟨rfl, ⟨_, hL6, fun e => absurd e hs⟩, hD6, hcc6⟩
        · have hM3 : synM d2 last g.files = d3.truncate n (last : Int) := by
            rw [← hM2, hdr]
            unfold synM
            rw [htr, if_neg ht]
          rw [hM3]
          (refine Ga ?_)
          (apply retQ1; (focus rfl))
          exact ⟨rfl, ⟨_, hL5, fun e => absurd e ht⟩, hD5, hcc5⟩
      · have hnil : ¬ g.files.drop (i + 1) = [] := fun e => by
          have := congrArg List.length e
          rw [List.length_drop, List.length_nil] at this
          omega
        have htr : truM d3 last n (g.files.drop (i + 1)) = (0, d3) := by
          unfold truM
          rw [if_neg hnil]
        have hB5 := hL.blk
        unfold lcs at hB5
        have hlt5 := hB5.lt
        (refine Ga ?_)
        (apply Lst_call; (focus rfl); (focus rfl))
        refine (c_Sync p mb d3 (by omega) n _ hD).mono ?_
        rintro v w6 ⟨rfl, hD6, hc6⟩
        have hk6 := hL.disk hD
        have hL6 := hL.chg hc6 hk6.1 hk6.2
        have hcc6 := hch.trans (hc6.mono (by simp))
        have hF6 : NmO w6 (.slice (some ⟨gb, go, none⟩) g.files.length fc) g.files := hL6.files
        have q6 := cut_sync d3 n
        by_cases hs : (d3.sync n).1 = 0
        · have hM3 : synM (d3.sync n).2 last (g.files.drop (i + 1)) = synM d2 last g.files := by
            rw [← hM2, hdr]
            conv => rhs; unfold synM
            rw [htr]
            first | rw [if_pos ht, if_pos hs] | rw [if_pos rfl, if_pos hs]
          rw [hs]
          (refine Ga ?_)
          refine rndQ_n (α := Nat × Dsk) (i + 1, (d3.sync n).2) ⟨hil, hL6, hD6, hM3, ?_, hcc6⟩ ⟨rfl, rfl, rfl, rfl, ?_, trivial⟩ (by dsimp only; omega)
          · dsimp only
            omega
          · exact congrArg (Value.int .i64) (by dsimp only; omega)
        · have hM3 : synM d2 last g.files = d3.sync n := by
            rw [← hM2, hdr]
            unfold synM
            rw [htr]
            first | rw [if_pos ht, if_neg hs] | rw [if_pos rfl, if_neg hs]
          rw [hM3]
          (refine Ga ?_)
          (apply retQ1; (focus rfl))
          exact ⟨rfl, ⟨_, hL6, fun e => absurd e hs⟩, hD6, hcc6⟩
    · have hr : synM d2 last g.files = (0, d3) := by
        rw [← hM2, List.drop_of_length_le (by omega)]
        rfl
      rw [hr]
      (refine Ga ?_)
      (apply retQ1; (focus rfl))
      exact ⟨rfl, ⟨_, hL, fun _ => rfl⟩, hD, hch⟩
end
end Wa
end Go.Proofs.YtfocnbmihcnaoaaGreatDoor
