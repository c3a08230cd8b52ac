/- Package disk: List, Copy, Crash. -/
import Derived.Test.YtgcklcpbmlibdaaDkMap
namespace Go.Proofs.Ytgcklcpbmlibdaa
set_option maxRecDepth 100000
namespace Dk
open Go Go.RowKit Sx
open Go.Proofs (encStr)
/-- Strings behind a slice. -/
def Strs (w : World) (v : Value) (ss : List (List UInt8)) : Prop :=
  ∃ b cap, (v = .slice (some ⟨b, 0, none⟩) ss.length cap ∨ (v = .slice none 0 0 ∧ ss = [])) ∧ (ss ≠ [] → b < w.heap.size) ∧ ∀ j (h : j < ss.length), w.cell? ⟨b, j, none⟩ = some (.string ⟨ss[j].toArray⟩)
theorem Strs.form {w : World} {v : Value} {ss : List (List UInt8)} (h : Strs w v ss) : ∃ a c, v = .slice a ss.length c := by
  obtain ⟨b, cap, hf | ⟨hf, rfl⟩, _⟩ := h
  · exact ⟨_, _, hf⟩
  · exact ⟨_, _, hf⟩
theorem Strs.at {w : World} {ss : List (List UInt8)} {a : Option Addr} {n c : Nat} (h : Strs w (.slice a n c) ss) {j : Nat} (hj : j < ss.length) : ∃ b, a = some ⟨b, 0, none⟩ ∧ w.cell? ⟨b, j, none⟩ = some (.string ⟨ss[j].toArray⟩) := by
  obtain ⟨b, cap, hf, _, hr⟩ := h
  rcases hf with hf | ⟨hf, rfl⟩
  · cases hf
    exact ⟨b, rfl, hr j hj⟩
  · exact absurd hj (Nat.not_lt_zero _)
def NS (w : World) (b : Nat) : Prop := ∀ off s, w.cell? ⟨b, off, none⟩ ≠ some (.string s)
theorem Strs.chg {bs : List Nat} {w w' : World} {v : Value} {ss : List (List UInt8)} (h : Strs w v ss) (hc : Chg bs w w') (hn : ∀ b ∈ bs, NS w b) : Strs w' v ss := by
  obtain ⟨b, cap, h1, h2, h3⟩ := h
  refine ⟨b, cap, h1, fun hz => Nat.lt_of_lt_of_le (h2 hz) hc.size, fun j hj => ?_⟩
  have hlt := h2 (by intro e; subst e; simp at hj)
  have hnb : b ∉ bs := fun hb => hn b hb _ _ (h3 j hj)
  have e : w'.cell? ⟨b, j, none⟩ = w.cell? ⟨b, j, none⟩ := by simp only [World.cell?, hc.block b hlt hnb]
  rw [e]
  exact h3 j hj
theorem Strs.below {w w' : World} {v : Value} {ss : List (List UInt8)} (h : Strs w v ss) (hb : Below w.heap.size w w') : Strs w' v ss := h.chg (bs := []) (.of hb) (by simp)
theorem Strs.of_own {w : World} {base e nn : Nat} {v : Value} {ss : List (List UInt8)} (h : w.ownsRow base e 1 v nn (ss.map encStr)) : Strs w v ss := by
  obtain ⟨hl, h⟩ := h
  simp at hl
  rcases h with ⟨rfl, hn⟩ | ⟨g, cap, cur, rfl, _, hg, _, _, hs, ht⟩
  · have hz : ss = [] := List.eq_nil_of_length_eq_zero (by omega)
    subst hz
    exact ⟨0, 0, .inr ⟨rfl, rfl⟩, fun e => absurd rfl e, fun j hj => by simp at hj⟩
  · refine ⟨g, cap, .inl (by rw [hl]), fun _ => (Array.getElem?_eq_some_iff.1 hg).1, fun j hj => ?_⟩
    have hj' : cur.toList[j]? = some (encStr ss[j]) := by
      have : (cur.toList.take (nn * 1))[j]? = some (encStr ss[j]) := by rw [ht]; simp [hj]
      rw [List.getElem?_take] at this
      split at this
      · exact this
      · cases this
    have : cur[j]? = some (encStr ss[j]) := by simpa using hj'
    simp [World.cell?, hg, this, encStr]
theorem NS.map {w : World} {mb : Nat} {α : Type} {R : Value → α → Prop} {es : List (ByteArray × α)} (h : MpAt w mb R es) : NS w mb := fun off z => by rw [h.not_cells]; simp
theorem NS.blk {w : World} {p mb : Nat} {r c : Int} {d : Bool} {e : TypeId} (h : Blk w p [.map (some mb), .int .i64 r, .int .i64 c, .bool d] e) : NS w p := fun off z => by
  rw [h.cell off]
  match off with
  | 0 => simp
  | 1 => simp
  | 2 => simp
  | 3 => simp
  | n + 4 => simp
theorem DkAt.ns {w : World} {p mb : Nat} {d : Dsk} (h : DkAt w p mb d) : ∀ b ∈ [p, mb], NS w b := by
  intro b hb
  simp only [List.mem_cons, List.not_mem_nil, or_false] at hb
  rcases hb with rfl | rfl
  · exact NS.blk h.1
  · exact NS.map h.2
/-- The names that a disk may have. -/
def Names (d : Dsk) : Prop := (∀ p ∈ d.es, p.1.size ≤ 32) ∧ d.es.length ≤ 1000000
theorem Names.max {d : Dsk} (h : Names d) : ∀ p ∈ d.es, p.1.size ≤ maxLen := fun p hp => by have := h.1 p hp; simp only [maxLen]; omega
def Dsk.list (d : Dsk) : List (List UInt8) := if d.dead then [] else keysS d.es
theorem keysS_len {α : Type} (es : List (ByteArray × α)) : (keysS es).length = es.length := by unfold keysS keysB; rw [List.length_mergeSort, List.length_map]
attribute [local irreducible] W Lst Qst Pu seqQ blkQ rndQ cutQ retQ Does Enters IntKind.wrap bits sb World.alloc World.putObj Blk
theorem c_List (p mb : Nat) (d : Dsk) (hn : Names d) (w : World) (h : DkAt w p mb d) : Does Try.prog 14 #[.pointer (some ⟨p, 0, none⟩)] w fun v w' => Strs w' v d.list ∧ Below w.heap.size w w' := by
  refine Does_of (args := [.pointer (some ⟨p, 0, none⟩)]) Try.func14 (by kernel_rfl) rfl rfl rfl rfl rfl ?_
  have hb := h.1
  have hlt := hb.lt
  unfold Dsk.list
  cases hdd : d.dead with
  | true =>
    rw [hdd] at hb
    (refine Ga ?_)
    (apply retQ1; (focus rfl))
    exact ⟨⟨0, 0, .inr ⟨rfl, rfl⟩, fun e => absurd rfl e, fun j hj => by simp at hj⟩, Bel⟩
  | false =>
    rw [hdd] at hb
    (refine Ga ?_)
    (apply Lst_call; (focus rfl); (focus rfl))
    refine (c_Keys mb w).mono ?_
    rintro v w1 ⟨rfl, rfl⟩
    (refine Ga ?_)
    (apply Lst_call; (focus rfl); (focus rfl))
    refine (c_Sorted mb _ d.es w h.2 hn.max hn.2).mono ?_
    rintro v w2 ⟨hown, hb2⟩
    have hs := Strs.of_own hown
    obtain ⟨a, c, rfl⟩ := hs.form
    (refine Ga ?_)
    (apply retQ1; (focus rfl))
    exact ⟨hs, Sx.Below.after (w := w) Bel hb2⟩
theorem c_Copy (p mb : Nat) (d : Dsk) (w : World) (h : DkAt w p mb d) : Does Try.prog 26 #[.pointer (some ⟨p, 0, none⟩)] w fun v w' =>
    ∃ p2 mb2, v = .pointer (some ⟨p2, 0, none⟩) ∧ w.heap.size ≤ p2 ∧ w.heap.size ≤ mb2 ∧ DkAt w' p2 mb2 d ∧ Below w.heap.size w w' := by
  refine Does_of (args := [.pointer (some ⟨p, 0, none⟩)]) Try.func26 (by kernel_rfl) rfl rfl rfl rfl rfl ?_
  have hb := h.1
  have hlt := hb.lt
  have hml := h.2.lt
  (refine Ga ?_)
  refine Lst_abs (fun A => Below w.heap.size w A ∧ Blk A w.heap.size [.map (some mb), .int .i64 d.room, .int .i64 d.cut, .bool d.dead] 57 ∧ A.heap.size = w.heap.size + 1) ⟨Bel, (by (repeat (first | assumption | (apply Blk.below (hb := hb1); rotate_left; (focus ((try simp only [Sx.sizes]); omega)); rotate_right) | (apply Blk.below (hb := hb2); rotate_left; (focus ((try simp only [Sx.sizes]); omega)); rotate_right) | (apply Blk.below (hb := hb3); rotate_left; (focus ((try simp only [Sx.sizes]); omega)); rotate_right) | (apply Blk.below (hb := hb4); rotate_left; (focus ((try simp only [Sx.sizes]); omega)); rotate_right) | (apply Blk.below (hb := hb5); rotate_left; (focus ((try simp only [Sx.sizes]); omega)); rotate_right) | (apply Blk.below (hb := hb6); rotate_left; (focus ((try simp only [Sx.sizes]); omega)); rotate_right) | (apply Blk.below (hb := hb7); rotate_left; (focus ((try simp only [Sx.sizes]); omega)); rotate_right) | (apply Blk.below (hb := hb8); rotate_left; (focus ((try simp only [Sx.sizes]); omega)); rotate_right) | (apply Blk.below (hb := hb9); rotate_left; (focus ((try simp only [Sx.sizes]); omega)); rotate_right) | exact Blk.newE (by first | rfl | ((try simp only [Sx.sizes]); first | done | omega)) _ _ | exact Blk.put_same (by (try simp only [Sx.sizes]); first | done | omega) _ _ | (apply Blk.put_ne; (focus omega)) | apply Blk.alloc | apply Blk.drew)); done), by simp only [Sx.sizes]⟩ ?_
  rintro A ⟨b2, kb, hz⟩
  have h2 := h.below b2
  (apply Lst_call; (focus rfl); (focus rfl))
  refine (c_MapClone mb _ d.es A h2.2).mono ?_
  rintro v w3 ⟨rfl, hm3, hb3, hs3⟩
  have kb3 := kb.below hb3 (by omega)
  have kl3 := kb3.lt
  (refine Ga ?_)
  (apply retQ1; (focus rfl))
  refine ⟨w.heap.size, A.heap.size, rfl, Nat.le_refl _, by omega, ⟨(by (repeat (first | assumption | (apply Blk.below (hb := hb1); rotate_left; (focus ((try simp only [Sx.sizes]); omega)); rotate_right) | (apply Blk.below (hb := hb2); rotate_left; (focus ((try simp only [Sx.sizes]); omega)); rotate_right) | (apply Blk.below (hb := hb3); rotate_left; (focus ((try simp only [Sx.sizes]); omega)); rotate_right) | (apply Blk.below (hb := hb4); rotate_left; (focus ((try simp only [Sx.sizes]); omega)); rotate_right) | (apply Blk.below (hb := hb5); rotate_left; (focus ((try simp only [Sx.sizes]); omega)); rotate_right) | (apply Blk.below (hb := hb6); rotate_left; (focus ((try simp only [Sx.sizes]); omega)); rotate_right) | (apply Blk.below (hb := hb7); rotate_left; (focus ((try simp only [Sx.sizes]); omega)); rotate_right) | (apply Blk.below (hb := hb8); rotate_left; (focus ((try simp only [Sx.sizes]); omega)); rotate_right) | (apply Blk.below (hb := hb9); rotate_left; (focus ((try simp only [Sx.sizes]); omega)); rotate_right) | exact Blk.newE (by first | rfl | ((try simp only [Sx.sizes]); first | done | omega)) _ _ | exact Blk.put_same (by (try simp only [Sx.sizes]); first | done | omega) _ _ | (apply Blk.put_ne; (focus omega)) | apply Blk.alloc | apply Blk.drew)); done), hm3.mono ?_ ?_⟩, ?_⟩
  · exact World.putObj_heap_other (by omega)
  · intro v f hf
    refine hf.chg (bs := [w.heap.size]) ((Chg.of hb3).put (by simp) _) (fun b hb => ?_)
    obtain rfl : b = w.heap.size := by simpa using hb
    exact N8.blk kb
  · exact Sx.Below.put (Sx.Below.after b2 hb3) (Nat.le_refl _) _
/-- How much of a file a crash leaves. -/
def crEnd (keep : List Int) (i : Nat) (f : Fl) : Int := (f.safe : Int) + (if i < keep.length then min (max (keep.getD i 0) 0) ((f.b.length : Int) - f.safe) else 0)
def crF (keep : List Int) (i : Nat) (f : Fl) : Fl := ⟨f.b.take (crEnd keep i f).toNat, (crEnd keep i f).toNat⟩
def nameAt (ns : List (List UInt8)) (i : Nat) : ByteArray := ⟨(ns.getD i []).toArray⟩
/-- The files when the first i names are done. -/
def crN (keep : List Int) (ns : List (List UInt8)) (es : List (ByteArray × Fl)) : Nat → List (ByteArray × Fl)
  | 0 => es
  | i + 1 => Sx.put (crN keep ns es i) (nameAt ns i) (crF keep i ((Sx.look (crN keep ns es i) (nameAt ns i)).getD f0))
theorem look_put {α : Type} (k n : ByteArray) (a : α) : ∀ (l : List (ByteArray × α)), Sx.look (Sx.put l k a) n = if k = n then some a else Sx.look l n
  | [] => by simp [Sx.put, Sx.look]
  | q :: l => by
    unfold Sx.put
    by_cases h : q.1 = k
    · rw [if_pos h]
      unfold Sx.look
      by_cases hn : k = n
      · rw [if_pos hn, if_pos hn]
      · rw [if_neg hn, if_neg hn, if_neg (by rw [h]; exact hn)]
    · rw [if_neg h]
      unfold Sx.look
      by_cases hq : q.1 = n
      · rw [if_pos hq, if_pos hq, if_neg (fun e => h (hq.trans e.symm))]
      · rw [if_neg hq, if_neg hq]; exact look_put k n a l
def Small (es : List (ByteArray × Fl)) : Prop := ∀ n f, Sx.look es n = some f → f.b.length ≤ 1099511627776
theorem Small.file {es : List (ByteArray × Fl)} (h : Small es) (n : ByteArray) : ((Sx.look es n).getD f0).b.length ≤ 1099511627776 := by
  cases hl : Sx.look es n with
  | none => simp [f0]
  | some f => exact h n f hl
theorem Small.crN {es : List (ByteArray × Fl)} (h : Small es) (keep : List Int) (ns : List (List UInt8)) : ∀ i, Small (crN keep ns es i)
  | 0 => h
  | i + 1 => by
    have ih := Small.crN h keep ns i
    intro n f hf
    unfold Dk.crN at hf
    rw [look_put] at hf
    split at hf
    · cases hf
      have := ih.file (nameAt ns i)
      unfold crF
      dsimp only
      rw [List.length_take]
      omega
    · exact ih n f hf
theorem cell_lt {w : World} {b off : Nat} {v : Value} (h : w.cell? ⟨b, off, none⟩ = some v) : b < w.heap.size := by
  rcases Nat.lt_or_ge b w.heap.size with hl | hl
  · exact hl
  · simp [World.cell?, Array.getElem?_eq_none hl] at h
theorem Ints.keep {w w' : World} {kk : IntKind} {v : Value} {zs : List Int} {mb : Nat} {α : Type} {R : Value → α → Prop} {es : List (ByteArray × α)} (h : Ints w kk v zs) (hc : Chg [mb] w w') (hm : MpAt w mb R es) : Ints w' kk v zs := by
  obtain ⟨b, off, cap, h1, h2, h3⟩ := h
  refine ⟨b, off, cap, h1, fun hz => Nat.lt_of_lt_of_le (h2 hz) hc.size, fun j hj => ?_⟩
  have hlt := h2 (by intro e; subst e; simp at hj)
  have hn : b ∉ [mb] := fun hb => by
    obtain rfl : b = mb := by simpa using hb
    have := h3 j hj
    rw [hm.not_cells] at this
    cases this
  have e : w'.cell? ⟨b, off + j, none⟩ = w.cell? ⟨b, off + j, none⟩ := by simp only [World.cell?, hc.block b hlt hn]
  rw [e]
  exact h3 j hj
def Dsk.crash (d : Dsk) (keep : List Int) : Dsk := { d with es := crN keep (keysS d.es) d.es d.es.length, dead := false, cut := -1 }
theorem c_Crash (p mb : Nat) (d : Dsk) (hn : Names d) (hsm : Small d.es) (kv : Value) (keep : List Int) (hkl : keep.length ≤ 1000000) (hkb : ∀ k ∈ keep, -9223372036854775808 ≤ k ∧ k < 9223372036854775808) (w : World) (h : DkAt w p mb d) (hk : Ints w .i64 kv keep) :
    Does Try.prog 16 #[.pointer (some ⟨p, 0, none⟩), kv] w fun v w' => v = .tuple #[] ∧ DkAt w' p mb (d.crash keep) ∧ Chg [p, mb] w w' := by
  obtain ⟨k1, k2, rfl⟩ := hk.form
  refine Does_of (args := [.pointer (some ⟨p, 0, none⟩), .slice k1 keep.length k2]) Try.func16 (by kernel_rfl) rfl rfl rfl rfl rfl ?_
  have hb := h.1
  have hlt := hb.lt
  (refine Ga ?_)
  (apply Lst_call; (focus rfl); (focus rfl))
  refine (c_Keys mb w).mono ?_
  rintro v w1 ⟨rfl, rfl⟩
  (refine Ga ?_)
  (apply Lst_call; (focus rfl); (focus rfl))
  refine (c_Sorted mb _ d.es w h.2 hn.max hn.2).mono ?_
  rintro v w2 ⟨hown, hb2⟩
  have hs := Strs.of_own hown
  obtain ⟨a, c, rfl⟩ := hs.form
  have b2 : Below w.heap.size w w2 := Sx.Below.after (w := w) Bel hb2
  have h2 := h.below b2
  have hk2 := Ints.below hk b2 (Nat.le_refl _)
  rw [keysS_len] at *
  clear hown hb2
  (refine Ga ?_)
  refine W_loop (α := Nat) (fun i => [(0, .pointer (some ⟨p, 0, none⟩)), (1, .slice k1 keep.length k2), (14, .slice a d.es.length c), (15, .int .i64 (d.es.length : Int)), (16, .int .i64 (i : Int))])
    (fun i A => i ≤ d.es.length ∧ DkAt A p mb { d with es := crN keep (keysS d.es) d.es i } ∧ Strs A (.slice a d.es.length c) (keysS d.es) ∧ Ints A .i64 (.slice k1 keep.length k2) keep ∧ Chg [mb] w A) (fun i _ => d.es.length - i) 0
    ⟨Nat.zero_le _, h2, hs, hk2, .of b2⟩ ⟨rfl, rfl, rfl, rfl, rfl, trivial⟩ ?_
  clear h2 hs hk2 b2 w2
  rintro J i A ⟨hi, hd, hs, hk2, hcA⟩
  have hbA := hd.1
  have hlA := hbA.lt
  have hnl := hn.2
  by_cases hil : i < d.es.length
  · obtain ⟨b', ha, hcell⟩ := hs.at (j := i) (by rw [keysS_len]; exact hil)
    subst ha
    have hname : (⟨((keysS d.es)[i]'(by rw [keysS_len]; exact hil)).toArray⟩ : ByteArray) = nameAt (keysS d.es) i := by
      unfold nameAt
      congr 2
      simp [List.getD, keysS_len, hil]
    rw [hname] at hcell
    have hcell' : A.cell? ⟨b', 0 + i, none⟩ = some (.string (nameAt (keysS d.es) i)) := by rw [Nat.zero_add]; exact hcell
    have hsz := (hsm.crN keep (keysS d.es) i).file (nameAt (keysS d.es) i)
    have hstep : crN keep (keysS d.es) d.es (i + 1) = Sx.put (crN keep (keysS d.es) d.es i) (nameAt (keysS d.es) i) (crF keep i ((Sx.look (crN keep (keysS d.es) d.es i) (nameAt (keysS d.es) i)).getD f0)) := rfl
    generalize nameAt (keysS d.es) i = nm at hcell' hsz hstep
    (refine Ga ?_)
    apply Lst_mapget (hmp := hd.2) (z := fz)
    focus rfl
    focus rfl
    focus rfl
    focus rfl
    focus exact fzero _
    focus rfl
    intro v there hg
    obtain ⟨a, c', rfl, hi', hmc, hss⟩ := Got.file (d := { d with es := crN keep (keysS d.es) d.es i }) hg
    clear hg
    have hfile : Dsk.file { d with es := crN keep (keysS d.es) d.es i } nm = (Sx.look (crN keep (keysS d.es) d.es i) nm).getD f0 := rfl
    rw [hfile] at hi' hmc hss ⊢
    generalize (Sx.look (crN keep (keysS d.es) d.es i) nm).getD f0 = g at hi' hmc hss hsz hstep ⊢
    by_cases hik : i < keep.length
    · have hEe : ((g.safe : Int) + min (max (keep.getD i 0) 0) ((g.b.length : Int) - (g.safe : Int))) = crEnd keep i g := by unfold crEnd; rw [if_pos hik]
      have hE0 : (g.safe : Int) ≤ crEnd keep i g := by rw [← hEe]; omega
      have hE1 : crEnd keep i g ≤ (g.b.length : Int) := by rw [← hEe]; omega
      obtain ⟨kb, ko, hka, hkc⟩ := hk2.at hik
      subst hka
      have hkr := hkb (keep.getD i 0) (by rw [List.getD, List.getElem?_eq_getElem hik]; simp)
      (refine Ga ?_)
      refine W_draws (Grown _) rfl (by kernel_rfl) (grown_start _) ?_
      (refine Qb ?_)
      apply Qst_loadc
      focus rfl
      focus rfl
      focus rfl
      focus (
        intro A9 hb9
        have bA : Below A.heap.size A A9 := Sx.Below.after (w := A) Bel hb9
        exact (bA.cell (p := ⟨kb, ko + i, none⟩) (cell_lt hkc)).trans hkc)
      focus rfl
      (refine Qb ?_)
      intro w3 hb3
      have b3 : Below A.heap.size A w3 := Sx.Below.after (w := A) Bel hb3
      have s3 := hb3.size
      simp only [Sx.sizes] at s3
      (refine Ga ?_)
      refine W_draw 12 (Grown _) rfl (by kernel_rfl) (grown_start _) ?_
      (refine Qb ?_)
      apply Qst_pu
      · apply P_lslice3
        focus rfl
        focus rfl
        focus rfl
        focus rfl
        focus rfl
        focus rfl
        focus omega
        focus omega
      focus rfl
      (refine Qb ?_)
      intro w9 hb9
      have b9 : Below A.heap.size A w9 := Sx.Below.after (w := A) Bel hb9
      have h9 := hd.below b9
      have hi9 := Ints.below hi' b9 (Nat.le_refl _)
      apply Lst_mapput (crF keep i g) (hmp := h9.2)
      focus rfl
      focus rfl
      focus rfl
      focus rfl
      focus rfl
      focus (
        have e := Ints.cut hi9 (crEnd keep i g).toNat (by omega)
        show FileV w9 (.agg #[sliced a 0 ((g.safe : Int) + min (max (keep.getD i 0) 0) ((g.b.length : Int) - (g.safe : Int))).toNat ((g.safe : Int) + min (max (keep.getD i 0) 0) ((g.b.length : Int) - (g.safe : Int))).toNat 1, .int .i64 ((g.safe : Int) + min (max (keep.getD i 0) 0) ((g.b.length : Int) - (g.safe : Int)))]) _
        rw [hEe, e.2]
        have e1 := e.1
        rw [e.2] at e1
        have e2 : (((crEnd keep i g).toNat : Nat) : Int) = crEnd keep i g := by omega
        refine ⟨a, (crEnd keep i g).toNat, (crEnd keep i g).toNat, by rw [show (crF keep i g).safe = (crEnd keep i g).toNat from rfl, e2], ?_, Nat.le_refl _, ?_⟩
        · unfold crF
          unfold nums at e1 ⊢
          rwa [List.map_take]
        · unfold crF
          dsimp only
          rw [List.length_take]
          omega)
      intro w10 hmp hch hsz10
      have h10 := h9.putm hmp hch
      have cA : Chg [mb] A w10 := (Chg.of b9).trans hch
      have nA := NS.map hd.2
      (refine Ga ?_)
      refine rndQ_n (α := Nat) (i + 1) ⟨by omega, ?_, hs.chg cA (fun b hb => ?_), ?_, hcA.trans cA⟩ ⟨rfl, rfl, rfl, rfl, ?_, trivial⟩ (by omega)
      · rw [hstep]
        exact h10
      · obtain rfl : b = mb := by simpa using hb
        exact nA
      · exact Ints.keep hk2 cA hd.2
      · show Value.int .i64 ((i : Int) + 1) = Value.int .i64 ((i + 1 : Nat) : Int)
        rw [Int.natCast_add]
        rfl
    · have hEe : ((g.safe : Int) + 0) = crEnd keep i g := by unfold crEnd; rw [if_neg hik]
      have hE0 : (g.safe : Int) ≤ crEnd keep i g := by rw [← hEe]; omega
      have hE1 : crEnd keep i g ≤ (g.b.length : Int) := by rw [← hEe]; omega
      (refine Ga ?_)
      refine W_draw 12 (Grown _) rfl (by kernel_rfl) (grown_start _) ?_
      (refine Qb ?_)
      apply Qst_pu
      · apply P_lslice3
        focus rfl
        focus rfl
        focus rfl
        focus rfl
        focus rfl
        focus rfl
        focus omega
        focus omega
      focus rfl
      (refine Qb ?_)
      intro w9 hb9
      have b9 : Below A.heap.size A w9 := Sx.Below.after (w := A) Bel hb9
      have h9 := hd.below b9
      have hi9 := Ints.below hi' b9 (Nat.le_refl _)
      apply Lst_mapput (crF keep i g) (hmp := h9.2)
      focus rfl
      focus rfl
      focus rfl
      focus rfl
      focus rfl
      focus (
        have e := Ints.cut hi9 (crEnd keep i g).toNat (by omega)
        show FileV w9 (.agg #[sliced a 0 ((g.safe : Int) + 0).toNat ((g.safe : Int) + 0).toNat 1, .int .i64 ((g.safe : Int) + 0)]) _
        rw [hEe, e.2]
        have e1 := e.1
        rw [e.2] at e1
        have e2 : (((crEnd keep i g).toNat : Nat) : Int) = crEnd keep i g := by omega
        refine ⟨a, (crEnd keep i g).toNat, (crEnd keep i g).toNat, by rw [show (crF keep i g).safe = (crEnd keep i g).toNat from rfl, e2], ?_, Nat.le_refl _, ?_⟩
        · unfold crF
          unfold nums at e1 ⊢
          rwa [List.map_take]
        · unfold crF
          dsimp only
          rw [List.length_take]
          omega)
      intro w10 hmp hch hsz10
      have h10 := h9.putm hmp hch
      have cA : Chg [mb] A w10 := (Chg.of b9).trans hch
      have nA := NS.map hd.2
      (refine Ga ?_)
      refine rndQ_n (α := Nat) (i + 1) ⟨by omega, ?_, hs.chg cA (fun b hb => ?_), ?_, hcA.trans cA⟩ ⟨rfl, rfl, rfl, rfl, ?_, trivial⟩ (by omega)
      · rw [hstep]
        exact h10
      · obtain rfl : b = mb := by simpa using hb
        exact nA
      · exact Ints.keep hk2 cA hd.2
      · show Value.int .i64 ((i : Int) + 1) = Value.int .i64 ((i + 1 : Nat) : Int)
        rw [Int.natCast_add]
        rfl
  · obtain rfl : i = d.es.length := by omega
    (refine Ga ?_)
    apply retQ0n
    refine ⟨rfl, DkAt.cells (d' := d.crash keep) hd (((Chg.refl _ _).put (by simp) _).put (by simp) _) ?_ rfl, (hcA.mono (by simp)).trans (((Chg.refl _ _).put (by simp) _).put (by simp) _)⟩
    exact (by (repeat (first | assumption | (apply Blk.below (hb := hb1); rotate_left; (focus ((try simp only [Sx.sizes]); omega)); rotate_right) | (apply Blk.below (hb := hb2); rotate_left; (focus ((try simp only [Sx.sizes]); omega)); rotate_right) | (apply Blk.below (hb := hb3); rotate_left; (focus ((try simp only [Sx.sizes]); omega)); rotate_right) | (apply Blk.below (hb := hb4); rotate_left; (focus ((try simp only [Sx.sizes]); omega)); rotate_right) | (apply Blk.below (hb := hb5); rotate_left; (focus ((try simp only [Sx.sizes]); omega)); rotate_right) | (apply Blk.below (hb := hb6); rotate_left; (focus ((try simp only [Sx.sizes]); omega)); rotate_right) | (apply Blk.below (hb := hb7); rotate_left; (focus ((try simp only [Sx.sizes]); omega)); rotate_right) | (apply Blk.below (hb := hb8); rotate_left; (focus ((try simp only [Sx.sizes]); omega)); rotate_right) | (apply Blk.below (hb := hb9); rotate_left; (focus ((try simp only [Sx.sizes]); omega)); rotate_right) | exact Blk.newE (by first | rfl | ((try simp only [Sx.sizes]); first | done | omega)) _ _ | exact Blk.put_same (by (try simp only [Sx.sizes]); first | done | omega) _ _ | (apply Blk.put_ne; (focus omega)) | apply Blk.alloc | apply Blk.drew)); done)
end Dk
end Go.Proofs.Ytgcklcpbmlibdaa
