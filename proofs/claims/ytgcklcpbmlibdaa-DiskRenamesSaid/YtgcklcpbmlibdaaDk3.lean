/- Package disk: Sync, Rename, Truncate, Delete, Append, Read. -/
import Derived.Test.YtgcklcpbmlibdaaDk2
namespace Go.Proofs.Ytgcklcpbmlibdaa
set_option maxRecDepth 100000
namespace Dk
open Go Go.RowKit Sx
abbrev Grown (X A : World) : Prop := Below X.heap.size X A
theorem grown_start (X : World) : Grown X X.drew := (Below.refl _ _).drew
def f0 : Fl := ⟨[], 0⟩
def Dsk.file (d : Dsk) (n : ByteArray) : Fl := (Sx.look d.es n).getD f0
def Dsk.sync (d : Dsk) (n : ByteArray) : Int × Dsk := if d.isE n = 0 then (0, Dsk.done { d with es := Sx.put d.es n ⟨(d.file n).b, (d.file n).b.length⟩ }) else (d.isE n, d)
def Dsk.rename (d : Dsk) (a b : ByteArray) : Int × Dsk := if d.isE a = 0 then (if nameOk b then (0, Dsk.done { d with es := Sx.put (Sx.del d.es a) b (d.file a) }) else (41, d)) else (d.isE a, d)
def cutTo (f : Fl) (size : Int) : Nat := (min (max size 0) (f.b.length : Int)).toNat
def Dsk.truncate (d : Dsk) (n : ByteArray) (size : Int) : Int × Dsk := if d.isE n = 0 then (0, Dsk.done { d with es := Sx.put d.es n ⟨(d.file n).b.take (cutTo (d.file n) size), min (d.file n).safe (cutTo (d.file n) size)⟩ }) else (d.isE n, d)
def Dsk.delete (d : Dsk) (n : ByteArray) : Int × Dsk := if d.isE n = 0 then (0, Dsk.done { d with es := Sx.del d.es n }) else (d.isE n, d)
def Dsk.full (d : Dsk) (n : ByteArray) (k : Nat) : Bool := decide (4194304 < (d.file n).b.length + k) || decide (d.room < ((used d.es + k : Nat) : Int))
def Dsk.append (d : Dsk) (n : ByteArray) (b : List UInt8) : Int × Dsk :=
  if d.dead then (43, d) else if nameOk n then (if d.full n b.length then (42, d) else (0, Dsk.done { d with es := Sx.put d.es n ⟨(d.file n).b ++ b, (d.file n).safe⟩ })) else (41, d)
def Dsk.read (d : Dsk) (n : ByteArray) : List UInt8 × Int := if d.isE n = 0 then ((d.file n).b, 0) else ([], d.isE n)
theorem isE_zero {d : Dsk} {n : ByteArray} (h : d.isE n = 0) : d.dead = false ∧ ∃ f, Sx.look d.es n = some f ∧ d.file n = f := by
  unfold Dsk.isE at h
  cases hd : d.dead with
  | true => rw [hd] at h; simp at h
  | false =>
    rw [hd] at h
    cases hl : Sx.look d.es n with
    | none => rw [hl] at h; simp at h
    | some f => exact ⟨rfl, f, rfl, by unfold Dsk.file; rw [hl]; rfl⟩
theorem fz_file (w : World) : FileV w fz f0 := ⟨none, 0, 0, rfl, ⟨0, 0, 0, .inr ⟨rfl, rfl⟩, fun e => absurd rfl e, fun j hj => by simp [nums, f0] at hj⟩, Nat.le_refl _, Nat.le_refl _⟩
theorem Got.file {w : World} {d : Dsk} {n : ByteArray} {v : Value} {there : Bool} (h : Got (FileV w) d.es n fz v there) : ∃ a c, v = .agg #[.slice a (d.file n).b.length c, .int .i64 ((d.file n).safe : Int)] ∧ Ints w .u8 (.slice a (d.file n).b.length c) (nums (d.file n).b) ∧ (d.file n).b.length ≤ c ∧ (d.file n).safe ≤ (d.file n).b.length := by
  have key : FileV w v (d.file n) := by
    unfold Dsk.file
    rcases h with ⟨h1, rfl, _⟩ | ⟨f, h1, h2, _⟩
    · rw [h1]; exact fz_file w
    · rw [h1]; exact h2
  obtain ⟨a, m, c, rfl, hi, hmc, hs⟩ := key
  have hm : (d.file n).b.length = m := by have := Ints.len hi; rw [← this]; simp [nums]
  rw [hm]
  exact ⟨a, c, rfl, hi, hmc, by omega⟩
theorem DkAt.putm {w w' : World} {p mb : Nat} {d : Dsk} {es : List (ByteArray × Fl)} (h : DkAt w p mb d) (hm : MpAt w' mb (FileV w) es) (hc : Chg [mb] w w') : DkAt w' p mb { d with es := es } :=
  ⟨hc.blk h.1 (by simpa using h.ne), hm.mono rfl fun _ _ hf => hf.chg hc (fun b hb => by
    obtain rfl : b = mb := by simpa using hb
    exact N8.map h.2)⟩
theorem Chg.chain {p mb : Nat} {a b c d : World} (h1 : Below a.heap.size a b) (h2 : Chg [mb] b c) (h3 : Chg [p] c d) : Chg [p, mb] a d :=
  ((Chg.of h1).trans (h2.mono (by simp))).trans (h3.mono (by simp))
theorem done_at {w : World} {p mb : Nat} {d : Dsk} (h : DkAt w p mb d) (hc : d.cut < 9223372036854775808) : Does Try.prog 31 #[.pointer (some ⟨p, 0, none⟩)] w fun v w' => v = .int .i64 0 ∧ DkAt w' p mb d.done ∧ Chg [p] w w' := c_done p mb d hc w h
attribute [local irreducible] W Lst Qst Pu seqQ blkQ rndQ cutQ retQ Does Enters IntKind.wrap bits sb World.alloc World.putObj Blk
theorem c_Sync (p mb : Nat) (d : Dsk) (hc : d.cut < 9223372036854775808) (n : ByteArray) (w : World) (h : DkAt w p mb d) : Does Try.prog 12 #[.pointer (some ⟨p, 0, none⟩), .string n] w fun v w' =>
    v = .int .i64 (d.sync n).1 ∧ DkAt w' p mb (d.sync n).2 ∧ Chg [p, mb] w w' := by
  refine Does_of (args := [.pointer (some ⟨p, 0, none⟩), .string n]) Try.func12 (by kernel_rfl) rfl rfl rfl rfl rfl ?_
  have hb := h.1
  have hlt := hb.lt
  have hml := h.2.lt
  unfold Dsk.sync
  (refine Ga ?_)
  (apply Lst_call; (focus rfl); (focus rfl))
  refine (c_is p mb d n _ h).mono ?_
  rintro v w1 ⟨rfl, hb1⟩
  have b1 := Sx.Below.after (w := w) Bel hb1
  have s1 := hb1.size
  try simp only [Sx.sizes] at s1
  have h1 := h.below hb1
  by_cases h0 : d.isE n = 0
  · rw [if_pos h0]
    (refine Ga ?_)
    apply Lst_mapget (hmp := h1.2) (z := fz)
    focus rfl
    focus rfl
    focus rfl
    focus rfl
    focus exact fzero _
    focus rfl
    intro v there hg
    obtain ⟨a, c, rfl, hi, hmc, hs⟩ := Got.file hg
    clear hg
    generalize d.file n = g at hi hmc hs ⊢
    (refine Ga ?_)
    refine W_draw 11 (Grown _) rfl (by kernel_rfl) (grown_start _) ?_
    (refine Qb ?_)
    intro w9 hb9
    have b9 := Sx.Below.after (w := w) Bel hb9
    have h9 := h.below b9
    have hi9 := Ints.below hi (Sx.Below.after (w := w1) Bel hb9) (Nat.le_refl _)
    apply Lst_mapput (⟨g.b, g.b.length⟩ : Fl) (hmp := h9.2)
    focus rfl
    focus rfl
    focus rfl
    focus rfl
    focus rfl
    focus exact ⟨a, _, c, rfl, hi9, hmc, Nat.le_refl _⟩
    intro w10 hmp hch hsz
    have h10 := h9.putm hmp hch
    (refine Ga ?_)
    (apply Lst_call; (focus rfl); (focus rfl))
    refine (done_at h10 hc).mono ?_
    rintro v w11 ⟨rfl, hd, hcd⟩
    (refine Ga ?_)
    (apply retQ1; (focus rfl))
    exact ⟨rfl, hd, Chg.chain b9 hch hcd⟩
  · rw [if_neg h0]
    (refine Ga ?_)
    (apply retQ1; (focus rfl))
    exact ⟨rfl, h1, .of hb1⟩
theorem c_Delete (p mb : Nat) (d : Dsk) (hc : d.cut < 9223372036854775808) (n : ByteArray) (w : World) (h : DkAt w p mb d) : Does Try.prog 25 #[.pointer (some ⟨p, 0, none⟩), .string n] w fun v w' =>
    v = .int .i64 (d.delete n).1 ∧ DkAt w' p mb (d.delete n).2 ∧ Chg [p, mb] w w' := by
  refine Does_of (args := [.pointer (some ⟨p, 0, none⟩), .string n]) Try.func25 (by kernel_rfl) rfl rfl rfl rfl rfl ?_
  have hb := h.1
  have hlt := hb.lt
  have hml := h.2.lt
  unfold Dsk.delete
  (refine Ga ?_)
  (apply Lst_call; (focus rfl); (focus rfl))
  refine (c_is p mb d n _ h).mono ?_
  rintro v w1 ⟨rfl, hb1⟩
  have b1 := Sx.Below.after (w := w) Bel hb1
  have s1 := hb1.size
  try simp only [Sx.sizes] at s1
  have h1 := h.below hb1
  by_cases h0 : d.isE n = 0
  · rw [if_pos h0]
    (refine Ga ?_)
    apply Lst_mapdel (hmp := h1.2)
    focus rfl
    focus rfl
    focus rfl
    focus rfl
    focus rfl
    intro w10 hmp hch hsz
    have h10 := h1.putm hmp hch
    (refine Ga ?_)
    (apply Lst_call; (focus rfl); (focus rfl))
    refine (done_at h10 hc).mono ?_
    rintro v w11 ⟨rfl, hd, hcd⟩
    (refine Ga ?_)
    (apply retQ1; (focus rfl))
    exact ⟨rfl, hd, Chg.chain hb1 hch hcd⟩
  · rw [if_neg h0]
    (refine Ga ?_)
    (apply retQ1; (focus rfl))
    exact ⟨rfl, h1, .of hb1⟩
theorem c_Truncate (p mb : Nat) (d : Dsk) (hc : d.cut < 9223372036854775808) (n : ByteArray) (size : Int) (w : World) (h : DkAt w p mb d) : Does Try.prog 19 #[.pointer (some ⟨p, 0, none⟩), .string n, .int .i64 size] w fun v w' =>
    v = .int .i64 (d.truncate n size).1 ∧ DkAt w' p mb (d.truncate n size).2 ∧ Chg [p, mb] w w' := by
  refine Does_of (args := [.pointer (some ⟨p, 0, none⟩), .string n, .int .i64 size]) Try.func19 (by kernel_rfl) rfl rfl rfl rfl rfl ?_
  have hb := h.1
  have hlt := hb.lt
  have hml := h.2.lt
  unfold Dsk.truncate
  (refine Ga ?_)
  (apply Lst_call; (focus rfl); (focus rfl))
  refine (c_is p mb d n _ h).mono ?_
  rintro v w1 ⟨rfl, hb1⟩
  have b1 := Sx.Below.after (w := w) Bel hb1
  have s1 := hb1.size
  try simp only [Sx.sizes] at s1
  have h1 := h.below hb1
  by_cases h0 : d.isE n = 0
  · rw [if_pos h0]
    (refine Ga ?_)
    apply Lst_mapget (hmp := h1.2) (z := fz)
    focus rfl
    focus rfl
    focus rfl
    focus rfl
    focus exact fzero _
    focus rfl
    intro v there hg
    obtain ⟨a, c, rfl, hi, hmc, hs⟩ := Got.file hg
    clear hg
    generalize d.file n = g at hi hmc hs ⊢
    have hk0 : 0 ≤ min (max size 0) (g.b.length : Int) := by omega
    have hk1 : min (max size 0) (g.b.length : Int) ≤ (g.b.length : Int) := by omega
    have hk2 : ((cutTo g size : Nat) : Int) = min (max size 0) (g.b.length : Int) := by unfold cutTo; omega
    have hk3 : (min (max size 0) (g.b.length : Int)).toNat = cutTo g size := rfl
    (refine Ga ?_)
    refine W_draw 15 (Grown _) rfl (by kernel_rfl) (grown_start _) ?_
    (refine Qb ?_)
    apply Qst_pu
    · apply P_lslice3
      focus rfl
      focus rfl
      focus rfl
      focus rfl
      focus rfl
      focus rfl
      focus omega
      focus omega
    focus rfl
    (refine Qb ?_)
    intro w9 hb9
    have b9 := Sx.Below.after (w := w) Bel hb9
    have h9 := h.below b9
    have hi9 := Ints.below hi (Sx.Below.after (w := w1) Bel hb9) (Nat.le_refl _)
    apply Lst_mapput (⟨g.b.take (cutTo g size), min g.safe (cutTo g size)⟩ : Fl) (hmp := h9.2)
    focus rfl
    focus rfl
    focus rfl
    focus rfl
    focus rfl
    focus (
      have e := Ints.cut hi9 (cutTo g size) (by omega)
      show FileV w9 (.agg #[sliced a 0 (min (max size 0) (g.b.length : Int)).toNat (min (max size 0) (g.b.length : Int)).toNat 1, .int .i64 (min (g.safe : Int) (min (max size 0) (g.b.length : Int)))]) _
      rw [hk3, e.2, ← hk2]
      have e2 : min (g.safe : Int) ((cutTo g size : Nat) : Int) = ((min g.safe (cutTo g size) : Nat) : Int) := by omega
      rw [e2]
      have e1 := e.1
      rw [e.2] at e1
      refine ⟨a, cutTo g size, cutTo g size, rfl, ?_, Nat.le_refl _, ?_⟩
      · unfold nums at e1 ⊢
        rwa [List.map_take]
      · dsimp only
        rw [List.length_take]
        omega)
    intro w10 hmp hch hsz
    have h10 := h9.putm hmp hch
    (refine Ga ?_)
    (apply Lst_call; (focus rfl); (focus rfl))
    refine (done_at h10 hc).mono ?_
    rintro v w11 ⟨rfl, hd, hcd⟩
    (refine Ga ?_)
    (apply retQ1; (focus rfl))
    exact ⟨rfl, hd, Chg.chain b9 hch hcd⟩
  · rw [if_neg h0]
    (refine Ga ?_)
    (apply retQ1; (focus rfl))
    exact ⟨rfl, h1, .of hb1⟩
theorem c_Rename (p mb : Nat) (d : Dsk) (hc : d.cut < 9223372036854775808) (n b : ByteArray) (w : World) (h : DkAt w p mb d) : Does Try.prog 13 #[.pointer (some ⟨p, 0, none⟩), .string n, .string b] w fun v w' =>
    v = .int .i64 (d.rename n b).1 ∧ DkAt w' p mb (d.rename n b).2 ∧ Chg [p, mb] w w' := by
  refine Does_of (args := [.pointer (some ⟨p, 0, none⟩), .string n, .string b]) Try.func13 (by kernel_rfl) rfl rfl rfl rfl rfl ?_
  have hb := h.1
  have hlt := hb.lt
  have hml := h.2.lt
  unfold Dsk.rename
  (refine Ga ?_)
  (apply Lst_call; (focus rfl); (focus rfl))
  refine (c_is p mb d n _ h).mono ?_
  rintro v w1 ⟨rfl, hb1⟩
  have b1 := Sx.Below.after (w := w) Bel hb1
  have s1 := hb1.size
  try simp only [Sx.sizes] at s1
  have h1 := h.below hb1
  by_cases h0 : d.isE n = 0
  · rw [if_pos h0]
    (refine Ga ?_)
    (apply Lst_call; (focus rfl); (focus rfl))
    refine (c_name b _).mono ?_
    rintro v w' ⟨rfl, rfl⟩
    cases hnb : nameOk b
    · (refine Ga ?_)
      (apply retQ1; (focus rfl))
      exact ⟨rfl, h1, .of hb1⟩
    (refine Ga ?_)
    apply Lst_mapget (hmp := h1.2) (z := fz)
    focus rfl
    focus rfl
    focus rfl
    focus rfl
    focus exact fzero _
    focus rfl
    intro v there hg
    obtain ⟨a, c, rfl, hi, hmc, hs⟩ := Got.file hg
    clear hg
    generalize d.file n = g at hi hmc hs ⊢
    (refine Ga ?_)
    have b2 : Below w.heap.size w ((w1.alloc (.cells #[.slice none 0 0, .int .i64 0] 59)).putObj w1.heap.size (.cells #[.slice a g.b.length c, .int .i64 (g.safe : Int)] 59)) := Bel
    have h2 := h.below b2
    have kb : Blk ((w1.alloc (.cells #[.slice none 0 0, .int .i64 0] 59)).putObj w1.heap.size (.cells #[.slice a g.b.length c, .int .i64 (g.safe : Int)] 59)) w1.heap.size [.slice a g.b.length c, .int .i64 (g.safe : Int)] 59 := (by (repeat (first | assumption | (apply Blk.below (hb := hb1); rotate_left; (focus ((try simp only [Sx.sizes]); omega)); rotate_right) | (apply Blk.below (hb := hb2); rotate_left; (focus ((try simp only [Sx.sizes]); omega)); rotate_right) | (apply Blk.below (hb := hb3); rotate_left; (focus ((try simp only [Sx.sizes]); omega)); rotate_right) | (apply Blk.below (hb := hb4); rotate_left; (focus ((try simp only [Sx.sizes]); omega)); rotate_right) | (apply Blk.below (hb := hb5); rotate_left; (focus ((try simp only [Sx.sizes]); omega)); rotate_right) | (apply Blk.below (hb := hb6); rotate_left; (focus ((try simp only [Sx.sizes]); omega)); rotate_right) | (apply Blk.below (hb := hb7); rotate_left; (focus ((try simp only [Sx.sizes]); omega)); rotate_right) | (apply Blk.below (hb := hb8); rotate_left; (focus ((try simp only [Sx.sizes]); omega)); rotate_right) | (apply Blk.below (hb := hb9); rotate_left; (focus ((try simp only [Sx.sizes]); omega)); rotate_right) | exact Blk.newE (by first | rfl | ((try simp only [Sx.sizes]); first | done | omega)) _ _ | exact Blk.put_same (by (try simp only [Sx.sizes]); first | done | omega) _ _ | (apply Blk.put_ne; (focus omega)) | apply Blk.alloc | apply Blk.drew)); done)
    have hi2 := Ints.below hi (show Below w1.heap.size w1 ((w1.alloc (.cells #[.slice none 0 0, .int .i64 0] 59)).putObj w1.heap.size (.cells #[.slice a g.b.length c, .int .i64 (g.safe : Int)] 59)) from Bel) (Nat.le_refl _)
    apply Lst_mapdel (hmp := h2.2)
    focus rfl
    focus rfl
    focus rfl
    focus rfl
    focus rfl
    intro w3 hmp3 hch3 hsz3
    have h3 := h2.putm hmp3 hch3
    have c3 : Chg [p, mb] w w3 := (Chg.of b2).trans (hch3.mono (by simp))
    have kb3 := hch3.blk kb (by have := s1; simp; omega)
    have kl3 := kb3.lt
    have hi3 := Ints.chg hi2 hch3 (fun b hb => by
      obtain rfl : b = mb := by simpa using hb
      exact N8.map h2.2)
    have hb3 := h3.1
    have hl3 := hb3.lt
    clear hb1 b1 b2 kb hi2 hi
    generalize w1.heap.size = K at kb3 kl3 ⊢
    (refine Ga ?_)
    refine W_draw 6 (Grown _) rfl (by kernel_rfl) (grown_start _) ?_
    (refine Qb ?_)
    intro w9 hb9
    have h9 := h3.below hb9
    have hi9 := Ints.below hi3 hb9 (Nat.le_refl _)
    apply Lst_mapput (g : Fl) (hmp := h9.2)
    focus rfl
    focus rfl
    focus rfl
    focus rfl
    focus rfl
    focus exact ⟨a, _, c, rfl, hi9, hmc, hs⟩
    intro w10 hmp hch hsz
    have h10 := h9.putm hmp hch
    (refine Ga ?_)
    (apply Lst_call; (focus rfl); (focus rfl))
    refine (done_at h10 hc).mono ?_
    rintro v w11 ⟨rfl, hd, hcd⟩
    (refine Ga ?_)
    (apply retQ1; (focus rfl))
    exact ⟨rfl, hd, c3.trans (Chg.chain hb9 hch hcd)⟩
  · rw [if_neg h0]
    (refine Ga ?_)
    (apply retQ1; (focus rfl))
    exact ⟨rfl, h1, .of hb1⟩
end Dk
end Go.Proofs.Ytgcklcpbmlibdaa
