/- The document's Reader; Read, Take. -/
import Derived.Test.YtoljcnlmockpcaaRe
import Derived.Test.YtoljcnlmockpcaaRwA
import Derived.Test.YtoljcnlmockpcaaAwGive
namespace Go.Proofs.Ytoljcnlmockpcaa
set_option maxRecDepth 100000
namespace Wire
open Go Go.RowKit Sx
def RRAt (w : World) (b : Nat) (l : List UInt8) (e : Int) : Prop :=
  ∃ a c, Blk w b [.slice a l.length c, .int .i64 e] 100 ∧ Ints w .u8 (.slice a l.length c) (nums l) ∧ l.length ≤ c ∧ (l ≠ [] → ∀ x, a = some x → x.block < b)
theorem RRAt.lt {w : World} {b : Nat} {l : List UInt8} {e : Int} (h : RRAt w b l e) : b < w.heap.size := by
  obtain ⟨a, c, h, _⟩ := h
  exact h.lt
theorem RRAt.ints {w w' : World} {b : Nat} {l : List UInt8} {e : Int} {v : Value} {zs : List Int} (h : RRAt w b l e) (hv : Ints w .u8 v zs) (hc : Chg [b] w w') : Ints w' .u8 v zs := by
  obtain ⟨a, c, h, _⟩ := h
  exact Ints.chgb hv h hc
theorem RRAt.below {w w' : World} {b : Nat} {l : List UInt8} {e : Int} (h : RRAt w b l e) (hb : Below w.heap.size w w') : RRAt w' b l e := by
  obtain ⟨a, c, h1, h2, h3, h4⟩ := h
  exact ⟨a, c, h1.below hb h1.lt, h2.below hb (Nat.le_refl _), h3, h4⟩
theorem RRAt.belowB {w w' : World} {b B : Nat} {l : List UInt8} {e : Int} (h : RRAt w b l e) (hb : Below B w w') (hB : b < B) : RRAt w' b l e := by
  obtain ⟨a, c, h1, h2, h3, h4⟩ := h
  refine ⟨a, c, h1.below hb hB, ?_, h3, h4⟩
  have hn : ∀ j, j < (nums l).length → ∃ g off, a = some ⟨g, off, none⟩ ∧ g < B := fun j hj => by
    have hj' : j < l.length := by simpa [nums] using hj
    obtain ⟨g, off, ha, _⟩ := Sx.Ints.at h2 hj'
    have := h4 (by intro e; rw [e] at hj'; exact absurd hj' (Nat.not_lt_zero _)) _ ha
    exact ⟨g, off, ha, Nat.lt_trans this hB⟩
  obtain ⟨g, off, cap, hf, hg, hr⟩ := h2
  refine ⟨g, off, cap, hf, fun hz => ?_, fun j hj => ?_⟩
  · exact Nat.lt_of_lt_of_le (hg hz) hb.size
  · have hgB : g < B := by
      obtain ⟨g', off', ha, hl⟩ := hn j hj
      rw [nums_length] at hf
      rcases hf with hf | ⟨_, hf⟩
      · rw [ha] at hf
        cases hf
        exact hl
      · rw [hf] at hj; exact absurd hj (Nat.not_lt_zero _)
    exact (hb.cell (p := ⟨g, off + j, none⟩) (by show g < B; exact hgB)).trans (hr j hj)
/-- What is put into the reader. -/
theorem RRAt.put {w : World} {b m c : Nat} {a : Option Addr} {l l' : List UInt8} {e e' : Int} (h : RRAt w b l e) (hv : Ints w .u8 (.slice a m c) (nums l')) (hm : m = l'.length) (hc : m ≤ c) (hx : l' ≠ [] → ∀ x, a = some x → x.block < b) :
    RRAt (w.putObj b (.cells [.slice a m c, .int .i64 e'].toArray 100)) b l' e' ∧ Chg [b] w (w.putObj b (.cells [.slice a m c, .int .i64 e'].toArray 100)) := by
  subst hm
  have hch : Chg [b] w (w.putObj b (.cells [.slice a l'.length c, .int .i64 e'].toArray 100)) := (Chg.refl _ _).put (.inl (by simp)) _
  exact ⟨⟨a, c, Blk.put_same h.lt _ _, h.ints hv hch, hc, hx⟩, hch⟩
theorem Ints.cutlo {w : World} {n c : Nat} {a : Option Addr} {l : List UInt8} (h : Ints w .u8 (.slice a l.length c) (nums l)) (hc : l.length ≤ c) (hn : n ≤ l.length) : Ints w .u8 (sliced a n l.length c 1) (nums (l.drop n)) := by
  have hsub := Ints.sub h hc hn (Nat.le_refl l.length)
  rwa [show ((nums l).take l.length).drop n = nums (l.drop n) by rw [nums_take, List.take_length, nums_drop]] at hsub
theorem Ints.cuthi {w : World} {n c : Nat} {a : Option Addr} {l : List UInt8} (h : Ints w .u8 (.slice a l.length c) (nums l)) (hc : l.length ≤ c) (hn : n ≤ l.length) : Ints w .u8 (sliced a 0 n c 1) (nums (l.take n)) := by
  have hsub := Ints.sub h hc (Nat.zero_le n) hn
  rwa [List.drop_zero, nums_take] at hsub
theorem below_cutN {b n c : Nat} {a : Option Addr} {l : List UInt8} (hx : l ≠ [] → ∀ x, a = some x → x.block < b) : l.drop n ≠ [] → ∀ x, (if c = n then a else a.map (·.add (n * 1))) = some x → x.block < b := by
  intro hne x hxa
  have hl : l ≠ [] := fun e => hne (by rw [e, List.drop_nil])
  split at hxa
  · exact hx hl x hxa
  · cases a with
    | none => cases hxa
    | some y =>
      have hy := hx hl y rfl
      rw [← Option.some.inj hxa]
      show (y.add (n * 1)).block < b
      unfold Addr.add
      split <;> exact hy
attribute [local irreducible] W Lst Qst Pu seqQ blkQ rndQ cutQ retQ Does Enters IntKind.wrap bits sb World.alloc World.putObj Blk
theorem r_take (b n : Nat) (l : List UInt8) (e : Int) (w : World) (h : RRAt w b l e) :
    Does Try.prog 70 #[.pointer (some ⟨b, 0, none⟩), .int .i64 (n : Int)] w fun v w' => Chg [b] w w' ∧
      ((e = 0 ∧ n ≤ l.length ∧ (∃ a c, v = .slice a n c) ∧ Ints w' .u8 v (nums (l.take n)) ∧ RRAt w' b (l.drop n) 0)
       ∨ (¬ (e = 0 ∧ n ≤ l.length) ∧ v = .slice none 0 0 ∧ ∃ e', e' ≠ 0 ∧ RRAt w' b l e')) := by
  refine Does_of (args := [.pointer (some ⟨b, 0, none⟩), .int .i64 (n : Int)]) Try.func70 (by kernel_rfl) rfl rfl rfl rfl rfl ?_
  have hlt := h.lt
  obtain ⟨a, c, hb, hi, hc, hx⟩ := id h
  by_cases he : e = 0
  · subst he
    by_cases hn : n ≤ l.length
    · have h1 := Ints.cuthi hi hc hn
      have h2 := Ints.cutlo hi hc hn
      unfold sliced at h1 h2
      obtain ⟨hr, hch⟩ := h.put (e' := 0) h2 (by rw [List.length_drop]) (by omega) (below_cutN hx)
      have h1' := h.ints h1 hch
      (refine Ga ?_)
      (apply retQ1; (focus rfl))
      exact ⟨hch, .inl ⟨rfl, hn, ⟨_, _, rfl⟩, h1', hr⟩⟩
    · obtain ⟨hr, hch⟩ := h.put (e' := 10) hi rfl hc hx
      (refine Ga ?_)
      (apply retQ1; (focus rfl))
      exact ⟨hch, .inr ⟨by omega, rfl, 10, by decide, hr⟩⟩
  · (refine Ga ?_)
    (apply retQ1; (focus rfl))
    exact ⟨Chg.refl _ _, .inr ⟨by omega, rfl, e, he, h⟩⟩
/-- The document's reader: some of what is left, or none: failed. -/
def RR (w : World) (b : Nat) (s : Option (List UInt8)) : Prop := ∃ l e, RRAt w b l e ∧ s = if e = 0 then some l else none
theorem RR.belowB {w w' : World} {b B : Nat} {s : Option (List UInt8)} (h : RR w b s) (hb : Below B w w') (hB : b < B) : RR w' b s := by
  obtain ⟨l, e, h, hs⟩ := h
  exact ⟨l, e, h.belowB hb hB, hs⟩
theorem RR.some' {w : World} {b : Nat} {l : List UInt8} (h : RRAt w b l 0) : RR w b (some l) := ⟨l, 0, h, rfl⟩
theorem RR.none' {w : World} {b : Nat} {l : List UInt8} {e : Int} (h : RRAt w b l e) (he : e ≠ 0) : RR w b none := ⟨l, e, h, (if_neg he).symm⟩
theorem RR.of {w : World} {b : Nat} {s : Option (List UInt8)} (h : RR w b s) : ∃ l e, RRAt w b l e ∧ ((e = 0 ∧ s = some l) ∨ (e ≠ 0 ∧ s = none)) := by
  obtain ⟨l, e, h, hs⟩ := h
  by_cases he : e = 0
  · rw [if_pos he] at hs
    exact ⟨l, e, h, .inl ⟨he, hs⟩⟩
  · rw [if_neg he] at hs
    exact ⟨l, e, h, .inr ⟨he, hs⟩⟩
set_option maxHeartbeats 2000000 in
theorem r_RUint (b most : Nat) (s : Option (List UInt8)) (hll : ∀ l, s = some l → l.length ≤ 100000000) (w : World) (h0 : RR w b s) :
    Does Try.prog 52 #[.pointer (some ⟨b, 0, none⟩), .int .u64 (most : Int)] w fun v w' => v = .int .u64 ((mUint most s).1 : Int) ∧ RR w' b (mUint most s).2 ∧ Chg [b] w w' := by
  refine Does_of (args := [.pointer (some ⟨b, 0, none⟩), .int .u64 (most : Int)]) Try.func52 (by kernel_rfl) rfl rfl rfl rfl rfl ?_
  obtain ⟨l, e, h, hs⟩ := h0.of
  clear h0
  have hlt := h.lt
  obtain ⟨a, c, hb, hi, hc, hx⟩ := id h
  rcases hs with ⟨rfl, rfl⟩ | ⟨he, rfl⟩
  · have hll := hll l rfl
    have hno : ∀ e', e' ≠ 0 → rdU most 0 0 l = none → (Value.int .u64 0 = Value.int .u64 ((mUint most (some l)).1 : Int)) ∧ RR (w.putObj b (.cells [.slice a l.length c, .int .i64 e'].toArray 100)) b (mUint most (some l)).2 ∧ Chg [b] w (w.putObj b (.cells [.slice a l.length c, .int .i64 e'].toArray 100)) := by
      intro e' he' hr
      obtain ⟨h1, h2⟩ := h.put (e' := e') hi rfl hc hx
      have hm : mUint most (some l) = (0, none) := by
        unfold mUint
        show (match rdU most 0 0 l with | some (n, l) => (n, some l) | none => (0, none)) = _
        rw [hr]
      rw [hm]
      exact ⟨rfl, RR.none' h1 he', h2⟩
    have hyes : ∀ n i, i < l.length → rdU most 0 0 l = some (n, l.drop (i + 1)) → (Value.int .u64 (n : Int) = Value.int .u64 ((mUint most (some l)).1 : Int)) ∧ RR (w.putObj b (.cells [sliced a (i + 1) l.length c 1, .int .i64 0].toArray 100)) b (mUint most (some l)).2 ∧ Chg [b] w (w.putObj b (.cells [sliced a (i + 1) l.length c 1, .int .i64 0].toArray 100)) := by
      intro n i hi' hr
      have hz := Ints.cutlo hi hc (n := i + 1) (by omega)
      unfold sliced at hz ⊢
      obtain ⟨h1, h2⟩ := h.put (e' := 0) hz (by rw [List.length_drop]) (by omega) (below_cutN hx)
      have hm : mUint most (some l) = (n, some (l.drop (i + 1))) := by
        unfold mUint
        show (match rdU most 0 0 l with | some (n, l) => (n, some l) | none => (0, none)) = _
        rw [hr]
      rw [hm]
      exact ⟨rfl, RR.some' h1, h2⟩
    generalize hG : rdU most 0 0 l = G at hno hyes
    (refine Ga ?_)
    refine W_loop (α := Nat × Nat) (fun x => [(0, .pointer (some ⟨b, 0, none⟩)), (1, .int .u64 (most : Int)), (5, .int .u64 (x.2 : Int)), (6, .int .i64 (x.1 : Int))])
      (fun x A => x.1 ≤ 9 ∧ x.2 < 2 ^ (7 * x.1) ∧ rdU most x.1 x.2 (l.drop x.1) = G ∧ A = w) (fun x _ => l.length - x.1) (0, 0)
      ⟨Nat.zero_le _, Nat.one_pos, hG, rfl⟩ ⟨rfl, rfl, rfl, rfl, trivial⟩ ?_
    clear hG
    rintro J ⟨i, n⟩ A ⟨hi9, hn, hr, rfl⟩
    dsimp only at hi9 hn hr ⊢
    by_cases hil : i < l.length
    · obtain ⟨g, off, rfl, hcell⟩ := Sx.Ints.at hi (j := i) hil
      have hx0 : (nums l).getD i 0 = (l[i].toNat : Int) := by simp [nums, List.getD, hil]
      rw [hx0] at hcell
      have hx256 := UInt8.toNat_lt l[i]
      rw [List.drop_eq_getElem_cons hil] at hr
      unfold rdU at hr
      generalize hX : l[i].toNat = X at *
      clear hX
      rcases (by omega : (i = 9 ∧ 1 < X) ∨ (i = 9 ∧ X ≤ 1) ∨ i ≠ 9) with ⟨h9, hX1⟩ | ⟨h9, hX1⟩ | h9
      · rw [if_pos ⟨h9, hX1⟩] at hr
        (refine Ga ?_)
        (apply retQ1; (focus rfl))
        exact hno 11 (by decide) hr.symm
      all_goals
        rw [if_neg (by omega)] at hr
        have h64 := acc_64 (x := X) hi9 (by omega) hn
        have hac := acc_lt (x := X) hn
        have hsh := shl_at (x := X) (i := i) (by omega) hi9
        have hor := or_add n (X % 128) (7 * i) hn h64
        generalize X % 128 * 2 ^ (7 * i) = M at *
        (refine Ga ?_)
        rw [and127 X hx256, wu64 (m := ((X % 128 : Nat) : Int)) (by omega) (by omega)]
        apply Lst_pu
        · apply P_shl
          focus rfl
          focus rfl
          focus omega
          focus exact hsh
        focus rfl
        rcases Nat.lt_or_ge X 128 with h128 | h128
        · rw [if_neg (by omega)] at hr
          by_cases h0 : X = 0 ∧ 0 < i
          · obtain ⟨hX0, hi0⟩ := h0
            rw [if_pos ⟨hX0, hi0⟩] at hr
            (refine Ga ?_)
            (apply retQ1; (focus rfl))
            exact hno 11 (by decide) hr.symm
          rw [if_neg h0] at hr
          rcases (by omega : (X = 0 ∧ i = 0) ∨ X ≠ 0) with ⟨hX0, hi0⟩ | hX0
          all_goals first | (exfalso; omega; done) | skip
          all_goals
            by_cases hmo : most < n + M
            · rw [if_pos hmo] at hr
              (refine Ga ?_)
              (apply retQ1; (focus rfl))
              exact hno 12 (by decide) hr.symm
            · rw [if_neg hmo] at hr
              have hwi : arith .add .i64 (i : Int) 1 = ((i + 1 : Nat) : Int) := by
                show IntKind.i64.wrap _ = _
                rw [wi64 (by omega) (by omega)]
                omega
              have hy := hyes (n + M) i hil hr.symm
              unfold sliced at hy
              (refine Ga ?_)
              (apply retQ1; (focus rfl))
              exact hy
        · first | (exfalso; omega; done) | skip
          all_goals
            rw [if_pos h128] at hr
            (refine Ga ?_)
            refine rndQ_n (α := Nat × Nat) (i + 1, n + M) ⟨by dsimp only; omega, hac, hr, rfl⟩ ⟨rfl, rfl, rfl, ?_, trivial⟩ (by dsimp only; omega)
            show Value.int .i64 ((i : Int) + 1) = Value.int .i64 ((i + 1 : Nat) : Int)
            rw [Int.natCast_add]
            rfl
    · rw [List.drop_of_length_le (by omega)] at hr
      have hr : none = G := hr
      (refine Ga ?_)
      (apply retQ1; (focus rfl))
      exact hno 10 (by decide) hr.symm
  · (refine Ga ?_)
    (apply retQ1; (focus rfl))
    exact ⟨rfl, RR.none' h he, Chg.refl _ _⟩
theorem r_RByte (b : Nat) (s : Option (List UInt8)) (w : World) (h0 : RR w b s) :
    Does Try.prog 53 #[.pointer (some ⟨b, 0, none⟩)] w fun v w' => v = .int .u8 ((mByte s).1 : Int) ∧ RR w' b (mByte s).2 ∧ Chg [b] w w' := by
  refine Does_of (args := [.pointer (some ⟨b, 0, none⟩)]) Try.func53 (by kernel_rfl) rfl rfl rfl rfl rfl ?_
  obtain ⟨l, e, h, hs⟩ := h0.of
  clear h0
  (refine Ga ?_)
  (apply Lst_call; (focus rfl); (focus rfl))
  refine (r_take b 1 l e w h).mono ?_
  rintro v w1 ⟨hch, ⟨he, hn, ⟨a, c, rfl⟩, hi, hr⟩ | ⟨hn, rfl, e', he', hr⟩⟩
  · rcases hs with ⟨_, rfl⟩ | ⟨he', _⟩
    · cases l with
      | nil => simp at hn
      | cons x l =>
        obtain ⟨g, off, rfl, hcell⟩ := Sx.Ints.at hi (j := 0) Nat.one_pos
        have hx : (nums ((x :: l).take 1)).getD 0 0 = (x.toNat : Int) := rfl
        rw [hx] at hcell
        have hx256 := UInt8.toNat_lt x
        (refine Ga ?_)
        apply Lst_pu
        · apply P_idx
          focus rfl
          focus rfl
          focus rfl
          focus rfl
          focus rfl
          focus omega
          focus omega
        focus rfl
        (refine Ga ?_)
        (apply retQ1; (focus rfl))
        exact ⟨rfl, RR.some' hr, hch⟩
    · exact absurd he he'
  · (refine Ga ?_)
    (apply retQ1; (focus rfl))
    refine ⟨?_, ?_, hch⟩
    · rcases hs with ⟨rfl, rfl⟩ | ⟨_, rfl⟩
      · cases l with
        | nil => rfl
        | cons x l => exact absurd ⟨rfl, by simp⟩ hn
      · rfl
    · rcases hs with ⟨rfl, rfl⟩ | ⟨_, rfl⟩
      · cases l with
        | nil => exact RR.none' hr he'
        | cons x l => exact absurd ⟨rfl, by simp⟩ hn
      · exact RR.none' hr he'
end Wire
namespace Wire
open Go Go.RowKit Sx
theorem mUint_most (m : Nat) (s : Option (List UInt8)) : (mUint m s).1 ≤ m := by
  unfold mUint
  cases s with
  | none => exact Nat.zero_le _
  | some l =>
    show (match rdU m 0 0 l with | some (n, l) => (n, some l) | none => (0, none) : Nat × Option (List UInt8)).1 ≤ m
    cases hr : rdU m 0 0 l with
    | none => exact Nat.zero_le _
    | some x => exact (rdU_le hr).1
attribute [local irreducible] W Lst Qst Pu seqQ blkQ rndQ cutQ retQ Does Enters IntKind.wrap bits sb World.alloc World.putObj Blk
set_option maxHeartbeats 2000000 in
theorem r_RText (b most : Nat) (s : Option (List UInt8)) (hmost : most < 281474976710656) (hll : ∀ l, s = some l → l.length ≤ 100000000) (w : World) (h0 : RR w b s) :
    Does Try.prog 54 #[.pointer (some ⟨b, 0, none⟩), .int .i64 (most : Int)] w fun v w' => v = .string ⟨(mText most s).1.toArray⟩ ∧ RR w' b (mText most s).2 ∧ Chg [b] w w' := by
  refine Does_of (args := [.pointer (some ⟨b, 0, none⟩), .int .i64 (most : Int)]) Try.func54 (by kernel_rfl) rfl rfl rfl rfl rfl ?_
  obtain ⟨l, e, h, hs⟩ := h0.of
  obtain ⟨a, c, hb, hi, hc, hx0⟩ := id h
  have hmx : IntKind.u64.wrap (max (most : Int) 0) = (most : Int) := by
    rw [show max (most : Int) 0 = (most : Int) by omega]
    exact wu64 (by omega) (by omega)
  (refine Ga ?_)
  (apply Lst_call; (focus rfl); (focus rfl))
  refine (r_RUint b most s hll w h0).mono ?_
  rintro v w1 ⟨rfl, hr1, hch1⟩
  have hi1 := h.ints hi hch1
  have hm1 := mUint_most most s
  obtain ⟨l1, e1, h1, hs1⟩ := hr1.of
  have hlt1 := h1.lt
  obtain ⟨a1, c1, hb1, hi1', hc1, _⟩ := id h1
  have hmt : mText most s = match (mUint most s).2 with
    | some l' => if (mUint most s).1 ≤ l'.length then (l'.take (mUint most s).1, some (l'.drop (mUint most s).1)) else ([], none)
    | none => ([], none) := by
    unfold mText mUint
    cases s.bind (rdU most 0 0) with
    | none => rfl
    | some x => rfl
  clear h0 hr1
  generalize (mUint most s).1 = n at *
  rcases hs1 with ⟨he1, hs1⟩ | ⟨he1, hs1⟩
  · rw [hs1] at hmt
    have hmt : mText most s = if n ≤ l1.length then (l1.take n, some (l1.drop n)) else ([], none) := hmt
    subst he1
    have hwn : IntKind.i64.wrap (n : Int) = (n : Int) := wi64 (by omega) (by omega)
    (refine Ga ?_)
    (apply Lst_call; (focus rfl); (focus rfl))
    refine (r_take b n l1 0 w1 h1).mono ?_
    rintro v w2 ⟨hch2, ⟨_, hn, ⟨a2, c2, rfl⟩, hi2, hr2⟩ | ⟨hn, rfl, e', he', hr2⟩⟩
    · rw [if_pos hn] at hmt
      obtain ⟨a3, c3, hb3, hi3, hc3, _⟩ := id hr2
      rw [hmt]
      apply Lst_bytesI
      focus rfl
      focus exact hi2
      focus rfl
      focus rfl
      focus rfl
      focus rfl
      (refine Ga ?_)
      (apply retQ1; (focus rfl))
      exact ⟨rfl, RR.some' hr2, hch1.trans hch2⟩
    · rw [if_neg (by omega)] at hmt
      obtain ⟨a3, c3, hb3, hi3, hc3, _⟩ := id hr2
      have hlt2 := hr2.lt
      have hi0 := h1.ints hi1 hch2
      obtain ⟨hp, hpc⟩ := hr2.put (e' := e') hi0 rfl hc hx0
      rw [hmt]
      apply Lst_bytesI (l := [])
      focus rfl
      focus exact ⟨0, 0, 0, .inr ⟨⟨none, rfl⟩, rfl⟩, fun e => absurd rfl e, fun j hj => absurd hj (Nat.not_lt_zero _)⟩
      focus rfl
      focus rfl
      focus rfl
      focus rfl
      (refine Ga ?_)
      (apply retQ1; (focus rfl))
      exact ⟨rfl, RR.none' hp he', (hch1.trans hch2).trans hpc⟩
  · rw [hs1] at hmt
    have hmt : mText most s = ([], none) := hmt
    rw [hmt]
    (refine Ga ?_)
    (apply retQ1; (focus rfl))
    exact ⟨rfl, RR.none' h1 he1, hch1⟩
end Wire
namespace Aw
open Go Go.RowKit Sx Wire
open So (cutQ_p rndQ_p)
def fin (acc : List Pr) : Option (List Pr × Option (List UInt8)) → Option (List Pr)
  | some (ps, some []) => some (acc ++ ps)
  | _ => none
theorem rdL'_fin (b : List UInt8) : rdL' b = fin [] (rdN (mUint 18446744073709551615 (some b)).1 0 (mUint 18446744073709551615 (some b)).2) := by
  unfold rdL'
  dsimp only
  cases rdN (mUint 18446744073709551615 (some b)).1 0 (mUint 18446744073709551615 (some b)).2 with
  | none => rfl
  | some y =>
    obtain ⟨ps, s⟩ := y
    match s with
    | none => rfl
    | some [] => rfl
    | some (_ :: _) => rfl
theorem fin_none (acc : List Pr) (n last : Nat) : fin acc (rdN n last none) = none := by
  cases n <;> rfl
theorem fin_bad (acc : List Pr) (m : Nat) (o : Option (Pr × Option (List UInt8))) : (∀ p s, o = some (p, s) → s = none) → fin acc (match o with
    | none => none
    | some (p, s) => match rdN m p.c s with
      | none => none
      | some (ps, s') => some (p :: ps, s')) = none := by
  intro h
  cases o with
  | none => rfl
  | some y =>
    obtain ⟨p, s⟩ := y
    cases h p s rfl
    cases m <;> rfl
theorem fin_ok (acc : List Pr) (m : Nat) (p : Pr) (s : Option (List UInt8)) : fin acc (match (some (p, s) : Option (Pr × Option (List UInt8))) with
    | none => none
    | some (p, s) => match rdN m p.c s with
      | none => none
      | some (ps, s') => some (p :: ps, s')) = fin (acc ++ [p]) (rdN m p.c s) := by
  dsimp only
  cases rdN m p.c s with
  | none => rfl
  | some y =>
    obtain ⟨ps, s'⟩ := y
    match s' with
    | none => rfl
    | some [] =>
      show some (acc ++ (p :: ps)) = some (acc ++ [p] ++ ps)
      rw [List.append_assoc]
      rfl
    | some (_ :: _) => rfl
/-- What the document's Read tells. -/
def RdQ (w : World) (o : Option (List Pr)) (v : Value) (w' : World) : Prop :=
  (match o with
    | some ps => ∃ x c, v = .tuple #[.slice x ps.length c, .bool true] ∧ w'.ownsRow w.heap.size 37 4 (.slice x ps.length c) ps.length (ps.map pcs).flatten
    | none => ∃ x m c, v = .tuple #[.slice x m c, .bool false]) ∧ Below w.heap.size w w'
theorem mByte256 (s : Option (List UInt8)) : (mByte s).1 < 256 := by
  match s with
  | none => exact Nat.succ_pos _
  | some [] => exact Nat.succ_pos _
  | some (x :: l) => exact UInt8.toNat_lt x
instance instCmpR (op : BinOp) (p q : Int) : Decidable (cmpP op p q) := by unfold cmpP; cases op <;> infer_instance
theorem P_cdR {P : Program} {F : Fr} {ty t t' : TypeId} {x y : Operand} {k : IntKind} {op : BinOp} {p q : Int} (hx : ev F x = .int k p) (hy : ev F y = .int k q) (ho : isCmp op = true) : Pu P F (.binOp op t x y t') ty (.bool (decide (cmpP op p q))) := by
  by_cases h : cmpP op p q
  · rw [decide_eq_true h]
    exact P_ct hx hy ho h
  · rw [decide_eq_false h]
    exact P_cf hx hy ho h
attribute [local irreducible] W Lst Qst Pu seqQ blkQ rndQ cutQ retQ Does Enters IntKind.wrap bits sb World.alloc World.putObj Blk
set_option maxHeartbeats 2000000 in
theorem r_Read (v : Value) (b : List UInt8) (hl : b.length ≤ 100000000) (w : World) (h : Ints w .u8 v (nums b)) (hvc : ∃ x c, v = .slice x b.length c ∧ b.length ≤ c) : Does Try.prog 39 #[v] w (RdQ w (rdL b)) := by
  rw [← rdL'_eq b (by omega), rdL'_fin]
  obtain ⟨v1, v2, rfl, hvc⟩ := hvc
  refine Does_of (args := [.slice v1 b.length v2]) Try.func39 (by kernel_rfl) rfl rfl rfl rfl rfl ?_
  (refine Ga ?_)
  have hb1 : Below w.heap.size w (w.alloc (.cells [.slice v1 b.length v2, .int .i64 0].toArray 100)) := Bel
  have hrd : RRAt (w.alloc (.cells [.slice v1 b.length v2, .int .i64 0].toArray 100)) w.heap.size b 0 := ⟨v1, v2, Blk.newE rfl _ _, h.below hb1 (Nat.le_refl _), hvc, fun hne x hx => by
    obtain ⟨g, off, cap, hf, hg, _⟩ := h
    have hz : nums b ≠ [] := fun e => hne (by simpa [nums] using e)
    rw [nums_length] at hf
    rcases hf with hf | ⟨_, hf⟩
    · cases hf
      cases hx
      exact hg hz
    · exact absurd hf hz⟩
  have hs1 : (w.alloc (.cells [.slice v1 b.length v2, .int .i64 0].toArray 100)).heap.size = w.heap.size + 1 := World.size_alloc _ _
  have hr : w.heap.size ≤ w.heap.size := Nat.le_refl _
  generalize w.alloc (.cells [.slice v1 b.length v2, .int .i64 0].toArray 100) = w1 at *
  obtain ⟨r, hre⟩ : ∃ r, r = w.heap.size := ⟨_, rfl⟩
  rw [← hre]
  rw [← hre] at hrd
  have hrl : r < w1.heap.size := by omega
  (apply Lst_call; (focus rfl); (focus rfl))
  refine (r_RUint r 18446744073709551615 (some b) (fun l e => by cases e; exact hl) w1 (RR.some' hrd)).mono ?_
  rintro v w2 ⟨rfl, hrs2, hc2⟩
  have hn1 := mUint_le 18446744073709551615 (some b)
  have hn2 := slen_U 18446744073709551615 (some b)
  generalize mUint 18446744073709551615 (some b) = M at *
  obtain ⟨n0, s0⟩ := M
  dsimp only at hrs2 hn1 hn2 ⊢
  have hn3 : slen s0 ≤ b.length := hn2
  have b2 : Below w.heap.size w w2 := hb1.trans (hc2.below (by simp; omega) hb1.size)
  have s2 := hc2.size
  generalize hG : fin [] (rdN n0 0 s0) = G
  (refine Ga ?_)
  refine W_loop (α := Nat × Nat × Option (List UInt8) × List Pr × Value) (fun x => [(4, .pointer (some ⟨r, 0, none⟩)), (5, x.2.2.2.2), (6, .int .u64 (x.2.1 : Int)), (7, .int .u64 (x.1 : Int))])
    (fun x A => RR A r x.2.2.1 ∧ x.2.2.2.1.length + slen x.2.2.1 ≤ b.length + 1 ∧ (∀ l, x.2.2.1 = some l → x.2.2.2.1.length + l.length ≤ b.length) ∧ x.1 ≤ 18446744073709551615 ∧ x.2.1 ≤ 9007199254740991 ∧ fin x.2.2.2.1 (rdN x.1 x.2.1 x.2.2.1) = G ∧
      A.ownsRow w1.heap.size 37 4 x.2.2.2.2 x.2.2.2.1.length (x.2.2.2.1.map pcs).flatten ∧ Below w.heap.size w A ∧ w1.heap.size ≤ A.heap.size) (fun x _ => x.1) (n0, 0, s0, [], .slice none 0 0)
    ⟨hrs2, by dsimp only; simp; omega, fun l e => by dsimp only at e; subst e; simpa [slen] using hn3, hn1, Nat.zero_le _, hG, World.ownsRow_nil _ _ _ _, b2, s2⟩ ⟨rfl, rfl, rfl, rfl, trivial⟩ ?_
  clear hrs2 hc2 b2 s2 w2 hrd hn2 hG
  rintro J ⟨n, last, s, acc, out⟩ A ⟨hrs, hsl, hsl2, hnl, hla, hG, ho, bA, sA⟩
  dsimp only at hrs hsl hsl2 hnl hla hG ho ⊢
  obtain ⟨l, e, hrd, hs⟩ := hrs.of
  obtain ⟨a1, c1, hblk, hint, hac, _⟩ := id hrd
  rcases hs with ⟨rfl, rfl⟩ | ⟨he, rfl⟩
  · by_cases hn0 : n = 0
    · subst hn0
      have hbd := hblk.drew
      have bD := Below.drew bA
      cases l with
      | nil =>
        have hG : some (acc ++ []) = G := hG
        rw [← hG, List.append_nil]
        obtain ⟨o1, o3, rfl, _⟩ := own_form ho
        have hl0 : ((([] : List UInt8).length : Nat) : Int) = 0 := rfl
        (refine Ga ?_)
        refine W_draws (fun A' => A' = World.drew _) rfl (by kernel_rfl) rfl ?_
        (refine Qf ?_)
        rintro _ rfl
        (refine Ga ?_)
        (apply retQ2; (focus rfl); (focus rfl))
        exact ⟨⟨_, _, rfl, own_baseN (own_drew ho) hb1.size⟩, bD⟩
      | cons x l =>
        have hG : none = G := hG
        rw [← hG]
        obtain ⟨o1, o2, o3, rfl⟩ := own_slice ho
        have hlc : ((x :: l).length : Int) ≠ 0 := by rw [List.length_cons]; omega
        (refine Ga ?_)
        refine W_draws (fun A' => A' = World.drew _) rfl (by kernel_rfl) rfl ?_
        (refine Qf ?_)
        rintro _ rfl
        (refine Ga ?_)
        (apply retQ2; (focus rfl); (focus rfl))
        exact ⟨⟨_, _, _, rfl⟩, bD⟩
    · obtain ⟨m, rfl⟩ : ∃ m, n = m + 1 := ⟨n - 1, by omega⟩
      obtain ⟨o1, o2, o3, rfl⟩ := own_slice ho
      obtain ⟨c, s1, hC⟩ : ∃ c s1, mUint 9007199254740991 (some l) = (c, s1) := ⟨_, _, rfl⟩
      obtain ⟨k, s2, hK⟩ : ∃ k s2, mUint 9007199254740991 s1 = (k, s2) := ⟨_, _, rfl⟩
      obtain ⟨g, s3, hg⟩ : ∃ g s3, mByte s2 = (g, s3) := ⟨_, _, rfl⟩
      obtain ⟨t, s4, hT⟩ : ∃ t s4, mText 256 s3 = (t, s4) := ⟨_, _, rfl⟩
      have hP : rdP last (some l) = if c ≤ last ∨ k = 0 ∨ 1 < g then none else if g = 1 ∧ t ≠ [] then none else some (⟨c, k, ⟨t.toArray⟩, decide (g = 1)⟩, s4) := by
        unfold rdP
        simp only [hC, hK, hg, hT]
      have hcM : c ≤ 9007199254740991 := by have := mUint_le 9007199254740991 (some l); rw [hC] at this; exact this
      have hkM : k ≤ 9007199254740991 := by have := mUint_le 9007199254740991 s1; rw [hK] at this; exact this
      have hg256 : g < 256 := by have := mByte256 s2; rw [hg] at this; exact this
      have hl1 : slen s1 ≤ slen (some l) := by have := slen_U 9007199254740991 (some l); rw [hC] at this; exact this
      have hl2 : slen s2 ≤ slen s1 := by have := slen_U 9007199254740991 s1; rw [hK] at this; exact this
      have hl3 : slen s3 ≤ slen s2 := by have := slen_B s2; rw [hg] at this; exact this
      have hl4 : slen s4 ≤ slen s3 := by have := slen_T 256 s3; rw [hT] at this; exact this
      have hal := hsl2 l rfl
      have hle : ∀ (z : Option (List UInt8)), slen z ≤ slen (some l) → ∀ y, z = some y → y.length ≤ 100000000 := fun z hz y e => by
        subst e
        have h2 : y.length ≤ l.length := hz
        omega
      have hN : rdN (m + 1) last (some l) = (match rdP last (some l) with
        | none => none
        | some (p, s) => match rdN m p.c s with
          | none => none
          | some (ps, s') => some (p :: ps, s')) := rfl
      rw [hN, hP] at hG
      have hsh : ∀ l4, s4 = some l4 → l4.length + 1 ≤ l.length := fun l4 e => by
        subst e
        cases s3 with
        | none => cases hT
        | some l3 =>
          match s2, hg, hl2 with
          | some (x :: l2), hg, hl2 =>
            cases hg
            have h2 : (x :: l3).length ≤ slen s1 := hl2
            have h1 : slen s1 ≤ l.length := hl1
            have h4 : l4.length ≤ l3.length := hl4
            rw [List.length_cons] at h2
            omega
          | some [], hg, _ => cases hg
          | none, hg, _ => cases hg
      clear hN hP
      have u1 := r_RUint r 9007199254740991 (some l) (hle _ (Nat.le_refl _)) A hrs
      rw [hC] at u1
      dsimp only at u1
      (refine Ga ?_)
      (apply Lst_call; (focus rfl); (focus rfl))
      refine u1.mono ?_
      rintro v A1 ⟨rfl, hrs1, hc1⟩
      have u2 := r_RUint r 9007199254740991 s1 (hle _ hl1) A1 hrs1
      rw [hK] at u2
      dsimp only at u2
      (refine Ga ?_)
      (apply Lst_call; (focus rfl); (focus rfl))
      refine u2.mono ?_
      rintro v A2 ⟨rfl, hrs2, hc2⟩
      have hc12 := hc1.trans hc2
      have ho2 := own_chg ho hc12 (by simpa using hrl)
      have bA2 := bA.trans (hc12.below (by simp; omega) bA.size)
      have sA2 := Nat.le_trans sA hc12.size
      clear u1 u2 hrs1 hrs hrd hc12 hc1 hc2 ho hblk hint hsl2
      (refine Ga ?_)
      have hbX : Below A2.heap.size A2 ((A2.alloc (.cells [.int .u64 0, .int .u64 0, .string ⟨#[]⟩, .bool false].toArray 37)).putObj A2.heap.size (.cells [.int .u64 (c : Int), .int .u64 (k : Int), .string ⟨#[]⟩, .bool false].toArray 37)) := Bel
      have kX : Blk ((A2.alloc (.cells [.int .u64 0, .int .u64 0, .string ⟨#[]⟩, .bool false].toArray 37)).putObj A2.heap.size (.cells [.int .u64 (c : Int), .int .u64 (k : Int), .string ⟨#[]⟩, .bool false].toArray 37)) A2.heap.size [.int .u64 (c : Int), .int .u64 (k : Int), .string ⟨#[]⟩, .bool false] 37 := (by (repeat (first | assumption | (apply Blk.below (hb := hb1); rotate_left; (focus ((try simp only [Sx.sizes]); omega)); rotate_right) | (apply Blk.below (hb := hb2); rotate_left; (focus ((try simp only [Sx.sizes]); omega)); rotate_right) | (apply Blk.below (hb := hb3); rotate_left; (focus ((try simp only [Sx.sizes]); omega)); rotate_right) | (apply Blk.below (hb := hb4); rotate_left; (focus ((try simp only [Sx.sizes]); omega)); rotate_right) | (apply Blk.below (hb := hb5); rotate_left; (focus ((try simp only [Sx.sizes]); omega)); rotate_right) | (apply Blk.below (hb := hb6); rotate_left; (focus ((try simp only [Sx.sizes]); omega)); rotate_right) | (apply Blk.below (hb := hb7); rotate_left; (focus ((try simp only [Sx.sizes]); omega)); rotate_right) | (apply Blk.below (hb := hb8); rotate_left; (focus ((try simp only [Sx.sizes]); omega)); rotate_right) | (apply Blk.below (hb := hb9); rotate_left; (focus ((try simp only [Sx.sizes]); omega)); rotate_right) | exact Blk.newE (by first | rfl | ((try simp only [Sx.sizes]); first | done | omega)) _ _ | exact Blk.put_same (by (try simp only [Sx.sizes]); first | done | omega) _ _ | (apply Blk.put_ne; (focus omega)) | apply Blk.alloc | apply Blk.drew)); done)
      have hsX : ((A2.alloc (.cells [.int .u64 0, .int .u64 0, .string ⟨#[]⟩, .bool false].toArray 37)).putObj A2.heap.size (.cells [.int .u64 (c : Int), .int .u64 (k : Int), .string ⟨#[]⟩, .bool false].toArray 37)).heap.size = A2.heap.size + 1 := by simp only [Sx.sizes]
      generalize ((A2.alloc (.cells [.int .u64 0, .int .u64 0, .string ⟨#[]⟩, .bool false].toArray 37)).putObj A2.heap.size (.cells [.int .u64 (c : Int), .int .u64 (k : Int), .string ⟨#[]⟩, .bool false].toArray 37)) = X at *
      have hrA2 : r < A2.heap.size := by omega
      have hoK : (Value.slice o1 o2 o3).ownBlock ≠ some A2.heap.size := fun e => by have := (ho2.lt _ e).2; omega
      have hrsX := hrs2.belowB hbX hrA2
      have hoX := own_below ho2 hbX (Nat.le_refl _)
      have bX := bA2.trans (hbX.mono bA2.size)
      have sX : w1.heap.size ≤ X.heap.size := by omega
      have hwK : w.heap.size ≤ A2.heap.size := bA2.size
      have hrK : r ≠ A2.heap.size := by omega
      have hKw1 : w1.heap.size ≤ A2.heap.size := sA2
      clear hrs2 ho2 bA2 hbX
      generalize A2.heap.size = K at *
      have u3 := r_RByte r s2 X hrsX
      rw [hg] at u3
      dsimp only at u3
      (apply Lst_call; (focus rfl); (focus rfl))
      refine u3.mono ?_
      rintro v A3 ⟨rfl, hrs3, hc3⟩
      have k3 := hc3.blk kX (by simp; omega)
      have bA3 := bX.trans (hc3.below (by simp; omega) bX.size)
      have sA3 := Nat.le_trans sX hc3.size
      have ho3 := own_chg hoX hc3 (by simpa using hrl)
      have u4 := r_RText r 256 s3 (by omega) (hle _ (by omega)) A3 hrs3
      rw [hT] at u4
      dsimp only at u4
      clear u3 hrsX hoX bX sX kX
      (refine Ga ?_)
      (apply Lst_call; (focus rfl); (focus rfl))
      refine u4.mono ?_
      rintro v A4 ⟨rfl, hrs4, hc4⟩
      have k4 := hc4.blk k3 (by simp; omega)
      have bA4 := bA3.trans (hc4.below (by simp; omega) bA3.size)
      have sA4 := Nat.le_trans sA3 hc4.size
      have ho4 := own_chg ho3 hc4 (by simpa using hrl)
      clear u4 hrs3 ho3 bA3 sA3 k3 hc3 hc4
      obtain ⟨b1, hb1'⟩ : ∃ b1 : Bool, b1 = decide (g = 1) := ⟨_, rfl⟩
      have hdec : decide (cmpP .eql (g : Int) 1) = b1 := by
        rw [hb1']
        exact decide_eq_decide.2 ⟨fun h => by have h : (g : Int) = 1 := h; omega, fun h => by show (g : Int) = 1; omega⟩
      (refine Ga ?_)
      apply Lst_pu
      · apply P_cdR
        focus rfl
        focus rfl
        focus rfl
      focus rfl
      rw [hdec]
      have hKl := k4.lt
      have bY : Below w.heap.size w ((A4.putObj K (.cells [.int .u64 (c : Int), .int .u64 (k : Int), .string ⟨t.toArray⟩, .bool false].toArray 37)).putObj K (.cells [.int .u64 (c : Int), .int .u64 (k : Int), .string ⟨t.toArray⟩, .bool b1].toArray 37)) := Sx.Below.put (Sx.Below.put bA4 hwK _) hwK _
      have sY : ((A4.putObj K (.cells [.int .u64 (c : Int), .int .u64 (k : Int), .string ⟨t.toArray⟩, .bool false].toArray 37)).putObj K (.cells [.int .u64 (c : Int), .int .u64 (k : Int), .string ⟨t.toArray⟩, .bool b1].toArray 37)).heap.size = A4.heap.size := by simp only [Sx.sizes]
      have oY : ((A4.putObj K (.cells [.int .u64 (c : Int), .int .u64 (k : Int), .string ⟨t.toArray⟩, .bool false].toArray 37)).putObj K (.cells [.int .u64 (c : Int), .int .u64 (k : Int), .string ⟨t.toArray⟩, .bool b1].toArray 37)).ownsRow w1.heap.size 37 4 (.slice o1 o2 o3) acc.length (acc.map pcs).flatten := own_putN (own_putN ho4 hoK) hoK
      have rY : RR ((A4.putObj K (.cells [.int .u64 (c : Int), .int .u64 (k : Int), .string ⟨t.toArray⟩, .bool false].toArray 37)).putObj K (.cells [.int .u64 (c : Int), .int .u64 (k : Int), .string ⟨t.toArray⟩, .bool b1].toArray 37)) r s4 := hrs4.belowB (Sx.Below.put (Sx.Below.put (Below.refl K A4) (Nat.le_refl _) _) (Nat.le_refl _) _) (by omega)
      have kY : Blk ((A4.putObj K (.cells [.int .u64 (c : Int), .int .u64 (k : Int), .string ⟨t.toArray⟩, .bool false].toArray 37)).putObj K (.cells [.int .u64 (c : Int), .int .u64 (k : Int), .string ⟨t.toArray⟩, .bool b1].toArray 37)) K [.int .u64 (c : Int), .int .u64 (k : Int), .string ⟨t.toArray⟩, .bool b1] 37 := (by (repeat (first | assumption | (apply Blk.below (hb := hb1); rotate_left; (focus ((try simp only [Sx.sizes]); omega)); rotate_right) | (apply Blk.below (hb := hb2); rotate_left; (focus ((try simp only [Sx.sizes]); omega)); rotate_right) | (apply Blk.below (hb := hb3); rotate_left; (focus ((try simp only [Sx.sizes]); omega)); rotate_right) | (apply Blk.below (hb := hb4); rotate_left; (focus ((try simp only [Sx.sizes]); omega)); rotate_right) | (apply Blk.below (hb := hb5); rotate_left; (focus ((try simp only [Sx.sizes]); omega)); rotate_right) | (apply Blk.below (hb := hb6); rotate_left; (focus ((try simp only [Sx.sizes]); omega)); rotate_right) | (apply Blk.below (hb := hb7); rotate_left; (focus ((try simp only [Sx.sizes]); omega)); rotate_right) | (apply Blk.below (hb := hb8); rotate_left; (focus ((try simp only [Sx.sizes]); omega)); rotate_right) | (apply Blk.below (hb := hb9); rotate_left; (focus ((try simp only [Sx.sizes]); omega)); rotate_right) | exact Blk.newE (by first | rfl | ((try simp only [Sx.sizes]); first | done | omega)) _ _ | exact Blk.put_same (by (try simp only [Sx.sizes]); first | done | omega) _ _ | (apply Blk.put_ne; (focus omega)) | apply Blk.alloc | apply Blk.drew)); done)
      clear hrs4 ho4
      (refine Ga ?_)
      generalize ((A4.putObj K (.cells [.int .u64 (c : Int), .int .u64 (k : Int), .string ⟨t.toArray⟩, .bool false].toArray 37)).putObj K (.cells [.int .u64 (c : Int), .int .u64 (k : Int), .string ⟨t.toArray⟩, .bool b1].toArray 37)) = Y at *
      obtain ⟨l4, e4, hrd4, hs4⟩ := rY.of
      obtain ⟨a4, c4, hblk4, _, _, _⟩ := id hrd4
      have hwn : arith .sub .u64 ((m + 1 : Nat) : Int) 1 = (m : Int) := by
        show IntKind.u64.wrap (((m + 1 : Nat) : Int) - 1) = _
        rw [wu64 (by omega) (by omega)]
        omega
      have hsz4 : w1.heap.size ≤ Y.heap.size := by omega
      rcases hs4 with ⟨he4, rfl⟩ | ⟨he4, rfl⟩
      · subst he4
        have hl4' := hsh l4 rfl
        by_cases h1 : c ≤ last
        · rw [if_pos (.inl h1)] at hG
          rw [← hG]
          (refine Ga ?_)
          (apply retQ2; (focus rfl); (focus rfl))
          exact ⟨⟨_, _, _, rfl⟩, bY⟩
        by_cases h2 : k = 0
        · have h2' : (k : Int) = 0 := by omega
          rw [if_pos (.inr (.inl h2))] at hG
          rw [← hG]
          (refine Ga ?_)
          (apply retQ2; (focus rfl); (focus rfl))
          exact ⟨⟨_, _, _, rfl⟩, bY⟩
        have h2' : (k : Int) ≠ 0 := by omega
        by_cases h3 : 1 < g
        · rw [if_pos (.inr (.inr h3))] at hG
          rw [← hG]
          (refine Ga ?_)
          (apply retQ2; (focus rfl); (focus rfl))
          exact ⟨⟨_, _, _, rfl⟩, bY⟩
        rw [if_neg (by omega)] at hG
        by_cases h4 : g = 1
        · subst h4
          obtain rfl : b1 = true := by rw [hb1']; rfl
          by_cases ht : t = []
          · subst ht
            rw [if_neg (by simp), fin_ok] at hG
            (refine Ga ?_)
            apply Lst_push (hown := oY) (bytes := 40)
            ((focus constructor); (focus rfl); (focus rfl); (focus rfl); (focus rfl); (focus rfl); (focus rfl); (focus rfl); (focus rfl); (focus rfl); (focus rfl); (focus simp [Value.oneCell']); (focus rfl); (focus rfl); (focus rfl); (focus rfl); (focus omega); (focus omega); (focus omega))
            intro v' Z oZ hgr _
            have bZ := Sx.Below.own bY oY hgr (by omega) (by omega)
            have bZ2 := Sx.Below.own (Below.refl w1.heap.size Y) oY hgr (Nat.le_refl _) (by omega)
            have sZ := bZ2.size
            obtain ⟨p1, p2, p3, rfl⟩ := own_slice oZ
            (refine Ga ?_)
            refine rndQ_n (α := Nat × Nat × Option (List UInt8) × List Pr × Value) (m, c, some l4, acc ++ [⟨c, k, ⟨#[]⟩, true⟩], .slice p1 p2 p3) ⟨RR.belowB rY bZ2 hrl, ?_, ?_, by dsimp only; omega, hcM, hG, ?_, bZ, by omega⟩ ⟨rfl, rfl, rfl, rfl, trivial⟩ (by dsimp only; omega)
            · dsimp only
              rw [List.length_append, List.length_singleton]
              show acc.length + 1 + l4.length ≤ _; omega
            · dsimp only
              intro y e
              cases e; rw [List.length_append, List.length_singleton]; omega
            · dsimp only
              rw [List.length_append, List.length_singleton, List.map_append, List.flatten_append, List.map_singleton, List.flatten_singleton]
              exact oZ
          · rw [if_pos ⟨rfl, ht⟩] at hG
            rw [← hG]
            have hts : (⟨t.toArray⟩ : ByteArray) ≠ ⟨#[]⟩ := fun e => ht (by cases t with | nil => rfl | cons x t => cases e)
            (refine Ga ?_)
            (apply retQ2; (focus rfl); (focus rfl))
            exact ⟨⟨_, _, _, rfl⟩, bY⟩
        · have h5 : g = 0 := by omega
          subst h5
          obtain rfl : b1 = false := by rw [hb1']; rfl
          rw [if_neg (by simp), fin_ok] at hG
          (refine Ga ?_)
          apply Lst_push (hown := oY) (bytes := 40)
          ((focus constructor); (focus rfl); (focus rfl); (focus rfl); (focus rfl); (focus rfl); (focus rfl); (focus rfl); (focus rfl); (focus rfl); (focus rfl); (focus simp [Value.oneCell']); (focus rfl); (focus rfl); (focus rfl); (focus rfl); (focus omega); (focus omega); (focus omega))
          intro v' Z oZ hgr _
          have bZ := Sx.Below.own bY oY hgr (by omega) (by omega)
          have bZ2 := Sx.Below.own (Below.refl w1.heap.size Y) oY hgr (Nat.le_refl _) (by omega)
          have sZ := bZ2.size
          obtain ⟨p1, p2, p3, rfl⟩ := own_slice oZ
          (refine Ga ?_)
          refine rndQ_n (α := Nat × Nat × Option (List UInt8) × List Pr × Value) (m, c, some l4, acc ++ [⟨c, k, ⟨t.toArray⟩, false⟩], .slice p1 p2 p3) ⟨RR.belowB rY bZ2 hrl, ?_, ?_, by dsimp only; omega, hcM, hG, ?_, bZ, by omega⟩ ⟨rfl, rfl, rfl, rfl, trivial⟩ (by dsimp only; omega)
          · dsimp only
            rw [List.length_append, List.length_singleton]
            show acc.length + 1 + l4.length ≤ _; omega
          · dsimp only
            intro y e
            cases e; rw [List.length_append, List.length_singleton]; omega
          · dsimp only
            rw [List.length_append, List.length_singleton, List.map_append, List.flatten_append, List.map_singleton, List.flatten_singleton]
            exact oZ
      · have hGn : G = none := by
          rw [← hG]
          refine fin_bad acc m _ fun p s e => ?_
          split at e
          · cases e
          · split at e
            · cases e
            · exact ((Prod.mk.inj (Option.some.inj e)).2).symm
        have hG2 : fin (acc ++ [⟨c, k, ⟨t.toArray⟩, b1⟩]) (rdN m c none) = G := by rw [fin_none, hGn]
        (refine Ga ?_)
        apply Lst_push (hown := oY) (bytes := 40)
        ((focus constructor); (focus rfl); (focus rfl); (focus rfl); (focus rfl); (focus rfl); (focus rfl); (focus rfl); (focus rfl); (focus rfl); (focus rfl); (focus simp [Value.oneCell']); (focus rfl); (focus rfl); (focus rfl); (focus rfl); (focus omega); (focus omega); (focus omega))
        intro v' Z oZ hgr _
        have bZ := Sx.Below.own bY oY hgr (by omega) (by omega)
        have bZ2 := Sx.Below.own (Below.refl w1.heap.size Y) oY hgr (Nat.le_refl _) (by omega)
        have sZ := bZ2.size
        obtain ⟨p1, p2, p3, rfl⟩ := own_slice oZ
        (refine Ga ?_)
        refine rndQ_n (α := Nat × Nat × Option (List UInt8) × List Pr × Value) (m, c, none, acc ++ [⟨c, k, ⟨t.toArray⟩, b1⟩], .slice p1 p2 p3) ⟨RR.belowB rY bZ2 hrl, ?_, ?_, by dsimp only; omega, hcM, hG2, ?_, bZ, by omega⟩ ⟨rfl, rfl, rfl, rfl, trivial⟩ (by dsimp only; omega)
        · dsimp only
          rw [List.length_append, List.length_singleton]
          show acc.length + 1 + 0 ≤ _; omega
        · dsimp only
          intro y e
          cases e
        · dsimp only
          rw [List.length_append, List.length_singleton, List.map_append, List.flatten_append, List.map_singleton, List.flatten_singleton]
          exact oZ
  · rw [fin_none] at hG
    rw [← hG]
    obtain ⟨o1, o2, o3, rfl⟩ := own_slice ho
    have hbd := hblk.drew
    have bD := Below.drew bA
    by_cases hn0 : n = 0
    · subst hn0
      (refine Ga ?_)
      refine W_draws (fun A' => A' = World.drew _) rfl (by kernel_rfl) rfl ?_
      (refine Qf ?_)
      rintro _ rfl
      (refine Ga ?_)
      (apply retQ2; (focus rfl); (focus rfl))
      exact ⟨⟨_, _, _, rfl⟩, bD⟩
    · (refine Ga ?_)
      refine W_draws (fun A' => A' = World.drew _) rfl (by kernel_rfl) rfl ?_
      (refine Qf ?_)
      rintro _ rfl
      (refine Ga ?_)
      (apply retQ2; (focus rfl); (focus rfl))
      exact ⟨⟨_, _, _, rfl⟩, bD⟩
end Aw
namespace Aw
open Go Go.RowKit Sx Wire
open So (cutQ_p rndQ_p)
theorem take1_len (a : Awr) (q : Pr) : (a.take1 q).1.es.length ≤ a.es.length + 1 := by
  unfold Awr.take1
  split
  · exact Nat.le_succ _
  · split
    · exact Nat.le_succ _
    · exact ins_len' _ _
theorem rdL_short {b : List UInt8} {ps : List Pr} (h : rdL b = some ps) : ps.length ≤ b.length := by
  exact rdL_len h
theorem own_growth {A Z : World} {p : Nat} {a a' : Awr} (h : RAt A p a) (he : a'.es = a.es) (hc : a'.client = a.client) (hl : a'.last = a.last) (hn : a'.now = a.now) {x : Option Addr} {c : Nat} (hb : Blk A p [.int .u64 (a.client : Int), .int .u64 (a.own : Int), .int .u64 a.now, .int .u64 a.last, .slice x a.es.length c] 65) (hZ : Blk Z p [.int .u64 (a.client : Int), .int .u64 (a'.own : Int), .int .u64 a.now, .int .u64 a.last, .slice x a.es.length c] 65) (hch : Chg [p] A Z) : RAt Z p a' := by
  have hns := h.ns
  obtain ⟨y, d, h1, h2, h3, h4⟩ := h
  have e := Blk.inj hb h1
  simp only [List.cons.injEq, Value.slice.injEq, true_and, and_true] at e
  obtain ⟨rfl, rfl⟩ := e
  refine ⟨x, c, ?_, ?_, ?_, ?_⟩
  · rw [he, hc, hl, hn]
    exact hZ
  · rw [he]
    exact SRows.chgE h2 hch hns
  · rw [he]; exact h3
  · rw [he]; exact h4
attribute [local irreducible] W Lst Qst Pu seqQ blkQ rndQ cutQ retQ Does Enters IntKind.wrap bits sb World.alloc World.putObj Blk
set_option maxHeartbeats 2000000 in
theorem r_Take (p : Nat) (a : Awr) (v : Value) (b : List UInt8) (hl : b.length ≤ 100000000) (hel : a.es.length + b.length ≤ 100000000) (w : World) (h : RAt w p a) (hv : Ints w .u8 v (nums b)) (hvc : ∃ x c, v = .slice x b.length c ∧ b.length ≤ c) :
    Does Try.prog 19 #[.pointer (some ⟨p, 0, none⟩), v] w fun v w' => v = .tuple #[.bool (a.take b).2.1, .int .i64 (a.take b).2.2] ∧ RAt w' p (a.take b).1 ∧ Chg [p] w w' := by
  obtain ⟨v1, v2, rfl, hvc⟩ := hvc
  refine Does_of (args := [.pointer (some ⟨p, 0, none⟩), .slice v1 b.length v2]) Try.func19 (by kernel_rfl) rfl rfl rfl rfl rfl ?_
  have hlt := h.lt
  generalize hT : a.take b = T
  (refine Ga ?_)
  (apply Lst_call; (focus rfl); (focus rfl))
  refine (r_Read _ b hl w hv ⟨_, _, rfl, hvc⟩).mono ?_
  rintro v w1 ⟨hr, hb1⟩
  unfold Awr.take at hT
  cases hrd : rdL b with
  | none =>
    rw [hrd] at hr hT
    subst hT
    obtain ⟨x, m, c, rfl⟩ := hr
    (refine Ga ?_)
    (apply retQ2; (focus rfl); (focus rfl))
    exact ⟨rfl, h.below hb1, .of hb1⟩
  | some l =>
    rw [hrd] at hr hT
    have hT : ((a.takeL l).1, (a.takeL l).2, (0 : Int)) = T := hT
    subst hT
    obtain ⟨x, c, rfl, hown⟩ := hr
    have hll := rdL_short hrd
    have hP : Prs w1 (.slice x l.length c) l := (Prs.own hown).1
    clear hown
    (refine Ga ?_)
    generalize hG : a.takeL l = G
    have hG := hG.symm
    refine W_loop (α := Nat × Awr × Bool) (fun y => [(0, .pointer (some ⟨p, 0, none⟩)), (6, .slice x l.length c), (8, .bool y.2.2), (9, .int .i64 (y.1 : Int))])
      (fun y A => y.1 ≤ l.length ∧ RAt A p y.2.1 ∧ Prs A (.slice x l.length c) l ∧ Chg [p] w A ∧ y.2.1.es.length ≤ a.es.length + y.1 ∧ G = ((y.2.1.takeL (l.drop y.1)).1, y.2.2 || (y.2.1.takeL (l.drop y.1)).2)) (fun y _ => l.length - y.1) (0, a, false)
      ⟨Nat.zero_le _, h.below hb1, hP, .of hb1, Nat.le_refl _, by rw [hG, List.drop_zero, Bool.false_or]⟩ ⟨rfl, rfl, rfl, rfl, trivial⟩ ?_
    clear hP h hb1 hv
    rintro J ⟨i, a1, news⟩ A ⟨hi, hA, hP, hc, hel1, hG⟩
    dsimp only at hi hA hel1 hG ⊢
    by_cases hil : i < l.length
    · obtain ⟨x', cp, hblk, hrows, hcp, hsrt⟩ := id hA
      obtain ⟨bb, off, rfl, hbl, hcells⟩ := hP.at hil
      rw [List.drop_eq_getElem_cons hil] at hG
      generalize l[i] = q at hcells hG
      have hstep : (a1.takeL (q :: l.drop (i + 1))) = (((a1.take1 q).1.takeL (l.drop (i + 1))).1, (a1.take1 q).2 || ((a1.take1 q).1.takeL (l.drop (i + 1))).2) := rfl
      rw [hstep] at hG
      have hlen1 := take1_len a1 q
      have f0 : ∀ A9, Below A.heap.size A A9 → A9.cell? ⟨bb, off + i * 4 + 0, none⟩ = some (.int .u64 (q.c : Int)) := fun A9 h9 => (h9.cell (p := ⟨bb, off + i * 4 + 0, none⟩) hbl).trans (hcells 0 _ rfl)
      have f1 : ∀ A9, Below A.heap.size A A9 → A9.cell? ⟨bb, off + i * 4 + 1, none⟩ = some (.int .u64 (q.k : Int)) := fun A9 h9 => (h9.cell (p := ⟨bb, off + i * 4 + 1, none⟩) hbl).trans (hcells 1 _ rfl)
      have hinc : Value.int .i64 ((i : Int) + 1) = Value.int .i64 ((i + 1 : Nat) : Int) := by
        rw [Int.natCast_add]
        rfl
      (refine Ga ?_)
      by_cases hqc : q.c = a1.client
      · have hcl : a1.clock q.c = a1.own := by unfold Awr.clock; rw [if_pos hqc]
        refine W_draws (fun A' => Below A.heap.size A A') rfl (by kernel_rfl) (Below.drew (Below.refl _ _)) ?_
        (refine Qb ?_)
        apply Qst_pu
        · apply P_idx (sz := 4)
          focus rfl
          focus rfl
          focus rfl
          focus rfl
          focus rfl
          focus omega
          focus omega
        focus rfl
        rw [Int.toNat_natCast]
        (refine Qb ?_)
        apply Qst_loadc
        focus rfl
        focus rfl
        focus rfl
        focus exact fun A9 hA9 => f0 A9 hA9
        focus rfl
        (refine Qb ?_)
        apply Qst_load (hb := fun A9 hA9 => hblk.below hA9 hblk.lt)
        focus rfl
        focus rfl
        focus rfl
        focus rfl
        focus rfl
        (refine Qb ?_)
        intro A2 hb2
        have hA2 := hA.below hb2
        have hP2 := hP.below hb2 (Nat.le_refl _)
        have hblk2 := hblk.below hb2 hblk.lt
        have hc2 := hc.trans (.of hb2)
        have f0' := f0 A2 hb2
        have f1' := f1 A2 hb2
        have f1 : ∀ A9, Below A2.heap.size A2 A9 → A9.cell? ⟨bb, off + i * 4 + 1, none⟩ = some (.int .u64 (q.k : Int)) := fun A9 h9 => (h9.cell (p := ⟨bb, off + i * 4 + 1, none⟩) (Nat.lt_of_lt_of_le hbl hb2.size)).trans f1'
        have hlt2 := hblk2.lt
        clear hA hP hblk hc f0
        have hA := hA2
        have hP := hP2
        have hblk := hblk2
        have hc := hc2
        clear hA2 hP2 hblk2 hc2
        (refine Ga ?_)
        by_cases hk : q.k ≤ a1.own
        · rw [take1_old (by rw [hcl]; exact hk)] at hG
          refine W_draws (fun A' => Below A2.heap.size A2 A') rfl (by kernel_rfl) (Below.drew (Below.refl _ _)) ?_
          (refine Qb ?_)
          apply Qst_pu
          · apply P_idx (sz := 4)
            focus rfl
            focus rfl
            focus rfl
            focus rfl
            focus rfl
            focus omega
            focus omega
          focus rfl
          rw [Int.toNat_natCast]
          (refine Qb ?_)
          apply Qst_loadc
          focus rfl
          focus rfl
          focus rfl
          focus exact fun A9 hA9 => f1 A9 hA9
          focus rfl
          (refine Qb ?_)
          intro A3 hb3
          (refine Ga ?_)
          exact rndQ_n (α := Nat × Awr × Bool) (i + 1, a1, news) ⟨by dsimp only; omega, hA.below hb3, hP.below hb3 (Nat.le_refl _), hc.trans (.of hb3), by dsimp only; omega, by rw [hG]; simp⟩ ⟨rfl, rfl, rfl, hinc, trivial⟩ (by dsimp only; omega)
        · have ht1 := take1_own (a := a1) (p := q) (by rw [hcl]; exact hk) hqc
          rw [ht1] at hG
          refine W_draws (fun A' => Below A2.heap.size A2 A') rfl (by kernel_rfl) (Below.drew (Below.refl _ _)) ?_
          (refine Qb ?_)
          apply Qst_pu
          · apply P_idx (sz := 4)
            focus rfl
            focus rfl
            focus rfl
            focus rfl
            focus rfl
            focus omega
            focus omega
          focus rfl
          rw [Int.toNat_natCast]
          (refine Qb ?_)
          apply Qst_loadc
          focus rfl
          focus rfl
          focus rfl
          focus exact fun A9 hA9 => f1 A9 hA9
          focus rfl
          (refine Qb ?_)
          intro A3 hb3
          have hA3 := hA.below hb3
          have hP3 := hP.below hb3 (Nat.le_refl _)
          have hblk3 := hblk.below hb3 hblk.lt
          have hlt3 := hblk3.lt
          have f3 := f1 A3 hb3
          (refine Ga ?_)
          apply Lst_pu
          · apply P_idx (sz := 4)
            focus rfl
            focus rfl
            focus rfl
            focus rfl
            focus rfl
            focus omega
            focus omega
          focus rfl
          rw [Int.toNat_natCast]
          (refine Ga ?_)
          have hch : Chg [p] A3 (A3.putObj p (.cells [.int .u64 (a1.client : Int), .int .u64 (q.k : Int), .int .u64 a1.now, .int .u64 a1.last, .slice x' a1.es.length cp].toArray 65)) := (Chg.refl _ _).put (.inl (by simp)) _
          refine rndQ_n (α := Nat × Awr × Bool) (i + 1, { a1 with own := q.k }, true) ⟨by dsimp only; omega, own_growth (a' := { a1 with own := q.k }) hA3 rfl rfl rfl rfl hblk3 (Blk.put_same hlt3 _ _) hch, hA3.prs hP3 hch, (hc.trans (.of hb3)).trans hch, by dsimp only; omega, ?_⟩ ⟨rfl, rfl, rfl, hinc, trivial⟩ (by dsimp only; omega)
          rw [hG]
          simp
      · have hle1 : a1.es.length ≤ 100000000 := by omega
        refine W_draws (fun A' => Below A.heap.size A A') rfl (by kernel_rfl) (Below.drew (Below.refl _ _)) ?_
        (refine Qb ?_)
        apply Qst_pu
        · apply P_idx (sz := 4)
          focus rfl
          focus rfl
          focus rfl
          focus rfl
          focus rfl
          focus omega
          focus omega
        focus rfl
        rw [Int.toNat_natCast]
        (refine Qb ?_)
        apply Qst_loadc
        focus rfl
        focus rfl
        focus rfl
        focus exact fun A9 hA9 => f0 A9 hA9
        focus rfl
        (refine Qb ?_)
        apply Qst_load (hb := fun A9 hA9 => hblk.below hA9 hblk.lt)
        focus rfl
        focus rfl
        focus rfl
        focus rfl
        focus rfl
        (refine Qb ?_)
        intro A2 hb2
        have hA2 := hA.below hb2
        have hP2 := hP.below hb2 (Nat.le_refl _)
        have hc2 := hc.trans (.of hb2)
        have f0' := f0 A2 hb2
        have f1' := f1 A2 hb2
        have hbl2 := Nat.lt_of_lt_of_le hbl hb2.size
        have f0 : ∀ A9, Below A2.heap.size A2 A9 → A9.cell? ⟨bb, off + i * 4 + 0, none⟩ = some (.int .u64 (q.c : Int)) := fun A9 h9 => (h9.cell (p := ⟨bb, off + i * 4 + 0, none⟩) hbl2).trans f0'
        have f1 : ∀ A9, Below A2.heap.size A2 A9 → A9.cell? ⟨bb, off + i * 4 + 1, none⟩ = some (.int .u64 (q.k : Int)) := fun A9 h9 => (h9.cell (p := ⟨bb, off + i * 4 + 1, none⟩) hbl2).trans f1'
        clear hA hP hblk hc
        have hA := hA2
        have hP := hP2
        have hc := hc2
        clear hA2 hP2 hc2
        (refine Ga ?_)
        by_cases hk : q.k ≤ a1.clock q.c
        · rw [take1_old hk] at hG
          refine W_draws (fun A' => Below A2.heap.size A2 A') rfl (by kernel_rfl) (Below.drew (Below.refl _ _)) ?_
          (refine Qb ?_)
          apply Qst_pu
          · apply P_idx (sz := 4)
            focus rfl
            focus rfl
            focus rfl
            focus rfl
            focus rfl
            focus omega
            focus omega
          focus rfl
          rw [Int.toNat_natCast]
          (refine Qb ?_)
          apply Qst_loadc
          focus rfl
          focus rfl
          focus rfl
          focus exact fun A9 hA9 => f1 A9 hA9
          focus rfl
          (refine Qb ?_)
          apply Qst_pu
          · apply P_idx (sz := 4)
            focus rfl
            focus rfl
            focus rfl
            focus rfl
            focus rfl
            focus omega
            focus omega
          focus rfl
          rw [Int.toNat_natCast]
          (refine Qb ?_)
          apply Qst_loadc
          focus rfl
          focus rfl
          focus rfl
          focus exact fun A9 hA9 => f0 A9 hA9
          focus rfl
          (refine Qb ?_)
          apply Qst_call (.int .u64 (a1.clock q.c : Int))
          focus rfl
          focus rfl
          · intro A9 hA9
            exact (r_Clock p q.c a1 hle1 A9 (hA.below hA9)).mono fun v w' h => ⟨h.1, hA9.trans (h.2.2.mono hA9.size)⟩
          (refine Qb ?_)
          intro A3 hb3
          (refine Ga ?_)
          exact rndQ_n (α := Nat × Awr × Bool) (i + 1, a1, news) ⟨by dsimp only; omega, hA.below hb3, hP.below hb3 (Nat.le_refl _), hc.trans (.of hb3), by dsimp only; omega, by rw [hG]; simp⟩ ⟨rfl, rfl, rfl, hinc, trivial⟩ (by dsimp only; omega)
        · have ht1 := take1_new (a := a1) (p := q) hk hqc
          rw [ht1] at hG hlen1
          dsimp only at hlen1
          refine W_draws (fun A' => Below A2.heap.size A2 A') rfl (by kernel_rfl) (Below.drew (Below.refl _ _)) ?_
          (refine Qb ?_)
          apply Qst_pu
          · apply P_idx (sz := 4)
            focus rfl
            focus rfl
            focus rfl
            focus rfl
            focus rfl
            focus omega
            focus omega
          focus rfl
          rw [Int.toNat_natCast]
          (refine Qb ?_)
          apply Qst_loadc
          focus rfl
          focus rfl
          focus rfl
          focus exact fun A9 hA9 => f1 A9 hA9
          focus rfl
          (refine Qb ?_)
          apply Qst_pu
          · apply P_idx (sz := 4)
            focus rfl
            focus rfl
            focus rfl
            focus rfl
            focus rfl
            focus omega
            focus omega
          focus rfl
          rw [Int.toNat_natCast]
          (refine Qb ?_)
          apply Qst_loadc
          focus rfl
          focus rfl
          focus rfl
          focus exact fun A9 hA9 => f0 A9 hA9
          focus rfl
          (refine Qb ?_)
          apply Qst_call (.int .u64 (a1.clock q.c : Int))
          focus rfl
          focus rfl
          · intro A9 hA9
            exact (r_Clock p q.c a1 hle1 A9 (hA.below hA9)).mono fun v w' h => ⟨h.1, hA9.trans (h.2.2.mono hA9.size)⟩
          (refine Qb ?_)
          intro A3 hb3
          have hA3 := hA.below hb3
          have hP3 := hP.below hb3 (Nat.le_refl _)
          have hc3 := hc.trans (.of hb3)
          have hcl3 : ∀ (j : Nat) (u : Value), (pcs q)[j]? = some u → A3.cell? ⟨bb, off + i * 4 + j, none⟩ = some u := fun j u hu => ((hb2.trans (hb3.mono hb2.size)).cell (p := ⟨bb, off + i * 4 + j, none⟩) hbl).trans (hcells j u hu)
          (refine Ga ?_)
          apply Lst_pu
          · apply P_idx (sz := 4)
            focus rfl
            focus rfl
            focus rfl
            focus rfl
            focus rfl
            focus omega
            focus omega
          focus rfl
          rw [Int.toNat_natCast]
          (refine Ga ?_)
          apply Lst_loadS' (hc := hcl3)
          focus rfl
          focus rfl
          focus rfl
          focus rfl
          focus rfl
          focus rfl
          (apply Lst_call; (focus rfl); (focus rfl))
          refine (r_put p a1 q hle1 A3 hA3).mono ?_
          rintro v A4 ⟨rfl, hA4, hch⟩
          have hP4 := hA3.prs hP3 hch
          (refine Ga ?_)
          refine rndQ_n (α := Nat × Awr × Bool) (i + 1, { a1 with es := ins a1.es ⟨q, a1.now⟩ }, true) ⟨by dsimp only; omega, hA4, hP4, hc3.trans hch, by dsimp only; omega, ?_⟩ ⟨rfl, rfl, rfl, hinc, trivial⟩ (by dsimp only; omega)
          rw [hG]
          simp
    · obtain rfl : i = l.length := by omega
      rw [List.drop_of_length_le (Nat.le_refl _), show a1.takeL [] = (a1, false) from rfl, Bool.or_false] at hG
      rw [hG]
      (refine Ga ?_)
      (apply retQ2; (focus rfl); (focus rfl))
      exact ⟨rfl, hA, hc⟩
end Aw
end Go.Proofs.Ytoljcnlmockpcaa
