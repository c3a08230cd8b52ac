/- Package aware: read. -/
import Derived.Test.YtoljcnlmockpcaaAw5
import Derived.Test.YtoljcnlmockpcaaRe
namespace Go.Proofs.Ytoljcnlmockpcaa
set_option maxRecDepth 100000
namespace Aw
open Go Go.RowKit Sx Wire
open So (cutQ_p rndQ_p)
theorem RdAt.belowB {w w' : World} {b B : Nat} {l : List UInt8} {e : Int} (h : RdAt w b l e) (hb : Below B w w') (hB : b < B) : RdAt w' b l e := by
  obtain ⟨a, c, h1, h2, h3, h4⟩ := h
  refine ⟨a, c, h1.below hb hB, ?_, h3, h4⟩
  have hn : ∀ j, j < (nums l).length → ∃ g off, a = some ⟨g, off, none⟩ ∧ g < B := fun j hj => by
    have hj' : j < l.length := by simpa [nums] using hj
    obtain ⟨g, off, ha, _⟩ := Sx.Ints.at h2 hj'
    have := h4 (by intro e; rw [e] at hj'; exact absurd hj' (Nat.not_lt_zero _)) _ ha
    exact ⟨g, off, ha, Nat.lt_trans this hB⟩
  obtain ⟨g, off, cap, hf, hg, hr⟩ := h2
  refine ⟨g, off, cap, hf, fun hz => ?_, fun j hj => ?_⟩
  · exact Nat.lt_of_lt_of_le (hg hz) hb.size
  · have hgB : g < B := by
      obtain ⟨g', off', ha, hl⟩ := hn j hj
      rw [nums_length] at hf
      rcases hf with hf | ⟨_, hf⟩
      · rw [ha] at hf
        cases hf
        exact hl
      · rw [hf] at hj; exact absurd hj (Nat.not_lt_zero _)
    exact (hb.cell (p := ⟨g, off + j, none⟩) (by show g < B; exact hgB)).trans (hr j hj)
theorem RS.belowB {w w' : World} {b B : Nat} {s : Option (List UInt8)} (h : RS w b s) (hb : Below B w w') (hB : b < B) : RS w' b s := by
  cases s with
  | some l => exact RdAt.belowB h hb hB
  | none =>
    obtain ⟨l, e, he, h⟩ := h
    exact ⟨l, e, he, RdAt.belowB h hb hB⟩
/-- One entry off what is left: none: these are no entries; else the entry and what is left then. -/
def rdP (last : Nat) (s : Option (List UInt8)) : Option (Pr × Option (List UInt8)) :=
  let c := mUint 9007199254740991 s
  let k := mUint 9007199254740991 c.2
  let g := mByte k.2
  let t := mText 256 g.2
  if c.1 ≤ last ∨ k.1 = 0 ∨ 1 < g.1 then none
  else if g.1 = 1 ∧ t.1 ≠ [] then none
  else some (⟨c.1, k.1, ⟨t.1.toArray⟩, decide (g.1 = 1)⟩, t.2)
/-- n entries. -/
def rdN : Nat → Nat → Option (List UInt8) → Option (List Pr × Option (List UInt8))
  | 0, _, s => some ([], s)
  | _ + 1, _, none => some ([], none)
  | n + 1, last, some l => match rdP last (some l) with
    | none => none
    | some (p, s) => match rdN n p.c s with
      | none => none
      | some (ps, s') => some (p :: ps, s')
def rdL (b : List UInt8) : Option (List Pr) :=
  let n := mUint b.length (some b)
  match rdN n.1 0 n.2 with
  | some (ps, some []) => some ps
  | _ => none
theorem mUint_none (m : Nat) : mUint m none = (0, none) := rfl
theorem mUint_len {m : Nat} {l l' : List UInt8} {n : Nat} (h : mUint m (some l) = (n, some l')) : n ≤ m ∧ l'.length ≤ l.length := by
  unfold mUint at h
  have h' : (match rdU m 0 0 l with | some (n, l) => (n, some l) | none => (0, none)) = (n, some l') := h
  cases hr : rdU m 0 0 l with
  | none => rw [hr] at h'; cases h'
  | some x =>
    rw [hr] at h'
    cases h'
    exact rdU_le hr
theorem mUint_le (m : Nat) (s : Option (List UInt8)) : (mUint m s).1 ≤ m := by
  cases s with
  | none => exact Nat.zero_le _
  | some l =>
    cases hu : mUint m (some l) with
    | mk n s' =>
      cases s' with
      | some l' => exact (mUint_len hu).1
      | none =>
        unfold mUint at hu
        have h' : (match rdU m 0 0 l with | some (n, l) => (n, some l) | none => (0, none)) = (n, none) := hu
        cases hr : rdU m 0 0 l with
        | none => rw [hr] at h'; cases h'; exact Nat.zero_le _
        | some x => rw [hr] at h'; cases h'
theorem own_chg {bs : List Nat} {w w' : World} {B nn sz : Nat} {e : TypeId} {v : Value} {xs : List Value} (h : w.ownsRow B e sz v nn xs) (hc : Chg bs w w') (hB : ∀ b ∈ bs, b < B) : w'.ownsRow B e sz v nn xs :=
  own_keep h fun g o hg hx _ => (hc.block g (lt_of_some hx) (fun hm => by have := hB g hm; omega)).trans hx
theorem mText_nil : (mText 256 none) = ([], none) := rfl
theorem RS.lt {w : World} {b : Nat} {s : Option (List UInt8)} (h : RS w b s) : b < w.heap.size := by
  obtain ⟨l, e, h, _⟩ := h.rd
  exact RdAt.lt h
theorem mText_len {m : Nat} {s : Option (List UInt8)} : (mText m s).1.length ≤ m ∧ ∀ l l', s = some l → (mText m s).2 = some l' → l'.length ≤ l.length := by
  cases s with
  | none => exact ⟨Nat.zero_le _, fun l l' h _ => by cases h⟩
  | some l =>
    unfold mText
    show ((match rdU m 0 0 l with | some (n, l) => if n ≤ l.length then (l.take n, some (l.drop n)) else ([], none) | none => ([], none)) : List UInt8 × Option (List UInt8)).1.length ≤ m ∧ _
    cases hr : rdU m 0 0 l with
    | none => exact ⟨Nat.zero_le _, fun l1 l' h h2 => by
        have h2' : (match rdU m 0 0 l with | some (n, l) => if n ≤ l.length then (l.take n, some (l.drop n)) else ([], none) | none => ([], none) : List UInt8 × Option (List UInt8)).2 = some l' := h2
        rw [hr] at h2'; cases h2'⟩
    | some x =>
      obtain ⟨n, l2⟩ := x
      have hle := rdU_le hr
      by_cases hn : n ≤ l2.length
      · refine ⟨by dsimp only; rw [if_pos hn, List.length_take]; omega, fun l1 l' h h2 => ?_⟩
        cases h
        have h2' : (match rdU m 0 0 l with | some (n, l) => if n ≤ l.length then (l.take n, some (l.drop n)) else ([], none) | none => ([], none) : List UInt8 × Option (List UInt8)).2 = some l' := h2
        rw [hr] at h2'
        dsimp only at h2'
        rw [if_pos hn] at h2'
        cases h2'
        rw [List.length_drop]
        omega
      · refine ⟨by dsimp only; rw [if_neg hn]; exact Nat.zero_le _, fun l1 l' h h2 => ?_⟩
        cases h
        have h2' : (match rdU m 0 0 l with | some (n, l) => if n ≤ l.length then (l.take n, some (l.drop n)) else ([], none) | none => ([], none) : List UInt8 × Option (List UInt8)).2 = some l' := h2
        rw [hr] at h2'
        dsimp only at h2'
        rw [if_neg hn] at h2'
        cases h2'
def slen (s : Option (List UInt8)) : Nat := match s with
  | some l => l.length
  | none => 0
theorem slen_U (m : Nat) (s : Option (List UInt8)) : slen (mUint m s).2 ≤ slen s := by
  cases s with
  | none => exact Nat.le_refl _
  | some l =>
    cases hu : mUint m (some l) with
    | mk n s' =>
      cases s' with
      | none => exact Nat.zero_le _
      | some l' => exact (mUint_len hu).2
theorem slen_B (s : Option (List UInt8)) : slen (mByte s).2 ≤ slen s := by
  match s with
  | none => exact Nat.le_refl _
  | some [] => exact Nat.zero_le _
  | some (x :: l) => exact Nat.le_succ _
theorem slen_T (m : Nat) (s : Option (List UInt8)) : slen (mText m s).2 ≤ slen s := by
  cases s with
  | none => exact Nat.le_refl _
  | some l =>
    cases hu : (mText m (some l)).2 with
    | none => exact Nat.zero_le _
    | some l' => exact mText_len.2 l l' rfl hu
/-- What read tells. -/
def RdR (w : World) (o : Option (List Pr)) (v : Value) (w' : World) : Prop :=
  (match o with
    | some ps => ∃ u, v = .tuple #[u, .bool true] ∧ w'.ownsRow w.heap.size 37 4 u ps.length (ps.map pcs).flatten
    | none => ∃ u, v = .tuple #[u, .bool false]) ∧ Below w.heap.size w w'
theorem own_putN {w : World} {B b nn sz : Nat} {e : TypeId} {v : Value} {xs : List Value} (h : w.ownsRow B e sz v nn xs) (hne : v.ownBlock ≠ some b) {o : Obj} : (w.putObj b o).ownsRow B e sz v nn xs := by
  refine ⟨h.1, ?_⟩
  rcases h.2 with ⟨rfl, hn⟩ | ⟨g, cap, cur, rfl, hb, hg, h1, h2, h3, h4⟩
  · exact .inl ⟨rfl, hn⟩
  · refine .inr ⟨g, cap, cur, rfl, hb, ?_, h1, h2, h3, h4⟩
    exact (World.putObj_heap_other (by intro e; apply hne; rw [← e]; rfl)).trans hg
attribute [local irreducible] W Lst Qst Pu seqQ blkQ rndQ cutQ retQ Does Enters IntKind.wrap bits sb World.alloc World.putObj Blk
set_option maxHeartbeats 2000000 in
theorem c_read (v : Value) (b : List UInt8) (hl : b.length ≤ 100000000) (w : World) (h : Ints w .u8 v (nums b)) : Does Try.prog 36 #[v] w (RdR w (rdL b)) := by
  obtain ⟨v1, v2, rfl⟩ := h.form
  rw [nums_length]
  refine Does_of (args := [.slice v1 b.length v2]) Try.func36 (by kernel_rfl) rfl rfl rfl rfl rfl ?_
  have hw : IntKind.u64.wrap (b.length : Int) = ((b.length : Nat) : Int) := wu64 (by omega) (by omega)
  rw [nums_length] at h
  (refine Ga ?_)
  (apply Lst_call; (focus rfl); (focus rfl))
  refine (c_NewReader _ b hl w h).mono ?_
  rintro v w1 ⟨r, rfl, hr, hrd, hb1⟩
  have hrs : RS w1 r (some b) := hrd
  have hrl := hrd.lt
  (refine Ga ?_)
  (apply Lst_call; (focus rfl); (focus rfl))
  refine (c_RUint r b.length (some b) w1 hrs).mono ?_
  rintro v w2 ⟨rfl, hrs2, hc2, hn⟩
  have hn1 := mUint_le b.length (some b)
  have hn2 := slen_U b.length (some b)
  unfold rdL
  generalize mUint b.length (some b) = M at *
  obtain ⟨n0, s0⟩ := M
  dsimp only at hrs2 hn hn1 hn2 ⊢
  have hn3 : slen s0 ≤ 100000000 := Nat.le_trans hn2 hl
  have b2 : Below w.heap.size w w2 := hb1.trans (hc2.below (by simpa using hr) hb1.size)
  have s2 := hc2.size
  (refine Ga ?_)
  refine W_loop (α := Nat × Nat × Option (List UInt8) × List Pr × Value) (fun x => [(4, .pointer (some ⟨r, 0, none⟩)), (5, x.2.2.2.2), (6, .int .u64 (x.2.1 : Int)), (7, .int .u64 (x.1 : Int))])
    (fun x A => RS A r x.2.2.1 ∧ slen x.2.2.1 ≤ 100000000 ∧ x.2.2.2.1.length + x.1 ≤ 100000000 ∧ x.2.1 ≤ 9007199254740991 ∧ rdN n0 0 s0 = (rdN x.1 x.2.1 x.2.2.1).map (fun y => (x.2.2.2.1 ++ y.1, y.2)) ∧
      A.ownsRow w1.heap.size 37 4 x.2.2.2.2 x.2.2.2.1.length (x.2.2.2.1.map pcs).flatten ∧ Below w.heap.size w A ∧ w1.heap.size ≤ A.heap.size) (fun x _ => x.1) (n0, 0, s0, [], .slice none 0 0)
    ⟨hrs2, hn3, by simp; omega, Nat.zero_le _, ?_, World.ownsRow_nil _ _ _ _, b2, s2⟩ ⟨rfl, rfl, rfl, rfl, trivial⟩ ?_
  · cases rdN n0 0 s0 with
    | none => rfl
    | some y => rfl
  clear hrs hrs2 hc2 b2 s2 w2 hrd hn2 hn
  rintro J ⟨n, last, s, acc, out⟩ A ⟨hrs, hsl, hnl, hla, hG, ho, bA, sA⟩
  dsimp only at hrs hsl hnl hla hG ho ⊢
  by_cases hn0 : n = 0
  · subst hn0
    rw [show rdN 0 last s = some ([], s) from rfl] at hG
    rw [hG]
    obtain ⟨o1, o2, o3, rfl⟩ := own_slice ho
    obtain ⟨l, e, hrd, hs⟩ := hrs.rd
    (refine Ga ?_)
    (apply Lst_call; (focus rfl); (focus rfl))
    refine (c_Err r l e A hrd).mono ?_
    rintro v w' ⟨rfl, rfl⟩
    by_cases he : e = 0
    · subst he
      rw [if_pos rfl] at hs
      subst hs
      (refine Ga ?_)
      (apply Lst_call; (focus rfl); (focus rfl))
      refine (c_Left r l 0 A hrd).mono ?_
      rintro v w' ⟨rfl, rfl⟩
      cases l with
      | nil =>
        have hl0 : ((([] : List UInt8).length : Nat) : Int) = 0 := rfl
        (refine Ga ?_)
        apply retQ2
        focus rfl
        focus rfl
        refine ⟨⟨_, rfl, ?_⟩, bA⟩
        rw [List.append_nil]
        exact own_baseN ho hb1.size
      | cons x l =>
        have hlc : ((x :: l).length : Int) ≠ 0 := by rw [List.length_cons]; omega
        (refine Ga ?_)
        apply retQ2
        focus rfl
        focus rfl
        exact ⟨⟨_, rfl⟩, bA⟩
    · rw [if_neg he] at hs
      subst hs
      (refine Ga ?_)
      apply retQ2
      focus rfl
      focus rfl
      exact ⟨⟨_, rfl⟩, bA⟩
  obtain ⟨m, rfl⟩ : ∃ m, n = m + 1 := ⟨n - 1, by omega⟩
  cases s with
  | none =>
    rw [show rdN (m + 1) last none = some ([], none) from rfl] at hG
    rw [hG]
    obtain ⟨o1, o2, o3, rfl⟩ := own_slice ho
    obtain ⟨l, e, he, hrd⟩ := hrs
    (refine Ga ?_)
    (apply Lst_call; (focus rfl); (focus rfl))
    refine (c_Err r l e A hrd).mono ?_
    rintro v w' ⟨rfl, rfl⟩
    (refine Ga ?_)
    (apply Lst_call; (focus rfl); (focus rfl))
    refine (c_Err r l e A hrd).mono ?_
    rintro v w' ⟨rfl, rfl⟩
    (refine Ga ?_)
    apply retQ2
    focus rfl
    focus rfl
    exact ⟨⟨_, rfl⟩, bA⟩
  | some l =>
    have hrd : RdAt A r l 0 := hrs
    obtain ⟨o1, o2, o3, rfl⟩ := own_slice ho
    obtain ⟨c, s1, hC⟩ : ∃ c s1, mUint 9007199254740991 (some l) = (c, s1) := ⟨_, _, rfl⟩
    obtain ⟨k, s2, hK⟩ : ∃ k s2, mUint 9007199254740991 s1 = (k, s2) := ⟨_, _, rfl⟩
    obtain ⟨g, s3, hg⟩ : ∃ g s3, mByte s2 = (g, s3) := ⟨_, _, rfl⟩
    obtain ⟨t, s4, hT⟩ : ∃ t s4, mText 256 s3 = (t, s4) := ⟨_, _, rfl⟩
    have hP : rdP last (some l) = if c ≤ last ∨ k = 0 ∨ 1 < g then none else if g = 1 ∧ t ≠ [] then none else some (⟨c, k, ⟨t.toArray⟩, decide (g = 1)⟩, s4) := by
      unfold rdP
      simp only [hC, hK, hg, hT]
    have hcM : c ≤ 9007199254740991 := by have := mUint_le 9007199254740991 (some l); rw [hC] at this; exact this
    have hkM : k ≤ 9007199254740991 := by have := mUint_le 9007199254740991 s1; rw [hK] at this; exact this
    have hl1 : slen s1 ≤ slen (some l) := by have := slen_U 9007199254740991 (some l); rw [hC] at this; exact this
    have hl2 : slen s2 ≤ slen s1 := by have := slen_U 9007199254740991 s1; rw [hK] at this; exact this
    have hl3 : slen s3 ≤ slen s2 := by have := slen_B s2; rw [hg] at this; exact this
    have hl4 : slen s4 ≤ slen s3 := by have := slen_T 256 s3; rw [hT] at this; exact this
    have hN : rdN (m + 1) last (some l) = (match rdP last (some l) with
      | none => none
      | some (p, s) => match rdN m p.c s with
        | none => none
        | some (ps, s') => some (p :: ps, s')) := rfl
    rw [hN, hP] at hG
    clear hN hP
    have u1 := c_RUint r 9007199254740991 (some l) A hrs
    rw [hC] at u1
    dsimp only at u1
    (refine Ga ?_)
    (apply Lst_call; (focus rfl); (focus rfl))
    refine (c_Err r l 0 A hrd).mono ?_
    rintro v w' ⟨rfl, rfl⟩
    (refine Ga ?_)
    (apply Lst_call; (focus rfl); (focus rfl))
    refine u1.mono ?_
    rintro v A1 ⟨rfl, hrs1, hc1, _⟩
    have u2 := c_RUint r 9007199254740991 s1 A1 hrs1
    rw [hK] at u2
    dsimp only at u2
    (refine Ga ?_)
    (apply Lst_call; (focus rfl); (focus rfl))
    refine u2.mono ?_
    rintro v A2 ⟨rfl, hrs2, hc2, _⟩
    have hc12 := hc1.trans hc2
    have ho2 := own_chg ho hc12 (by simpa using hrl)
    have bA2 := bA.trans (hc12.below (by simpa using hr) bA.size)
    have sA2 := Nat.le_trans sA hc12.size
    clear u1 u2 hrs1 hrs hrd hc12 hc1 hc2 ho
    (refine Ga ?_)
    have hbX : Below A2.heap.size A2 ((A2.alloc (.cells [.int .u64 0, .int .u64 0, .string ⟨#[]⟩, .bool false].toArray 37)).putObj A2.heap.size (.cells [.int .u64 (c : Int), .int .u64 (k : Int), .string ⟨#[]⟩, .bool false].toArray 37)) := Bel
    have kX : Blk ((A2.alloc (.cells [.int .u64 0, .int .u64 0, .string ⟨#[]⟩, .bool false].toArray 37)).putObj A2.heap.size (.cells [.int .u64 (c : Int), .int .u64 (k : Int), .string ⟨#[]⟩, .bool false].toArray 37)) A2.heap.size [.int .u64 (c : Int), .int .u64 (k : Int), .string ⟨#[]⟩, .bool false] 37 := (by (repeat (first | assumption | (apply Blk.below (hb := hb1); rotate_left; (focus ((try simp only [Sx.sizes]); omega)); rotate_right) | (apply Blk.below (hb := hb2); rotate_left; (focus ((try simp only [Sx.sizes]); omega)); rotate_right) | (apply Blk.below (hb := hb3); rotate_left; (focus ((try simp only [Sx.sizes]); omega)); rotate_right) | (apply Blk.below (hb := hb4); rotate_left; (focus ((try simp only [Sx.sizes]); omega)); rotate_right) | (apply Blk.below (hb := hb5); rotate_left; (focus ((try simp only [Sx.sizes]); omega)); rotate_right) | (apply Blk.below (hb := hb6); rotate_left; (focus ((try simp only [Sx.sizes]); omega)); rotate_right) | (apply Blk.below (hb := hb7); rotate_left; (focus ((try simp only [Sx.sizes]); omega)); rotate_right) | (apply Blk.below (hb := hb8); rotate_left; (focus ((try simp only [Sx.sizes]); omega)); rotate_right) | (apply Blk.below (hb := hb9); rotate_left; (focus ((try simp only [Sx.sizes]); omega)); rotate_right) | exact Blk.newE (by first | rfl | ((try simp only [Sx.sizes]); first | done | omega)) _ _ | exact Blk.put_same (by (try simp only [Sx.sizes]); first | done | omega) _ _ | (apply Blk.put_ne; (focus omega)) | apply Blk.alloc | apply Blk.drew)); done)
    have hsX : ((A2.alloc (.cells [.int .u64 0, .int .u64 0, .string ⟨#[]⟩, .bool false].toArray 37)).putObj A2.heap.size (.cells [.int .u64 (c : Int), .int .u64 (k : Int), .string ⟨#[]⟩, .bool false].toArray 37)).heap.size = A2.heap.size + 1 := by simp only [Sx.sizes]
    generalize ((A2.alloc (.cells [.int .u64 0, .int .u64 0, .string ⟨#[]⟩, .bool false].toArray 37)).putObj A2.heap.size (.cells [.int .u64 (c : Int), .int .u64 (k : Int), .string ⟨#[]⟩, .bool false].toArray 37)) = X at *
    have hrA2 : r < A2.heap.size := by omega
    have u3 := c_RByte r s2 X (RS.belowB hrs2 hbX hrA2)
    rw [hg] at u3
    dsimp only at u3
    (apply Lst_call; (focus rfl); (focus rfl))
    refine u3.mono ?_
    rintro v A3 ⟨rfl, hrs3, hc3, hg256⟩
    have k3 := hc3.blk kX (by simp; omega)
    have bA3 := (bA2.trans (hbX.mono bA2.size)).trans (hc3.below (by simpa using hr) (by have := bA2.size; omega))
    have sA3 : w1.heap.size ≤ A3.heap.size := by have := hc3.size; omega
    have ho3 := own_chg (own_below ho2 hbX (Nat.le_refl _)) hc3 (by simpa using hrl)
    have hoK : (Value.slice o1 o2 o3).ownBlock ≠ some A2.heap.size := fun e => by have := (ho2.lt _ e).2; omega
    have hl3' := k3.lt
    clear u3 hrs2 ho2 kX hbX
    by_cases h1 : c ≤ last
    · rw [if_pos (.inl h1)] at hG
      rw [hG]
      (refine Ga ?_)
      apply retQ2
      focus rfl
      focus rfl
      exact ⟨⟨_, rfl⟩, bA3⟩
    by_cases h2 : k = 0
    · have h2' : (k : Int) = 0 := by omega
      rw [if_pos (.inr (.inl h2))] at hG
      rw [hG]
      (refine Ga ?_)
      apply retQ2
      focus rfl
      focus rfl
      exact ⟨⟨_, rfl⟩, bA3⟩
    have h2' : (k : Int) ≠ 0 := by omega
    by_cases h3 : 1 < g
    · rw [if_pos (.inr (.inr h3))] at hG
      rw [hG]
      (refine Ga ?_)
      apply retQ2
      focus rfl
      focus rfl
      exact ⟨⟨_, rfl⟩, bA3⟩
    rw [if_neg (by omega)] at hG
    have hs3 : slen s3 ≤ 100000000 := by omega
    have u4 := c_RText r 256 s3 A3 (by omega) (fun l e => by rw [e] at hs3; exact Nat.lt_of_le_of_lt hs3 (by omega)) hrs3
    rw [hT] at u4
    dsimp only at u4
    by_cases h4 : g = 1
    · subst h4
      (refine Ga ?_)
      (apply Lst_call; (focus rfl); (focus rfl))
      refine u4.mono ?_
      rintro v A4 ⟨rfl, hrs4, hc4⟩
      have k4 := hc4.blk k3 (by simp; omega)
      have bA4 := bA3.trans (hc4.below (by simpa using hr) bA3.size)
      have sA4 := Nat.le_trans sA3 hc4.size
      have ho4 := own_chg ho3 hc4 (by simpa using hrl)
      have hKl := k4.lt
      by_cases ht : t = []
      · subst ht
        rw [if_neg (by simp)] at hG
        (refine Ga ?_)
        have cY : Chg [A2.heap.size] A4 ((A4.putObj A2.heap.size (.cells [.int .u64 (c : Int), .int .u64 (k : Int), .string ⟨#[]⟩, .bool true].toArray 37)).putObj A2.heap.size (.cells [.int .u64 (c : Int), .int .u64 (k : Int), .string ⟨#[]⟩, .bool true].toArray 37)) := ((Chg.refl _ _).put (by simp) _).put (by simp) _
        have bY : Below w.heap.size w ((A4.putObj A2.heap.size (.cells [.int .u64 (c : Int), .int .u64 (k : Int), .string ⟨#[]⟩, .bool true].toArray 37)).putObj A2.heap.size (.cells [.int .u64 (c : Int), .int .u64 (k : Int), .string ⟨#[]⟩, .bool true].toArray 37)) := Sx.Below.put (Sx.Below.put bA4 (by omega) _) (by omega) _
        have sY : ((A4.putObj A2.heap.size (.cells [.int .u64 (c : Int), .int .u64 (k : Int), .string ⟨#[]⟩, .bool true].toArray 37)).putObj A2.heap.size (.cells [.int .u64 (c : Int), .int .u64 (k : Int), .string ⟨#[]⟩, .bool true].toArray 37)).heap.size = A4.heap.size := by simp only [Sx.sizes]
        have oY : ((A4.putObj A2.heap.size (.cells [.int .u64 (c : Int), .int .u64 (k : Int), .string ⟨#[]⟩, .bool true].toArray 37)).putObj A2.heap.size (.cells [.int .u64 (c : Int), .int .u64 (k : Int), .string ⟨#[]⟩, .bool true].toArray 37)).ownsRow w1.heap.size 37 4 (.slice o1 o2 o3) acc.length (acc.map pcs).flatten := own_putN (own_putN ho4 hoK) hoK
        have rY : RS ((A4.putObj A2.heap.size (.cells [.int .u64 (c : Int), .int .u64 (k : Int), .string ⟨#[]⟩, .bool true].toArray 37)).putObj A2.heap.size (.cells [.int .u64 (c : Int), .int .u64 (k : Int), .string ⟨#[]⟩, .bool true].toArray 37)) r s4 := RS.belowB hrs4 (Sx.Below.put (Sx.Below.put (Below.refl A2.heap.size A4) (Nat.le_refl _) _) (Nat.le_refl _) _) hrA2
        generalize ((A4.putObj A2.heap.size (.cells [.int .u64 (c : Int), .int .u64 (k : Int), .string ⟨#[]⟩, .bool true].toArray 37)).putObj A2.heap.size (.cells [.int .u64 (c : Int), .int .u64 (k : Int), .string ⟨#[]⟩, .bool true].toArray 37)) = Y at *
        apply Lst_push (hown := oY) (bytes := 40)
        ((focus constructor); (focus rfl); (focus rfl); (focus rfl); (focus rfl); (focus rfl); (focus rfl); (focus rfl); (focus rfl); (focus rfl); (focus rfl); (focus simp [Value.oneCell']); (focus rfl); (focus rfl); (focus rfl); (focus rfl); (focus omega); (focus omega); (focus omega))
        intro v' Z oZ hgr _
        have bZ := Sx.Below.own bY oY hgr (by omega) (by omega)
        have bZ2 := Sx.Below.own (Below.refl w1.heap.size Y) oY hgr (Nat.le_refl _) (by omega)
        have sZ := bZ2.size
        obtain ⟨p1, p2, p3, rfl⟩ := own_slice oZ
        have hwn : arith .sub .u64 ((m + 1 : Nat) : Int) 1 = (m : Int) := by
          show IntKind.u64.wrap (((m + 1 : Nat) : Int) - 1) = _
          rw [wu64 (by omega) (by omega)]
          omega
        (refine Ga ?_)
        refine rndQ_n (α := Nat × Nat × Option (List UInt8) × List Pr × Value) (m, c, s4, acc ++ [⟨c, k, ⟨#[]⟩, true⟩], .slice p1 p2 p3) ⟨RS.belowB rY bZ2 hrl, by dsimp only; omega, by dsimp only; rw [List.length_append, List.length_singleton]; omega, hcM, ?_, ?_, bZ, by omega⟩ ⟨rfl, rfl, rfl, rfl, trivial⟩ (by dsimp only; omega)
        · rw [hG]
          dsimp only
          cases rdN m c s4 with
          | none => rfl
          | some y =>
            obtain ⟨ps, s'⟩ := y
            show some (acc ++ (_ :: ps), s') = some (acc ++ [_] ++ ps, s')
            rw [List.append_assoc]
            rfl
        · dsimp only
          rw [List.length_append, List.length_singleton, List.map_append, List.flatten_append, List.map_singleton, List.flatten_singleton]
          exact oZ
      · rw [if_pos ⟨rfl, ht⟩] at hG
        rw [hG]
        have hts : (⟨t.toArray⟩ : ByteArray) ≠ ⟨#[]⟩ := fun e => ht (by cases t with | nil => rfl | cons x t => cases e)
        (refine Ga ?_)
        apply retQ2
        focus rfl
        focus rfl
        refine ⟨⟨_, rfl⟩, ?_⟩
        exact Sx.Below.put (Sx.Below.put bA4 (by omega) _) (by omega) _
    · have h5 : g = 0 := by omega
      subst h5
      (refine Ga ?_)
      (apply Lst_call; (focus rfl); (focus rfl))
      refine u4.mono ?_
      rintro v A4 ⟨rfl, hrs4, hc4⟩
      have k4 := hc4.blk k3 (by simp; omega)
      have bA4 := bA3.trans (hc4.below (by simpa using hr) bA3.size)
      have sA4 := Nat.le_trans sA3 hc4.size
      have ho4 := own_chg ho3 hc4 (by simpa using hrl)
      have hKl := k4.lt
      rw [if_neg (by simp)] at hG
      (refine Ga ?_)
      have cY : Chg [A2.heap.size] A4 ((A4.putObj A2.heap.size (.cells [.int .u64 (c : Int), .int .u64 (k : Int), .string ⟨#[]⟩, .bool false].toArray 37)).putObj A2.heap.size (.cells [.int .u64 (c : Int), .int .u64 (k : Int), .string ⟨t.toArray⟩, .bool false].toArray 37)) := ((Chg.refl _ _).put (by simp) _).put (by simp) _
      have bY : Below w.heap.size w ((A4.putObj A2.heap.size (.cells [.int .u64 (c : Int), .int .u64 (k : Int), .string ⟨#[]⟩, .bool false].toArray 37)).putObj A2.heap.size (.cells [.int .u64 (c : Int), .int .u64 (k : Int), .string ⟨t.toArray⟩, .bool false].toArray 37)) := Sx.Below.put (Sx.Below.put bA4 (by omega) _) (by omega) _
      have sY : ((A4.putObj A2.heap.size (.cells [.int .u64 (c : Int), .int .u64 (k : Int), .string ⟨#[]⟩, .bool false].toArray 37)).putObj A2.heap.size (.cells [.int .u64 (c : Int), .int .u64 (k : Int), .string ⟨t.toArray⟩, .bool false].toArray 37)).heap.size = A4.heap.size := by simp only [Sx.sizes]
      have oY : ((A4.putObj A2.heap.size (.cells [.int .u64 (c : Int), .int .u64 (k : Int), .string ⟨#[]⟩, .bool false].toArray 37)).putObj A2.heap.size (.cells [.int .u64 (c : Int), .int .u64 (k : Int), .string ⟨t.toArray⟩, .bool false].toArray 37)).ownsRow w1.heap.size 37 4 (.slice o1 o2 o3) acc.length (acc.map pcs).flatten := own_putN (own_putN ho4 hoK) hoK
      have rY : RS ((A4.putObj A2.heap.size (.cells [.int .u64 (c : Int), .int .u64 (k : Int), .string ⟨#[]⟩, .bool false].toArray 37)).putObj A2.heap.size (.cells [.int .u64 (c : Int), .int .u64 (k : Int), .string ⟨t.toArray⟩, .bool false].toArray 37)) r s4 := RS.belowB hrs4 (Sx.Below.put (Sx.Below.put (Below.refl A2.heap.size A4) (Nat.le_refl _) _) (Nat.le_refl _) _) hrA2
      generalize ((A4.putObj A2.heap.size (.cells [.int .u64 (c : Int), .int .u64 (k : Int), .string ⟨#[]⟩, .bool false].toArray 37)).putObj A2.heap.size (.cells [.int .u64 (c : Int), .int .u64 (k : Int), .string ⟨t.toArray⟩, .bool false].toArray 37)) = Y at *
      apply Lst_push (hown := oY) (bytes := 40)
      ((focus constructor); (focus rfl); (focus rfl); (focus rfl); (focus rfl); (focus rfl); (focus rfl); (focus rfl); (focus rfl); (focus rfl); (focus rfl); (focus simp [Value.oneCell']); (focus rfl); (focus rfl); (focus rfl); (focus rfl); (focus omega); (focus omega); (focus omega))
      intro v' Z oZ hgr _
      have bZ := Sx.Below.own bY oY hgr (by omega) (by omega)
      have bZ2 := Sx.Below.own (Below.refl w1.heap.size Y) oY hgr (Nat.le_refl _) (by omega)
      have sZ := bZ2.size
      obtain ⟨p1, p2, p3, rfl⟩ := own_slice oZ
      have hwn : arith .sub .u64 ((m + 1 : Nat) : Int) 1 = (m : Int) := by
        show IntKind.u64.wrap (((m + 1 : Nat) : Int) - 1) = _
        rw [wu64 (by omega) (by omega)]
        omega
      (refine Ga ?_)
      refine rndQ_n (α := Nat × Nat × Option (List UInt8) × List Pr × Value) (m, c, s4, acc ++ [⟨c, k, ⟨t.toArray⟩, false⟩], .slice p1 p2 p3) ⟨RS.belowB rY bZ2 hrl, by dsimp only; omega, by dsimp only; rw [List.length_append, List.length_singleton]; omega, hcM, ?_, ?_, bZ, by omega⟩ ⟨rfl, rfl, rfl, rfl, trivial⟩ (by dsimp only; omega)
      · rw [hG]
        dsimp only
        cases rdN m c s4 with
        | none => rfl
        | some y =>
          obtain ⟨ps, s'⟩ := y
          show some (acc ++ (_ :: ps), s') = some (acc ++ [_] ++ ps, s')
          rw [List.append_assoc]
          rfl
      · dsimp only
        rw [List.length_append, List.length_singleton, List.map_append, List.flatten_append, List.map_singleton, List.flatten_singleton]
        exact oZ
end Aw
end Go.Proofs.Ytoljcnlmockpcaa
