/- The walks of strings.Builder that the shelf lacks here: copyCheck, WriteByte; value.Quote. -/
import Derived.Test.YtglfoofclicfpaaDoorText
namespace Go.Proofs.YtglfoofclicfpaaDoor
set_option maxRecDepth 100000
namespace Val
open Go Go.RowKit Sx Fl Hex
abbrev IsB (B b : Nat) (bs : List Value) (w : World) : Prop := Lib.IsBuilder 57 5 B b bs w
abbrev BAt (B b : Nat) (bs : List Value) (w : World) : Prop := Lib.BuilderAt 57 5 B b (.pointer (some ⟨b, 0, none⟩)) bs w
theorem blk_of {w : World} {b : Nat} {p v : Value} {e : TypeId} (h : w.heap[b]? = some (.cells #[p, v] e (0, 0))) : Blk w b [p, v] e := h
theorem of_blk {w : World} {b : Nat} {p v : Value} {e : TypeId} (h : Blk w b [p, v] e) : w.heap[b]? = some (.cells #[p, v] e (0, 0)) := h
theorem put_addr {w : World} {B b : Nat} {p q v : Value} {bs : List Value} {e : TypeId} (hb : Blk w b [p, v] e) (h : Lib.BuilderAt e 5 B b p bs w) : Lib.BuilderAt e 5 B b q bs (w.putObj b (.cells [q, v].toArray e)) := by
  have := h.used q
  rw [hb.set] at this
  exact this
theorem put_buf {w : World} {B b : Nat} {p v v' : Value} {bs : List Value} (hB : B ≤ b) (hb : Blk w b [p, v] 57) (h : w.ownsRow B 5 1 v' bs.length bs) : Lib.BuilderAt 57 5 B b p bs (w.putObj b (.cells [p, v'].toArray 57)) := by
  have := Lib.BuilderAt.put (p := p) (v := v) (T := 57) hB (of_blk hb) h (by decide)
  rw [hb.set] at this
  exact this
theorem new_builder {w : World} : IsB w.heap.size w.heap.size [] (w.alloc (.cells [.pointer none, .slice none 0 0].toArray 57)) :=
  .inl ⟨Nat.le_refl _, .slice none 0 0, of_blk (Blk.newE rfl _ _), World.ownsRow_nil _ _ _ _, by simp [Value.ownBlock]⟩
attribute [local irreducible] W Lst Qst Pu seqQ blkQ rndQ cutQ retQ Does Enters IntKind.wrap bits sb World.alloc World.putObj Blk
theorem c_cc (B b : Nat) (bs : List Value) (w : World) (h : IsB B b bs w) : Does Tryd.prog 41 #[.pointer (some ⟨b, 0, none⟩)] w fun v w' => v = .tuple #[] ∧ BAt B b bs w' ∧ Below B w w' := by
  refine Does_of (args := [.pointer (some ⟨b, 0, none⟩)]) Tryd.func41 (by kernel_rfl) rfl rfl rfl rfl rfl ?_
  rcases h with h | h
  · have hh := h
    obtain ⟨hB, sv, hb, hown, hne⟩ := h
    have hblk := blk_of hb
    (refine Ga ?_)
    apply Lst_tounsafe
    focus rfl
    focus rfl
    focus rfl
    focus rfl
    focus rfl
    focus exact hblk
    focus simp
    focus rfl
    (refine Ga ?_)
    apply Lst_pu
    · apply P_noescape
      focus rfl
      focus rfl
      focus rfl
      focus rfl
      focus kernel_rfl
      focus kernel_rfl
      focus kernel_rfl
    focus rfl
    (refine Ga ?_)
    apply Lst_fromunsafe
    focus rfl
    focus rfl
    focus rfl
    focus rfl
    focus exact hblk
    focus kernel_rfl
    focus rfl
    (refine Ga ?_)
    apply retQ0n
    exact ⟨rfl, put_addr hblk hh, Sx.Below.put (Below.refl _ _) hB _⟩
  · have hh := h
    obtain ⟨hB, sv, hb, hown, hne⟩ := h
    have hblk := blk_of hb
    (refine Ga ?_)
    apply retQ0n
    exact ⟨rfl, hh, Below.refl _ _⟩
theorem c_wb (B b : Nat) (bs : List Value) (c : Int) (w : World) (h : IsB B b bs w) (hlen : bs.length + 1 ≤ 140737488355328) (hBw : B ≤ w.heap.size) : Does Tryd.prog 50 #[.pointer (some ⟨b, 0, none⟩), .int .u8 c] w fun v w' => v = .nilIface ∧ IsB B b (bs ++ [.int .u8 c]) w' ∧ Below B w w' := by
  refine Does_of (args := [.pointer (some ⟨b, 0, none⟩), .int .u8 c]) Tryd.func50 (by kernel_rfl) rfl rfl rfl rfl rfl ?_
  (refine Ga ?_)
  (apply Lst_call; (focus rfl); (focus rfl))
  refine (c_cc B b bs w h).mono ?_
  rintro v w1 ⟨rfl, ⟨hB, sv, hb, hown, hne⟩, hb1⟩
  have hblk := blk_of hb
  have hs1 := hb1.size
  (refine Ga ?_)
  apply Lst_push (hown := hown) (bytes := 1)
  ((focus constructor); (focus rfl); (focus rfl); (focus rfl); (focus rfl); (focus rfl); (focus rfl); (focus rfl); (focus rfl); (focus rfl); (focus rfl); (focus simp [Value.oneCell']); (focus rfl); (focus rfl); (focus rfl); (focus rfl); (focus omega); (focus omega); (focus omega))
  intro v' w2 ho' hg _
  have hblk2 := hblk.grown hg (fun k hk e => hne (by rw [hk, e]))
  obtain ⟨v1, v2, v3, rfl⟩ := own_slice ho'
  (refine Ga ?_)
  (apply retQ1; (focus rfl))
  refine ⟨rfl, .inr ?_, ?_⟩
  · exact put_buf hB hblk2 (by rw [List.length_append]; exact ho')
  · exact Sx.Below.put (Sx.Below.own hb1 hown hg (Nat.le_refl _) (by omega)) hB _
theorem c_bstr (B b : Nat) (l : List UInt8) (w : World) (h : IsB B b (Lib.byteCells l) w) (hBw : B ≤ w.heap.size) : Does Tryd.prog 26 #[.pointer (some ⟨b, 0, none⟩)] w fun v w' => v = .string ⟨l.toArray⟩ ∧ Below B w w' := by
  unfold Does
  exact ⟨Sx.enters_of Tryd.func26 (by kernel_rfl) rfl, (Tryd.Builder_String_any B b l w h hBw).mono fun e w' h => ⟨_, h.1, rfl, h.2⟩⟩
theorem c_Quote (s : ByteArray) (hs : s.size < 1000000) (w : World) : Does Tryd.prog 37 #[.string s] w fun v w' => v = .string ⟨(quote s.data.toList).toArray⟩ ∧ Below w.heap.size w w' := by
  refine Does_of (args := [.string s]) Tryd.func37 (by kernel_rfl) rfl rfl rfl rfl rfl ?_
  (refine Ga ?_)
  (apply Lst_call; (focus rfl); (focus rfl))
  refine (c_wb w.heap.size w.heap.size [] 34 _ new_builder (by simp) (by rw [World.size_alloc]; omega)).mono ?_
  rintro v w1 ⟨rfl, hI, hb1⟩
  have hb1' : Below w.heap.size w w1 := ((Below.refl _ _).alloc (Nat.le_refl _) _).trans hb1
  clear hb1
  (refine Ga ?_)
  refine W_loop (α := Nat) (fun k => [(0, .string s), (3, .pointer (some ⟨w.heap.size, 0, none⟩)), (7, .int .i64 (s.size : Int)), (8, .int .i64 (k : Int))])
    (fun k A => k ≤ s.size ∧ IsB w.heap.size w.heap.size (Lib.byteCells (34 :: qbs (s.data.toList.take k))) A ∧ Below w.heap.size w A) (fun k _ => s.size - k) 0 ⟨Nat.zero_le _, hI, hb1'⟩ ⟨rfl, rfl, rfl, rfl, trivial⟩ ?_
  clear hI hb1'
  rintro J k A ⟨hk, hI, hb⟩
  have hA := hb.size
  have htk : (qbs (s.data.toList.take k)).length ≤ 2 * k := Nat.le_trans (qbs_length _) (by rw [List.length_take]; omega)
  by_cases hlt : k < s.size
  · have hkl : k < s.data.toList.length := hlt
    have hsb : sb s k = (s.data.toList[k].toNat : Int) := by
      unfold sb
      rw [List.getD_eq_getElem?_getD, List.getElem?_eq_getElem hkl]
      rfl
    have hstep : qbs (s.data.toList.take (k + 1)) = qbs (s.data.toList.take k) ++ qb s.data.toList[k] := by
      rw [List.take_succ_eq_append_getElem hkl, qbs_append]
      simp [qbs]
    generalize s.data.toList[k] = x at hsb hstep
    have hbl : ∀ l : List UInt8, (Lib.byteCells l).length = l.length := fun l => by simp [Lib.byteCells]
    have w1 : ∀ A' c, IsB w.heap.size w.heap.size (Lib.byteCells (34 :: qbs (s.data.toList.take k))) A' → w.heap.size ≤ A'.heap.size → _ := fun A' c h h' => c_wb w.heap.size w.heap.size _ c A' h (by rw [hbl]; simp only [List.length_cons]; omega) h'
    by_cases hq : x.toNat = 34 ∨ x.toNat = 92
    · have hqb : qb x = [92, x] := by
        unfold qb
        rw [if_pos]
        rcases hq with h | h
        · exact .inl (UInt8.toNat_inj.1 h)
        · exact .inr (UInt8.toNat_inj.1 h)
      have hfin : Lib.byteCells (34 :: qbs (s.data.toList.take (k + 1))) = (Lib.byteCells (34 :: qbs (s.data.toList.take k)) ++ [.int .u8 92]) ++ [.int .u8 (sb s k)] := by
        rw [hstep, hqb, hsb]
        simp [Lib.byteCells]
      rcases hq with hq | hq
      · (refine Ga ?_)
        (apply Lst_call; (focus rfl); (focus rfl))
        refine (w1 A 92 hI hA).mono ?_
        rintro v A1 ⟨rfl, hI1, hb1⟩
        have hs1 := hb1.size
        (refine Ga ?_)
        (apply Lst_call; (focus rfl); (focus rfl))
        refine (c_wb w.heap.size w.heap.size _ (sb s k) A1 hI1 (by rw [List.length_append, hbl]; simp only [List.length_cons, List.length_nil]; omega) (by omega)).mono ?_
        rintro v A2 ⟨rfl, hI2, hb2⟩
        rw [← hfin] at hI2
        (refine Ga ?_)
        exact rndQ_n (k + 1) ⟨by omega, hI2, (hb.trans hb1).trans hb2⟩ ⟨rfl, rfl, rfl, rfl, trivial⟩ (by omega)
      · (refine Ga ?_)
        (apply Lst_call; (focus rfl); (focus rfl))
        refine (w1 A 92 hI hA).mono ?_
        rintro v A1 ⟨rfl, hI1, hb1⟩
        have hs1 := hb1.size
        (refine Ga ?_)
        (apply Lst_call; (focus rfl); (focus rfl))
        refine (c_wb w.heap.size w.heap.size _ (sb s k) A1 hI1 (by rw [List.length_append, hbl]; simp only [List.length_cons, List.length_nil]; omega) (by omega)).mono ?_
        rintro v A2 ⟨rfl, hI2, hb2⟩
        rw [← hfin] at hI2
        (refine Ga ?_)
        exact rndQ_n (k + 1) ⟨by omega, hI2, (hb.trans hb1).trans hb2⟩ ⟨rfl, rfl, rfl, rfl, trivial⟩ (by omega)
    · have hqb : qb x = [x] := by
        unfold qb
        rw [if_neg]
        rintro (h | h)
        · exact hq (.inl (by rw [h]; rfl))
        · exact hq (.inr (by rw [h]; rfl))
      have hfin : Lib.byteCells (34 :: qbs (s.data.toList.take (k + 1))) = Lib.byteCells (34 :: qbs (s.data.toList.take k)) ++ [.int .u8 (sb s k)] := by
        rw [hstep, hqb, hsb]
        simp [Lib.byteCells]
      have hq1 : ¬ x.toNat = 34 := fun h => hq (.inl h)
      have hq2 : ¬ x.toNat = 92 := fun h => hq (.inr h)
      (refine Ga ?_)
      (apply Lst_call; (focus rfl); (focus rfl))
      refine (w1 A (sb s k) hI hA).mono ?_
      rintro v A1 ⟨rfl, hI1, hb1⟩
      rw [← hfin] at hI1
      (refine Ga ?_)
      exact rndQ_n (k + 1) ⟨by omega, hI1, hb.trans hb1⟩ ⟨rfl, rfl, rfl, rfl, trivial⟩ (by omega)
  · obtain rfl : k = s.size := by omega
    have htake : s.data.toList.take s.size = s.data.toList := List.take_length
    rw [htake] at hI htk
    have hbl : ∀ l : List UInt8, (Lib.byteCells l).length = l.length := fun l => by simp [Lib.byteCells]
    (refine Ga ?_)
    (apply Lst_call; (focus rfl); (focus rfl))
    refine (c_wb w.heap.size w.heap.size _ 34 A hI (by rw [hbl]; simp only [List.length_cons]; omega) hA).mono ?_
    rintro v A1 ⟨rfl, hI1, hb1⟩
    have hs1 := hb1.size
    have hfin : Lib.byteCells (34 :: qbs s.data.toList) ++ [.int .u8 34] = Lib.byteCells (quote s.data.toList) := by
      simp [Lib.byteCells, quote]
    rw [hfin] at hI1
    (refine Ga ?_)
    (apply Lst_call; (focus rfl); (focus rfl))
    refine (c_bstr w.heap.size w.heap.size _ A1 hI1 (by omega)).mono ?_
    rintro v A2 ⟨rfl, hb2⟩
    (refine Ga ?_)
    (apply retQ1; (focus rfl))
    exact ⟨rfl, (hb.trans hb1).trans hb2⟩
end Val
end Go.Proofs.YtglfoofclicfpaaDoor
