/- Rows of bytes that are only read; same. -/
import Derived.Test.YtfocnbmihcnaoaaGreatDoorWaO
namespace Go.Proofs.YtfocnbmihcnaoaaGreatDoor
set_option maxRecDepth 100000
namespace Wa
open Go Go.RowKit Sx Wire Dk
/-- Rows of bytes behind a slice, only read. -/
def BsS (w : World) (v : Value) (L : List (List UInt8)) : Prop :=
  ∃ a c, v = .slice a L.length c ∧ ∀ j (h : j < L.length), ∃ g off u, a = some ⟨g, off, none⟩ ∧ w.cell? ⟨g, off + j, none⟩ = some u ∧ g < w.heap.size ∧ By w u L[j]
theorem BsS.below {w w' : World} {v : Value} {L : List (List UInt8)} (h : BsS w v L) (hb : Below w.heap.size w w') : BsS w' v L := by
  obtain ⟨a, c, e, hr⟩ := h
  refine ⟨a, c, e, fun j hj => ?_⟩
  obtain ⟨g, off, u, e1, e2, e3, e4⟩ := hr j hj
  exact ⟨g, off, u, e1, (World.cell?_of_block (a := ⟨g, off + j, none⟩) (hb.block g e3)).trans e2, Nat.lt_of_lt_of_le e3 hb.size, By.below e4 hb (Nat.le_refl _)⟩
theorem OwnBs.reads {B : Nat} {w : World} {v : Value} {L : List (List UInt8)} (h : OwnBs B w v L) : BsS w v L := by
  obtain ⟨a, c, rfl, _⟩ := h.form
  refine ⟨a, c, rfl, fun j hj => ?_⟩
  obtain ⟨g, a', c', e1, e2, e3⟩ := h.ints hj
  subst e1
  obtain ⟨_, cs, hb⟩ := h.blk (j := g) rfl
  exact ⟨g, 0, _, rfl, by rw [Nat.zero_add]; exact e2, hb.lt, .inl (Ints.ofO e3)⟩
section rules
variable {P : Program} {rd : Option Nat} {n : Nat} {ops : Array Oper} {Q : Post} {rest : List Oper} {F : Fr} {ds : List Deferred} {w : World} {ty : TypeId} {pos : String} {after : Array Edge}
/-- string(bytes), wherever an empty slice lies. -/
theorem Lst_bytesY {d t t' e : Nat} {x : Operand} {v : Value} {l : List UInt8} (hx : ev F x = v) (hv : By w v l) (ht : P.underlying t = some (.slice e)) (he : P.underlying e = some (.int .u8)) (ht' : P.underlying t' = some .string) (hd : Nat.blt d n = true)
    (h : Lst P rd n ops Q rest (upd F d (.string ⟨l.toArray⟩)) ds w) : Lst P rd n ops Q (⟨some d, .convert t t' x, ty, pos, after, none⟩ :: rest) F ds w := by
  rcases hv with hv | ⟨rfl, a, c, rfl⟩
  · exact Lst_bytesI hx hv ht he ht' hd h
  · refine Lst_value (v := .string ⟨[].toArray⟩) (w' := w) rfl ?_ hd h
    cases a with
    | none =>
      have := run_convert_bytes_nil (P := P) (w := w) t e ht he 0 c t' ht'
      simp [execOp, hx, this]
      rfl
    | some a =>
      have := run_convert_bytes_back (P := P) w t t' e a c [] ht he ht' (fun j hj => absurd hj (Nat.not_lt_zero _))
      rw [List.length_nil] at this
      simp [execOp, hx, this]
end rules
section
attribute [local irreducible] W Lst Qst Pu seqQ blkQ rndQ cutQ retQ Does Enters IntKind.wrap bits sb World.alloc World.putObj Blk
theorem h_BytesB (u v : Value) (l k : List UInt8) (w : World) (h : By w u l) (h' : By w v k) : Does Tryz.prog 13 #[u, v] w fun r w' => r = .bool (decide (l = k)) ∧ Below w.heap.size w w' := by
  obtain ⟨a1, c1, rfl⟩ := h.form
  obtain ⟨a2, c2, rfl⟩ := h'.form
  refine Does_of (args := [.slice a1 l.length c1, .slice a2 k.length c2]) Tryz.func13 (by kernel_rfl) rfl rfl rfl rfl rfl ?_
  (refine Ga ?_)
  apply Lst_bytesY (l := l)
  focus rfl
  focus exact h
  focus rfl
  focus rfl
  focus rfl
  focus rfl
  (refine Ga ?_)
  apply Lst_bytesY (l := k)
  focus rfl
  focus exact h'
  focus rfl
  focus rfl
  focus rfl
  focus rfl
  by_cases he : l = k
  · have hs : (⟨l.toArray⟩ : ByteArray) = ⟨k.toArray⟩ := by rw [he]
    (refine Ga ?_)
    (apply retQ1; (focus rfl))
    exact ⟨by rw [decide_eq_true he]; rfl, Bel⟩
  · have hs : ¬ (⟨l.toArray⟩ : ByteArray) = ⟨k.toArray⟩ := fun e => he (by simpa using congrArg (fun x : ByteArray => x.data.toList) e)
    (refine Ga ?_)
    (apply retQ1; (focus rfl))
    exact ⟨by rw [decide_eq_false he]; rfl, Bel⟩
end
section
attribute [local irreducible] RnS RnT
attribute [local irreducible] W Lst Qst Pu seqQ blkQ rndQ cutQ retQ Does Enters IntKind.wrap bits sb World.alloc World.putObj Blk
theorem c_same (u v : Value) (L M : List (List UInt8)) (hl : L.length ≤ 1000000) (w : World) (h : BsS w u L) (k : BsS w v M) : Does Tryz.prog 14 #[u, v] w fun r w' => r = .bool (decide (L = M)) ∧ Below w.heap.size w w' := by
  obtain ⟨a, c, rfl, hr⟩ := id h
  obtain ⟨b, e, rfl, kr⟩ := id k
  refine Does_of (args := [.slice a L.length c, .slice b M.length e]) Tryz.func14 (by kernel_rfl) rfl rfl rfl rfl rfl ?_
  by_cases hlen : L.length = M.length
  · (refine Ga ?_)
    refine W_loop (α := Nat) (fun i => [(0, .slice a L.length c), (1, .slice b M.length e), (5, .int .i64 (i : Int))]) (fun i A => i ≤ L.length ∧ L.take i = M.take i ∧ Below w.heap.size w A) (fun i _ => L.length - i) 0 ⟨Nat.zero_le _, rfl, Below.refl _ _⟩ ⟨rfl, rfl, rfl, trivial⟩ ?_
    rintro J i A ⟨hi, he, bA⟩
    by_cases hil : i < L.length
    · have him : i < M.length := by omega
      obtain ⟨a', c', e1, hr'⟩ := h.below bA
      obtain ⟨b', e', e2, kr'⟩ := k.below bA
      cases e1
      cases e2
      obtain ⟨g1, o1, u1, rfl, x1, l1, y1⟩ := hr' i hil
      obtain ⟨g2, o2, u2, rfl, x2, l2, y2⟩ := kr' i him
      by_cases hx : L[i] = M[i]
      · (refine Ga ?_)
        refine W_draws (Dk.Grown A) rfl (by kernel_rfl) (Dk.grown_start A) ?_
        (refine Qb ?_)
        apply Qst_loadc
        focus rfl
        focus rfl
        focus rfl
        focus exact fun A9 hA9 => (World.cell?_of_block (a := ⟨g1, _, none⟩) (hA9.block _ l1)).trans x1
        focus rfl
        (refine Qb ?_)
        apply Qst_loadc
        focus rfl
        focus rfl
        focus rfl
        focus exact fun A9 hA9 => (World.cell?_of_block (a := ⟨g2, _, none⟩) (hA9.block _ l2)).trans x2
        focus rfl
        (refine Qb ?_)
        apply Qst_call ((.bool (decide (L[i] = M[i]))))
        focus rfl
        focus rfl
        · intro A9 hb9
          exact (h_BytesB u1 u2 L[i] M[i] A9 (By.below y1 hb9 (Nat.le_refl _)) (By.below y2 hb9 (Nat.le_refl _))).mono fun v w' h => ⟨h.1, Sx.Below.after hb9 h.2⟩
        (refine Qb ?_)
        intro w9 hb9
        rw [decide_eq_true hx]
        (refine Ga ?_)
        refine rndQ_n (α := Nat) (i + 1) ⟨hil, ?_, Sx.Below.after bA hb9⟩ ⟨rfl, rfl, ?_, trivial⟩ (by omega)
        · rw [List.take_succ_eq_append_getElem hil, List.take_succ_eq_append_getElem him, he, hx]
        · exact congrArg (Value.int .i64) (by omega)
      · (refine Ga ?_)
        refine W_draws (Dk.Grown A) rfl (by kernel_rfl) (Dk.grown_start A) ?_
        (refine Qb ?_)
        apply Qst_loadc
        focus rfl
        focus rfl
        focus rfl
        focus exact fun A9 hA9 => (World.cell?_of_block (a := ⟨g1, _, none⟩) (hA9.block _ l1)).trans x1
        focus rfl
        (refine Qb ?_)
        apply Qst_loadc
        focus rfl
        focus rfl
        focus rfl
        focus exact fun A9 hA9 => (World.cell?_of_block (a := ⟨g2, _, none⟩) (hA9.block _ l2)).trans x2
        focus rfl
        (refine Qb ?_)
        apply Qst_call ((.bool (decide (L[i] = M[i]))))
        focus rfl
        focus rfl
        · intro A9 hb9
          exact (h_BytesB u1 u2 L[i] M[i] A9 (By.below y1 hb9 (Nat.le_refl _)) (By.below y2 hb9 (Nat.le_refl _))).mono fun v w' h => ⟨h.1, Sx.Below.after hb9 h.2⟩
        (refine Qb ?_)
        intro w9 hb9
        rw [decide_eq_false hx]
        (refine Ga ?_)
        (apply retQ1; (focus rfl))
        refine ⟨?_, Sx.Below.after bA hb9⟩
        have hne : L ≠ M := fun e => hx (by subst e; rfl)
        rw [decide_eq_false hne]
        rfl
    · have hk : L = M := by
        have h1 := List.take_of_length_le (l := L) (i := i) (by omega)
        have h2 := List.take_of_length_le (l := M) (i := i) (by omega)
        rw [← h1, ← h2]
        exact he
      (refine Ga ?_)
      (apply retQ1; (focus rfl))
      exact ⟨by rw [decide_eq_true hk]; rfl, bA⟩
  · have hne : L ≠ M := fun e => hlen (by rw [e])
    (refine Ga ?_)
    (apply retQ1; (focus rfl))
    exact ⟨by rw [decide_eq_false hne]; rfl, Bel⟩
end
end Wa
end Go.Proofs.YtfocnbmihcnaoaaGreatDoor
