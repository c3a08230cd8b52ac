/- The walk of value.Write. -/
import Derived.Test.YtpfhnapjddckfaaGreatDoorText2
import Derived.Test.YtpfhnapjddckfaaGreatDoorWire2
namespace Go.Proofs.YtpfhnapjddckfaaGreatDoor
set_option maxRecDepth 100000
namespace Val
open Go Go.RowKit Sx Fl Hex Wire
/-- A value's bytes. -/
def wireV (x : Vl) : List UInt8 := x.k.toNat.toUInt8 :: (if x.k = 1 then [x.n.toNat.toUInt8] else if x.k = 2 then Lib.uvarint (Lib.zigzag x.n) else if x.k = 3 then fixN 8 (nbits x.f) else if x.k = 4 then Lib.uvarint x.s.size ++ x.s.data.toList else [])
theorem Off.blk {b B g : Nat} {w w' : World} {l : List Value} {e : TypeId} (h : Off b B w w') (hb : Blk w g l e) (hg : g < B) (hne : g ≠ b) : Blk w' g l e := (h.block g hg hne).trans hb
theorem Off.start {b : Nat} {w w' : World} {o : Obj} (h : Off b (w.heap.size + 1) (w.alloc o) w') : Off b w.heap.size w w' :=
  ⟨h.os, h.tape, h.output, Nat.le_trans (by rw [World.size_alloc]; omega) h.size, fun g h1 h2 => (h.block g (by omega) h2).trans (Below.heap_alloc w _ g h1)⟩
theorem ok_kind {x : Vl} (h : okV x = true) : x.k = 0 ∨ x.k = 1 ∨ x.k = 2 ∨ x.k = 3 ∨ x.k = 4 ∨ x.k = 5 := by
  unfold okV at h
  by_cases h0 : x.k = 0 ∨ x.k = 5
  · omega
  by_cases h1 : x.k = 1
  · omega
  by_cases h2 : x.k = 2
  · omega
  by_cases h3 : x.k = 3
  · omega
  by_cases h4 : x.k = 4
  · omega
  simp [h0, h1, h2, h3, h4] at h
theorem ok_bool {x : Vl} (h : okV x = true) (hk : x.k = 1) : x.n = 0 ∨ x.n = 1 := by
  unfold okV at h
  simp [hk] at h
  exact h.1
attribute [local irreducible] W Lst Qst Pu seqQ blkQ rndQ cutQ retQ Does Enters IntKind.wrap bits sb World.alloc World.putObj Blk
theorem c_Write (b : Nat) (x : Vl) (hok : okV x = true) (hx : x.Fit) (hs : x.s.size ≤ 6000) (w : World) (hblk : Blk w b [.slice none 0 0] 30) : Does Tryz.prog 7 #[.pointer (some ⟨b, 0, none⟩), x.v] w fun v w' => v = .tuple #[] ∧ WrAt b (w.heap.size + 1) (wireV x) w' ∧ Off b w.heap.size w w' := by
  have hkind := ok_kind hok
  have hbool := ok_bool hok
  have hn0 := hx.n0
  have hn1 := hx.n1
  have hf := hx.f1
  obtain ⟨k, n, f, s⟩ := x
  dsimp only at hkind hbool hn0 hn1 hf hs
  clear hok hx
  have hlt := hblk.lt
  have hw0 : WrAt b (w.heap.size + 1) [] (w.alloc (.cells [.int .i64 k, .int .i64 n, .float .f64 f, .string s].toArray 24)) :=
    ⟨by rw [World.size_alloc]; exact Nat.le_refl _, .slice none 0 0, hblk.alloc _, World.ownsRow_nil _ _ _ _, by simp [Value.ownBlock]⟩
  have hbx : Blk (w.alloc (.cells [.int .i64 k, .int .i64 n, .float .f64 f, .string s].toArray 24)) w.heap.size [.int .i64 k, .int .i64 n, .float .f64 f, .string s] 24 := Blk.newE rfl _ _
  refine Does_of (args := [.pointer (some ⟨b, 0, none⟩), .agg #[.int .i64 k, .int .i64 n, .float .f64 f, .string s]]) Tryz.func7 (by kernel_rfl) rfl rfl rfl rfl rfl ?_
  rcases hkind with rfl | rfl | rfl | rfl | rfl | rfl
  · skip
    have fst := fun A h => c_Byte b (w.heap.size + 1) [] (0 : Nat).toUInt8 A h (by simp)
    rw [bc_of 0 (by omega)] at fst
    (refine Ga ?_)
    (apply Lst_call; (focus rfl); (focus rfl))
    refine (fst _ hw0).mono ?_
    rintro v w1 ⟨rfl, hw1, hoff⟩
    have hbx1 := Off.blk hoff hbx (by omega) (by omega)
    (refine Ga ?_)
    apply retQ0n
    exact ⟨rfl, hw1, Off.start hoff⟩
  · skip
    rcases hbool rfl with rfl | rfl
    · skip
      have fst := fun A h => c_Byte b (w.heap.size + 1) [] (1 : Nat).toUInt8 A h (by simp)
      rw [bc_of 1 (by omega)] at fst
      (refine Ga ?_)
      (apply Lst_call; (focus rfl); (focus rfl))
      refine (fst _ hw0).mono ?_
      rintro v w1 ⟨rfl, hw1, hoff⟩
      have hbx1 := Off.blk hoff hbx (by omega) (by omega)
      have snd := fun A h => c_Byte b (w.heap.size + 1) ([] ++ [(1 : Nat).toUInt8]) (0 : Nat).toUInt8 A h (by simp)
      rw [bc_of 0 (by omega)] at snd
      (refine Ga ?_)
      (apply Lst_call; (focus rfl); (focus rfl))
      refine (snd _ hw1).mono ?_
      rintro v w2 ⟨rfl, hw2, hoff2⟩
      (refine Ga ?_)
      apply retQ0n
      exact ⟨rfl, hw2, Off.start (hoff.trans hoff2)⟩
    · skip
      have fst := fun A h => c_Byte b (w.heap.size + 1) [] (1 : Nat).toUInt8 A h (by simp)
      rw [bc_of 1 (by omega)] at fst
      (refine Ga ?_)
      (apply Lst_call; (focus rfl); (focus rfl))
      refine (fst _ hw0).mono ?_
      rintro v w1 ⟨rfl, hw1, hoff⟩
      have hbx1 := Off.blk hoff hbx (by omega) (by omega)
      have snd := fun A h => c_Byte b (w.heap.size + 1) ([] ++ [(1 : Nat).toUInt8]) (1 : Nat).toUInt8 A h (by simp)
      rw [bc_of 1 (by omega)] at snd
      (refine Ga ?_)
      (apply Lst_call; (focus rfl); (focus rfl))
      refine (snd _ hw1).mono ?_
      rintro v w2 ⟨rfl, hw2, hoff2⟩
      (refine Ga ?_)
      apply retQ0n
      exact ⟨rfl, hw2, Off.start (hoff.trans hoff2)⟩
  · skip
    have fst := fun A h => c_Byte b (w.heap.size + 1) [] (2 : Nat).toUInt8 A h (by simp)
    rw [bc_of 2 (by omega)] at fst
    (refine Ga ?_)
    (apply Lst_call; (focus rfl); (focus rfl))
    refine (fst _ hw0).mono ?_
    rintro v w1 ⟨rfl, hw1, hoff⟩
    have hbx1 := Off.blk hoff hbx (by omega) (by omega)
    (refine Ga ?_)
    (apply Lst_call; (focus rfl); (focus rfl))
    refine (c_IntAt b _ _ n hn0 hn1 _ hw1 (by simp)).mono ?_
    rintro v w2 ⟨rfl, hw2, hoff2⟩
    (refine Ga ?_)
    apply retQ0n
    exact ⟨rfl, hw2, Off.start (hoff.trans hoff2)⟩
  · skip
    have fst := fun A h => c_Byte b (w.heap.size + 1) [] (3 : Nat).toUInt8 A h (by simp)
    rw [bc_of 3 (by omega)] at fst
    (refine Ga ?_)
    (apply Lst_call; (focus rfl); (focus rfl))
    refine (fst _ hw0).mono ?_
    rintro v w1 ⟨rfl, hw1, hoff⟩
    have hbx1 := Off.blk hoff hbx (by omega) (by omega)
    (refine Ga ?_)
    (apply Lst_call; (focus rfl); (focus rfl))
    refine (c_bitsOf f _).mono ?_
    rintro v w' ⟨rfl, rfl⟩
    (refine Ga ?_)
    (apply Lst_call; (focus rfl); (focus rfl))
    refine (c_FixedAt b _ _ (nbits f) _ hw1 (by simp)).mono ?_
    rintro v w2 ⟨rfl, hw2, hoff2⟩
    (refine Ga ?_)
    apply retQ0n
    exact ⟨rfl, hw2, Off.start (hoff.trans hoff2)⟩
  · skip
    have fst := fun A h => c_Byte b (w.heap.size + 1) [] (4 : Nat).toUInt8 A h (by simp)
    rw [bc_of 4 (by omega)] at fst
    (refine Ga ?_)
    (apply Lst_call; (focus rfl); (focus rfl))
    refine (fst _ hw0).mono ?_
    rintro v w1 ⟨rfl, hw1, hoff⟩
    have hbx1 := Off.blk hoff hbx (by omega) (by omega)
    (refine Ga ?_)
    (apply Lst_call; (focus rfl); (focus rfl))
    refine (c_TextAt b _ _ s _ hw1 (by simp; omega)).mono ?_
    rintro v w2 ⟨rfl, hw2, hoff2⟩
    (refine Ga ?_)
    apply retQ0n
    exact ⟨rfl, hw2, Off.start (hoff.trans hoff2)⟩
  · skip
    have fst := fun A h => c_Byte b (w.heap.size + 1) [] (5 : Nat).toUInt8 A h (by simp)
    rw [bc_of 5 (by omega)] at fst
    (refine Ga ?_)
    (apply Lst_call; (focus rfl); (focus rfl))
    refine (fst _ hw0).mono ?_
    rintro v w1 ⟨rfl, hw1, hoff⟩
    have hbx1 := Off.blk hoff hbx (by omega) (by omega)
    (refine Ga ?_)
    apply retQ0n
    exact ⟨rfl, hw1, Off.start hoff⟩
end Val
end Go.Proofs.YtpfhnapjddckfaaGreatDoor
