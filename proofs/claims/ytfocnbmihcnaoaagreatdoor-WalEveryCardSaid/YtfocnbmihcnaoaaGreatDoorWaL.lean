/- A log in memory; its small walks. -/
import Derived.Test.YtfocnbmihcnaoaaGreatDoorWaG
import Derived.Test.YtfocnbmihcnaoaaGreatDoorJPlaceToWDkRead
namespace Go.Proofs.YtfocnbmihcnaoaaGreatDoor
set_option maxRecDepth 100000
namespace Wa
open Go Go.RowKit Sx Wire Dk
/-- A log, plainly. -/
structure Lg where
  name : List UInt8
  seg : Int
  age : Nat
  files : List ByteArray
  size : Nat
  recs : Nat
  dirty : List ByteArray
  dead : Bool
def lcs (p : Nat) (fv dv : Value) (g : Lg) : List Value := [.pointer (some ⟨p, 0, none⟩), .string (bs g.name), .int .i64 g.seg, .int .u64 (g.age : Int), fv, .int .i64 (g.size : Int), .int .i64 (g.recs : Int), dv, .bool g.dead]
/-- A log at block lb, of the disk at block p; its rows of names. -/
structure LgAt (w : World) (lb p : Nat) (fv dv : Value) (g : Lg) : Prop where
  blk : Blk w lb (lcs p fv dv g) 53
  files : NmO w fv g.files
  dirty : NmO w dv g.dirty
  apart : ∀ k, fv.ownBlock = some k → dv.ownBlock ≠ some k
def rowsOf (fv dv : Value) : List Nat := fv.ownBlock.toList ++ dv.ownBlock.toList
/-- The blocks that a log's work may turn. -/
def foot (lb p mb : Nat) (fv dv : Value) : List Nat := lb :: p :: mb :: rowsOf fv dv
theorem Chg.trans' {bs cs : List Nat} {x y z : World} (h : Chg bs x y) (k : Chg cs y z) (hs : ∀ c ∈ cs, c ∈ bs ∨ x.heap.size ≤ c) : Chg bs x z :=
  ⟨k.os.trans h.os, k.tape.trans h.tape, k.output.trans h.output, Nat.le_trans h.size k.size, fun g h1 h2 => (k.block g (Nat.lt_of_lt_of_le h1 h.size) (fun hc => by
    rcases hs g hc with h3 | h3
    · exact h2 h3
    · omega)).trans (h.block g h1 h2)⟩
theorem LgAt.ne {w : World} {lb p : Nat} {fv dv : Value} {g : Lg} (h : LgAt w lb p fv dv g) : fv.ownBlock ≠ some lb ∧ dv.ownBlock ≠ some lb := by
  have key : ∀ {v : Value} {L : List ByteArray}, NmO w v L → v.ownBlock ≠ some lb := fun hn e => by
    obtain ⟨cs, hb, _⟩ := hn.blk e
    have hb' : w.heap[lb]? = some (.cells (lcs p fv dv g).toArray 53 (0, 0)) := h.blk
    have hb2 : w.heap[lb]? = some (.cells cs.toArray 9 (0, 0)) := hb
    rw [hb'] at hb2
    injection hb2 with hb2
    injection hb2 with _ hb2
    exact absurd hb2 (by decide)
  exact ⟨key h.files, key h.dirty⟩
theorem LgAt.keep {w w' : World} {lb p : Nat} {fv dv : Value} {g : Lg} (h : LgAt w lb p fv dv g) (h1 : w'.heap[lb]? = w.heap[lb]?) (h2 : ∀ k ∈ rowsOf fv dv, w'.heap[k]? = w.heap[k]?) : LgAt w' lb p fv dv g :=
  ⟨h1.trans h.blk, h.files.keep fun k hk => h2 k (List.mem_append.2 (.inl (by simp [hk]))), h.dirty.keep fun k hk => h2 k (List.mem_append.2 (.inr (by simp [hk]))), h.apart⟩
theorem LgAt.rows_lt {w : World} {lb p : Nat} {fv dv : Value} {g : Lg} (h : LgAt w lb p fv dv g) : ∀ k ∈ rowsOf fv dv, k < w.heap.size := fun k hk => by
  rcases List.mem_append.1 hk with hk | hk
  · exact h.files.lt (by simpa using hk)
  · exact h.dirty.lt (by simpa using hk)
theorem LgAt.below {w w' : World} {lb p : Nat} {fv dv : Value} {g : Lg} (h : LgAt w lb p fv dv g) (hb : Below w.heap.size w w') : LgAt w' lb p fv dv g :=
  h.keep (hb.block _ h.blk.lt) fun k hk => hb.block _ (h.rows_lt k hk)
theorem LgAt.chg {w w' : World} {lb p : Nat} {fv dv : Value} {g : Lg} {bs : List Nat} (h : LgAt w lb p fv dv g) (hc : Chg bs w w') (h1 : lb ∉ bs) (h2 : ∀ k ∈ rowsOf fv dv, k ∉ bs) : LgAt w' lb p fv dv g :=
  h.keep (hc.block _ h.blk.lt h1) fun k hk => hc.block _ (h.rows_lt k hk) (h2 k hk)
/-- Its blocks are none of the disk's. -/
theorem LgAt.disk {w : World} {lb p mb : Nat} {fv dv : Value} {g : Lg} {d : Dsk} (h : LgAt w lb p fv dv g) (hd : DkAt w p mb d) : lb ∉ [p, mb] ∧ ∀ k ∈ rowsOf fv dv, k ∉ [p, mb] := by
  have key : ∀ {b : Nat} {cs : List Value} {e : TypeId}, Blk w b cs e → e ≠ 49 → b ∉ [p, mb] := fun {b cs e} hb he hm => by
    have hb' : w.heap[b]? = some (.cells cs.toArray e (0, 0)) := hb
    simp only [List.mem_cons, List.not_mem_nil, or_false] at hm
    rcases hm with rfl | rfl
    · have hd' := hd.1
      unfold Blk at hd'
      rw [hb'] at hd'
      injection hd' with hd'
      injection hd' with _ hd'
      exact he hd'
    · obtain ⟨arr, clock, hm, _⟩ := hd.2
      rw [hb'] at hm
      cases hm
  refine ⟨key h.blk (by decide), fun k hk => ?_⟩
  rcases List.mem_append.1 hk with hk | hk
  · obtain ⟨cs, hb, _⟩ := h.files.blk (show fv.ownBlock = some k by simpa using hk)
    exact key hb (by decide)
  · obtain ⟨cs, hb, _⟩ := h.dirty.blk (show dv.ownBlock = some k by simpa using hk)
    exact key hb (by decide)
theorem NmO.n8 {w : World} {v : Value} {L : List ByteArray} (h : NmO w v L) {k : Nat} (hk : v.ownBlock = some k) : Dk.N8 w k := fun off z hc => by
  obtain ⟨cs, hb, ha⟩ := h.blk hk
  rw [hb.cell] at hc
  obtain ⟨s, hs⟩ := ha _ (List.mem_of_getElem? hc)
  cases hs
theorem LgAt.n8 {w : World} {lb p : Nat} {fv dv : Value} {g : Lg} (h : LgAt w lb p fv dv g) : ∀ k ∈ lb :: rowsOf fv dv, Dk.N8 w k := fun k hk => by
  rcases List.mem_cons.1 hk with rfl | hk
  · intro off z hc
    rw [h.blk.cell] at hc
    obtain ⟨a, c, e1, _⟩ := h.files.form
    obtain ⟨a', c', e2, _⟩ := h.dirty.form
    have hm := List.mem_of_getElem? hc
    unfold lcs at hm
    rw [e1, e2] at hm
    simp at hm
  · rcases List.mem_append.1 hk with hk | hk
    · exact h.files.n8 (by simpa using hk)
    · exact h.dirty.n8 (by simpa using hk)
/-- The log's cells turn, the rows stay. -/
theorem LgAt.put {w : World} {lb p : Nat} {fv dv : Value} {g g' : Lg} (h : LgAt w lb p fv dv g) (h1 : g'.files = g.files) (h2 : g'.dirty = g.dirty) : LgAt (w.putObj lb (.cells (lcs p fv dv g').toArray 53)) lb p fv dv g' := by
  have hne := h.ne
  refine ⟨Blk.put_same h.blk.lt _ _, ?_, ?_, h.apart⟩
  · rw [h1]
    exact h.files.keep fun k hk => World.putObj_heap_other (fun e => hne.1 (by rw [hk, e]))
  · rw [h2]
    exact h.dirty.keep fun k hk => World.putObj_heap_other (fun e => hne.2 (by rw [hk, e]))
theorem dk_log {w w' : World} {lb p mb : Nat} {fv dv : Value} {g : Lg} {d : Dsk} (hd : DkAt w p mb d) (h : LgAt w lb p fv dv g) (hc : Chg (lb :: rowsOf fv dv) w w') : DkAt w' p mb d := by
  have hk := h.disk hd
  refine hd.chg hc ?_ ?_ h.n8
  · intro hm
    rcases List.mem_cons.1 hm with e | hm
    · exact hk.1 (by simp [e])
    · exact hk.2 _ hm (by simp)
  · intro hm
    rcases List.mem_cons.1 hm with e | hm
    · exact hk.1 (by simp [e])
    · exact hk.2 _ hm (by simp)
theorem chg1 {w : World} {lb : Nat} (o : Obj) : Chg [lb] w (w.putObj lb o) := (Chg.refl _ _).put (.inl (by simp)) _
section
attribute [local irreducible] RnS RnT
attribute [local irreducible] W Lst Qst Pu seqQ blkQ rndQ cutQ retQ Does Enters IntKind.wrap bits sb World.alloc World.putObj Blk
def Lg.fell (g : Lg) (d : Dsk) : Lg := { g with dead := g.dead || d.dead }
def Lg.may (g : Lg) (e : Int) : Lg := { g with dead := g.dead || decide (e = 43) }
theorem c_fell (lb p mb : Nat) (fv dv : Value) (g : Lg) (d : Dsk) (w : World) (h : LgAt w lb p fv dv g) (hd : DkAt w p mb d) :
    Does Tryz.prog 24 #[.pointer (some ⟨lb, 0, none⟩)] w fun v w' => v = .bool (g.fell d).dead ∧ LgAt w' lb p fv dv (g.fell d) ∧ DkAt w' p mb d ∧ Chg [lb] w w' := by
  refine Does_of (args := [.pointer (some ⟨lb, 0, none⟩)]) Tryz.func24 (by kernel_rfl) rfl rfl rfl rfl rfl ?_
  obtain ⟨a1, c1, rfl, _⟩ := h.files.form
  obtain ⟨a2, c2, rfl, _⟩ := h.dirty.form
  have hb := h.blk
  unfold lcs at hb
  have hlt := hb.lt
  have hput := h.put (g' := g.fell d) rfl rfl
  have hd2 : DkAt (w.putObj lb (.cells (lcs p (.slice a1 g.files.length c1) (.slice a2 g.dirty.length c2) (g.fell d)).toArray 53)) p mb d := dk_log hd h (chg1 _ |>.mono (by simp))
  have e : ∀ x, (g.fell d).dead = x → (Obj.cells (lcs p (.slice a1 g.files.length c1) (.slice a2 g.dirty.length c2) (g.fell d)).toArray 53) = .cells [.pointer (some ⟨p, 0, none⟩), .string (bs g.name), .int .i64 g.seg, .int .u64 (g.age : Int), .slice a1 g.files.length c1, .int .i64 (g.size : Int), .int .i64 (g.recs : Int), .slice a2 g.dirty.length c2, .bool x].toArray 53 := fun x hx => by
    subst hx
    rfl
  cases hg : g.dead with
  | true =>
    have hx : (g.fell d).dead = true := by unfold Lg.fell; rw [hg]; rfl
    rw [hg] at hb
    rw [e _ hx] at hput hd2
    (refine Ga ?_)
    (apply retQ1; (focus rfl))
    exact ⟨by rw [hx]; rfl, hput, hd2, chg1 _⟩
  | false =>
    have hx : (g.fell d).dead = d.dead := by unfold Lg.fell; rw [hg]; rfl
    rw [hg] at hb
    rw [e _ hx] at hput hd2
    (refine Ga ?_)
    (apply Lst_call; (focus rfl); (focus rfl))
    refine (c_Dead p mb d _ hd).mono ?_
    rintro v w' ⟨rfl, rfl⟩
    (refine Ga ?_)
    (apply retQ1; (focus rfl))
    exact ⟨by rw [hx]; rfl, hput, hd2, chg1 _⟩
theorem c_may (lb p mb : Nat) (fv dv : Value) (g : Lg) (d : Dsk) (x : Int) (w : World) (h : LgAt w lb p fv dv g) (hd : DkAt w p mb d) :
    Does Tryz.prog 28 #[.pointer (some ⟨lb, 0, none⟩), .int .i64 x] w fun v w' => v = .int .i64 x ∧ LgAt w' lb p fv dv (g.may x) ∧ DkAt w' p mb d ∧ Chg [lb] w w' := by
  refine Does_of (args := [.pointer (some ⟨lb, 0, none⟩), .int .i64 x]) Tryz.func28 (by kernel_rfl) rfl rfl rfl rfl rfl ?_
  obtain ⟨a1, c1, rfl, _⟩ := h.files.form
  obtain ⟨a2, c2, rfl, _⟩ := h.dirty.form
  have hb := h.blk
  unfold lcs at hb
  have hlt := hb.lt
  have hput := h.put (g' := g.may x) rfl rfl
  have hd2 : DkAt (w.putObj lb (.cells (lcs p (.slice a1 g.files.length c1) (.slice a2 g.dirty.length c2) (g.may x)).toArray 53)) p mb d := dk_log hd h (chg1 _ |>.mono (by simp))
  have e : ∀ z, (g.may x).dead = z → (Obj.cells (lcs p (.slice a1 g.files.length c1) (.slice a2 g.dirty.length c2) (g.may x)).toArray 53) = .cells [.pointer (some ⟨p, 0, none⟩), .string (bs g.name), .int .i64 g.seg, .int .u64 (g.age : Int), .slice a1 g.files.length c1, .int .i64 (g.size : Int), .int .i64 (g.recs : Int), .slice a2 g.dirty.length c2, .bool z].toArray 53 := fun z hz => by
    subst hz
    rfl
  cases hg : g.dead with
  | true =>
    have hx : (g.may x).dead = true := by unfold Lg.may; rw [hg]; rfl
    rw [hg] at hb
    rw [e _ hx] at hput hd2
    (refine Ga ?_)
    (apply retQ1; (focus rfl))
    exact ⟨rfl, hput, hd2, chg1 _⟩
  | false =>
    rw [hg] at hb
    by_cases h43 : x = 43
    · have hx : (g.may x).dead = true := by unfold Lg.may; rw [hg, decide_eq_true h43]; rfl
      rw [e _ hx] at hput hd2
      (refine Ga ?_)
      (apply retQ1; (focus rfl))
      exact ⟨rfl, hput, hd2, chg1 _⟩
    · have hx : (g.may x).dead = false := by unfold Lg.may; rw [hg, decide_eq_false h43]; rfl
      rw [e _ hx] at hput hd2
      (refine Ga ?_)
      (apply retQ1; (focus rfl))
      exact ⟨rfl, hput, hd2, chg1 _⟩
theorem c_Records (lb p : Nat) (fv dv : Value) (g : Lg) (w : World) (h : LgAt w lb p fv dv g) :
    Does Tryz.prog 15 #[.pointer (some ⟨lb, 0, none⟩)] w fun v w' => v = .int .i64 (g.recs : Int) ∧ w = w' := by
  refine Does_of (args := [.pointer (some ⟨lb, 0, none⟩)]) Tryz.func15 (by kernel_rfl) rfl rfl rfl rfl rfl ?_
  obtain ⟨a1, c1, rfl, _⟩ := h.files.form
  obtain ⟨a2, c2, rfl, _⟩ := h.dirty.form
  have hb := h.blk
  unfold lcs at hb
  have hlt := hb.lt
  (refine Ga ?_)
  (apply retQ1; (focus rfl))
  exact ⟨rfl, rfl⟩
end
end Wa
end Go.Proofs.YtfocnbmihcnaoaaGreatDoor
