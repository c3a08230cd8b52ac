/- Package disk: what a disk is in memory, and its small walks: New, name, done, is, Used, Dead, Cut. -/
import Derived.Test.YtgcklcpbmlibdaaDkLib
namespace Go.Proofs.Ytgcklcpbmlibdaa
set_option maxRecDepth 100000
namespace Dk
open Go Go.RowKit Sx
/-- A file: its bytes; how many are synced. -/
structure Fl where
  b : List UInt8
  safe : Nat
/-- A disk. -/
structure Dsk where
  es : List (ByteArray × Fl)
  room : Int
  cut : Int
  dead : Bool
/-- How a file stands in memory. -/
def FileV (w : World) (v : Value) (f : Fl) : Prop := ∃ a n c, v = .agg #[.slice a n c, .int .i64 (f.safe : Int)] ∧ Ints w .u8 (.slice a n c) (nums f.b) ∧ n ≤ c ∧ f.safe ≤ f.b.length
def N8 (w : World) (b : Nat) : Prop := ∀ off z, w.cell? ⟨b, off, none⟩ ≠ some (.int .u8 z)
theorem Ints.len {w : World} {k : IntKind} {a : Option Addr} {n c : Nat} {zs : List Int} (h : Ints w k (.slice a n c) zs) : zs.length = n := by
  obtain ⟨b, off, cap, h1 | ⟨h1, rfl⟩, _⟩ := h
  · cases h1; rfl
  · cases h1; rfl
theorem Ints.chg {bs : List Nat} {w w' : World} {v : Value} {zs : List Int} (h : Ints w .u8 v zs) (hc : Chg bs w w') (h8 : ∀ b ∈ bs, N8 w b) : Ints w' .u8 v zs := by
  obtain ⟨b, off, cap, h1, h2, h3⟩ := h
  refine ⟨b, off, cap, h1, fun hz => Nat.lt_of_lt_of_le (h2 hz) hc.size, fun j hj => ?_⟩
  have hlt := h2 (by intro e; subst e; simp at hj)
  have hn : b ∉ bs := fun hb => h8 b hb _ _ (h3 j hj)
  have e : w'.cell? ⟨b, off + j, none⟩ = w.cell? ⟨b, off + j, none⟩ := by
    simp only [World.cell?, hc.block b hlt hn]
  rw [e]
  exact h3 j hj
theorem FileV.chg {bs : List Nat} {w w' : World} {v : Value} {f : Fl} (h : FileV w v f) (hc : Chg bs w w') (h8 : ∀ b ∈ bs, N8 w b) : FileV w' v f := by
  obtain ⟨a, n, c, h1, h2, h3⟩ := h
  exact ⟨a, n, c, h1, Ints.chg h2 hc h8, h3⟩
/-- A disk at block p, its map at block mb. -/
def DkAt (w : World) (p mb : Nat) (d : Dsk) : Prop :=
  Blk w p [.map (some mb), .int .i64 d.room, .int .i64 d.cut, .bool d.dead] 57 ∧ MpAt w mb (FileV w) d.es
theorem N8.map {w : World} {mb : Nat} {α : Type} {R : Value → α → Prop} {es : List (ByteArray × α)} (h : MpAt w mb R es) : N8 w mb := fun off z => by rw [h.not_cells]; simp
theorem N8.it {w : World} {ib mb : Nat} {α : Type} {R : Value → α → Prop} {es l : List (ByteArray × α)} (h : ItAt w ib mb R es l) : N8 w ib := fun off z => by
  obtain ⟨arr, clock, seen, _, _, _, h4, _⟩ := h
  simp [World.cell?, h4]
theorem N8.blk {w : World} {p mb : Nat} {r c : Int} {d : Bool} {e : TypeId} (h : Blk w p [.map (some mb), .int .i64 r, .int .i64 c, .bool d] e) : N8 w p := fun off z => by
  rw [h.cell off]
  match off with
  | 0 => simp
  | 1 => simp
  | 2 => simp
  | 3 => simp
  | n + 4 => simp
theorem DkAt.n8 {w : World} {p mb : Nat} {d : Dsk} (h : DkAt w p mb d) : ∀ b ∈ [p, mb], N8 w b := by
  intro b hb
  simp only [List.mem_cons, List.not_mem_nil, or_false] at hb
  rcases hb with rfl | rfl
  · exact N8.blk h.1
  · exact N8.map h.2
theorem DkAt.ne {w : World} {p mb : Nat} {d : Dsk} (h : DkAt w p mb d) : p ≠ mb := by
  rintro rfl
  have := h.2.not_cells 0
  rw [h.1.cell 0] at this
  simp at this
/-- It stays, whatever else turns. -/
theorem DkAt.chg {bs : List Nat} {w w' : World} {p mb : Nat} {d : Dsk} (h : DkAt w p mb d) (hc : Chg bs w w') (hp : p ∉ bs) (hm : mb ∉ bs) (h8 : ∀ b ∈ bs, N8 w b) : DkAt w' p mb d :=
  ⟨hc.blk h.1 hp, h.2.mono (hc.block mb h.2.lt hm) fun _ _ hf => hf.chg hc h8⟩
theorem DkAt.below {w w' : World} {p mb : Nat} {d : Dsk} (h : DkAt w p mb d) (hb : Below w.heap.size w w') : DkAt w' p mb d := h.chg (bs := []) (.of hb) (by simp) (by simp) (by simp)
theorem DkAt.drew {w : World} {p mb : Nat} {d : Dsk} (h : DkAt w p mb d) : DkAt w.drew p mb d := h
/-- The cells of the struct turn. -/
theorem DkAt.cells {w w' : World} {p mb : Nat} {d d' : Dsk} (h : DkAt w p mb d) (hc : Chg [p] w w') (hb : Blk w' p [.map (some mb), .int .i64 d'.room, .int .i64 d'.cut, .bool d'.dead] 57) (he : d'.es = d.es) : DkAt w' p mb d' := by
  have hne := h.ne
  refine ⟨hb, ?_⟩
  rw [he]
  exact h.2.mono (hc.block mb h.2.lt (by simpa using Ne.symm hne)) fun _ _ hf => hf.chg hc (fun b hb => by
    obtain rfl : b = p := by simpa using hb
    exact N8.blk h.1)
def Dsk.isE (d : Dsk) (n : ByteArray) : Int := if d.dead then 43 else if (Sx.look d.es n).isNone then 40 else 0
def Dsk.done (d : Dsk) : Dsk := if 0 < d.cut then { d with cut := d.cut - 1, dead := decide (d.cut - 1 = 0) } else d
def nameOk (n : ByteArray) : Bool := decide (n ≠ ⟨#[]⟩) && decide (n.size ≤ 32)
def used : List (ByteArray × Fl) → Nat
  | [] => 0
  | p :: l => p.2.b.length + used l
theorem used_erase : ∀ (l : List (ByteArray × Fl)) (j : Nat) (q : ByteArray × Fl), l[j]? = some q → used l = q.2.b.length + used (l.eraseIdx j)
  | [], _, _, h => by simp at h
  | p :: l, 0, q, h => by
    obtain rfl : p = q := by simpa using h
    rfl
  | p :: l, j + 1, q, h => by
    have := used_erase l j q (by simpa using h)
    show p.2.b.length + used l = _
    rw [this]
    show _ = q.2.b.length + (p.2.b.length + used (l.eraseIdx j))
    omega
section rules
variable {P : Program} {rd : Option Nat} {n : Nat} {ops : Array Oper} {Q : Post} {rest : List Oper} {F : Fr} {ds : List Deferred} {w : World} {ty : TypeId} {pos : String} {after : Array Edge}
theorem Lst_makemap {d : Nat} {t : TypeId} (hd : Nat.blt d n = true) (h : Lst P rd n ops Q rest (upd F d (.map (some w.heap.size))) ds (w.alloc (.map #[] 0))) : Lst P rd n ops Q (⟨some d, .makeMap t none, ty, pos, after, none⟩ :: rest) F ds w :=
  Lst_value rfl (by simp [execOp, Instr.makeMap]) hd h
end rules
def fz : Value := .agg #[.slice none 0 0, .int .i64 0]
theorem fzero (w : World) : (zeroValue 59).run Try.prog w = .ok fz w := by
  have h : (Try.prog.info? 59).map (fun i => i.zero) = some (some fz) := by kernel_rfl
  obtain ⟨i, hi, hz⟩ := Option.map_eq_some_iff.1 h
  simp [zeroValue, typeInfo, hi, hz]
attribute [local irreducible] W Lst Qst Pu seqQ blkQ rndQ cutQ retQ Does Enters IntKind.wrap bits sb World.alloc World.putObj Blk
theorem c_New (room : Int) (w : World) : Does Try.prog 10 #[.int .i64 room] w fun v w' =>
    ∃ p mb, v = .pointer (some ⟨p, 0, none⟩) ∧ w.heap.size ≤ p ∧ w.heap.size ≤ mb ∧ DkAt w' p mb ⟨[], max room 0, -1, false⟩ ∧ Below w.heap.size w w' := by
  refine Does_of (args := [.int .i64 room]) Try.func10 (by kernel_rfl) rfl rfl rfl rfl rfl ?_
  (refine Ga ?_)
  apply Lst_makemap
  focus rfl
  (refine Ga ?_)
  (apply retQ1; (focus rfl))
  refine ⟨w.heap.size + 1, w.heap.size, rfl, by omega, Nat.le_refl _, ⟨(by (repeat (first | assumption | (apply Blk.below (hb := hb1); rotate_left; (focus ((try simp only [Sx.sizes]); omega)); rotate_right) | (apply Blk.below (hb := hb2); rotate_left; (focus ((try simp only [Sx.sizes]); omega)); rotate_right) | (apply Blk.below (hb := hb3); rotate_left; (focus ((try simp only [Sx.sizes]); omega)); rotate_right) | (apply Blk.below (hb := hb4); rotate_left; (focus ((try simp only [Sx.sizes]); omega)); rotate_right) | (apply Blk.below (hb := hb5); rotate_left; (focus ((try simp only [Sx.sizes]); omega)); rotate_right) | (apply Blk.below (hb := hb6); rotate_left; (focus ((try simp only [Sx.sizes]); omega)); rotate_right) | (apply Blk.below (hb := hb7); rotate_left; (focus ((try simp only [Sx.sizes]); omega)); rotate_right) | (apply Blk.below (hb := hb8); rotate_left; (focus ((try simp only [Sx.sizes]); omega)); rotate_right) | (apply Blk.below (hb := hb9); rotate_left; (focus ((try simp only [Sx.sizes]); omega)); rotate_right) | exact Blk.newE (by first | rfl | ((try simp only [Sx.sizes]); first | done | omega)) _ _ | exact Blk.put_same (by (try simp only [Sx.sizes]); first | done | omega) _ _ | (apply Blk.put_ne; (focus omega)) | apply Blk.alloc | apply Blk.drew)); done), ?_⟩, Bel⟩
  exact (MpAt.new w (FileV w)).mono ((MapKept.heap_alloc _ _).2 _ (by rw [World.size_alloc]; omega)) (fun v a h => h.chg (bs := []) (((Chg.refl _ _).alloc _).alloc _) (by simp))
theorem c_name (n : ByteArray) (w : World) : Does Try.prog 29 #[.string n] w fun v w' => v = .bool (nameOk n) ∧ w = w' := by
  refine Does_of (args := [.string n]) Try.func29 (by kernel_rfl) rfl rfl rfl rfl rfl ?_
  unfold nameOk
  by_cases h : n = ⟨#[]⟩
  · rw [decide_eq_false (by simpa using h)]
    (refine Ga ?_)
    (apply retQ1; (focus rfl))
    exact ⟨rfl, rfl⟩
  · rw [decide_eq_true (by simpa using h)]
    by_cases hs : n.size ≤ 32
    · rw [decide_eq_true hs]
      (refine Ga ?_)
      (apply retQ1; (focus rfl))
      exact ⟨rfl, rfl⟩
    · rw [decide_eq_false hs]
      (refine Ga ?_)
      (apply retQ1; (focus rfl))
      exact ⟨rfl, rfl⟩
theorem c_is (p mb : Nat) (d : Dsk) (n : ByteArray) (w : World) (h : DkAt w p mb d) : Does Try.prog 32 #[.pointer (some ⟨p, 0, none⟩), .string n] w fun v w' => v = .int .i64 (d.isE n) ∧ Below w.heap.size w w' := by
  refine Does_of (args := [.pointer (some ⟨p, 0, none⟩), .string n]) Try.func32 (by kernel_rfl) rfl rfl rfl rfl rfl ?_
  obtain ⟨hb, hm⟩ := h
  obtain ⟨es, room, cut, dead⟩ := d
  dsimp only at hb hm
  unfold Dsk.isE
  dsimp only
  cases dead
  · (refine Ga ?_)
    apply Lst_mapok (hmp := hm) (z := fz)
    focus rfl
    focus rfl
    focus rfl
    focus rfl
    focus exact fzero w
    focus rfl
    rintro v there (⟨h1, rfl, rfl⟩ | ⟨f, h1, ⟨a, m, c, rfl, _⟩, rfl⟩)
    · rw [h1]
      (refine Ga ?_)
      (apply retQ1; (focus rfl))
      exact ⟨rfl, Bel⟩
    · rw [h1]
      (refine Ga ?_)
      (apply retQ1; (focus rfl))
      exact ⟨rfl, Bel⟩
  · (refine Ga ?_)
    (apply retQ1; (focus rfl))
    exact ⟨rfl, Bel⟩
theorem c_done (p mb : Nat) (d : Dsk) (hc : d.cut < 9223372036854775808) (w : World) (h : DkAt w p mb d) : Does Try.prog 31 #[.pointer (some ⟨p, 0, none⟩)] w fun v w' => v = .int .i64 0 ∧ DkAt w' p mb d.done ∧ Chg [p] w w' := by
  refine Does_of (args := [.pointer (some ⟨p, 0, none⟩)]) Try.func31 (by kernel_rfl) rfl rfl rfl rfl rfl ?_
  have hb := h.1
  have hlt := hb.lt
  obtain ⟨es, room, cut, dead⟩ := d
  dsimp only at hb hc
  unfold Dsk.done
  dsimp only
  by_cases h0 : 0 < cut
  · rw [if_pos h0]
    by_cases h1 : cut - 1 = 0
    · (refine Ga ?_)
      (apply retQ1; (focus rfl))
      have hch : Chg [p] w ((w.putObj p (.cells #[.map (some mb), .int .i64 room, .int .i64 (cut - 1), .bool dead] 57)).putObj p (.cells #[.map (some mb), .int .i64 room, .int .i64 (cut - 1), .bool true] 57)) := ((Chg.refl _ _).put (by simp) _).put (by simp) _
      refine ⟨rfl, DkAt.cells h hch ?_ rfl, hch⟩
      rw [decide_eq_true h1]
      exact (by (repeat (first | assumption | (apply Blk.below (hb := hb1); rotate_left; (focus ((try simp only [Sx.sizes]); omega)); rotate_right) | (apply Blk.below (hb := hb2); rotate_left; (focus ((try simp only [Sx.sizes]); omega)); rotate_right) | (apply Blk.below (hb := hb3); rotate_left; (focus ((try simp only [Sx.sizes]); omega)); rotate_right) | (apply Blk.below (hb := hb4); rotate_left; (focus ((try simp only [Sx.sizes]); omega)); rotate_right) | (apply Blk.below (hb := hb5); rotate_left; (focus ((try simp only [Sx.sizes]); omega)); rotate_right) | (apply Blk.below (hb := hb6); rotate_left; (focus ((try simp only [Sx.sizes]); omega)); rotate_right) | (apply Blk.below (hb := hb7); rotate_left; (focus ((try simp only [Sx.sizes]); omega)); rotate_right) | (apply Blk.below (hb := hb8); rotate_left; (focus ((try simp only [Sx.sizes]); omega)); rotate_right) | (apply Blk.below (hb := hb9); rotate_left; (focus ((try simp only [Sx.sizes]); omega)); rotate_right) | exact Blk.newE (by first | rfl | ((try simp only [Sx.sizes]); first | done | omega)) _ _ | exact Blk.put_same (by (try simp only [Sx.sizes]); first | done | omega) _ _ | (apply Blk.put_ne; (focus omega)) | apply Blk.alloc | apply Blk.drew)); done)
    · (refine Ga ?_)
      (apply retQ1; (focus rfl))
      have hch : Chg [p] w ((w.putObj p (.cells #[.map (some mb), .int .i64 room, .int .i64 (cut - 1), .bool dead] 57)).putObj p (.cells #[.map (some mb), .int .i64 room, .int .i64 (cut - 1), .bool false] 57)) := ((Chg.refl _ _).put (by simp) _).put (by simp) _
      refine ⟨rfl, DkAt.cells h hch ?_ rfl, hch⟩
      rw [decide_eq_false h1]
      exact (by (repeat (first | assumption | (apply Blk.below (hb := hb1); rotate_left; (focus ((try simp only [Sx.sizes]); omega)); rotate_right) | (apply Blk.below (hb := hb2); rotate_left; (focus ((try simp only [Sx.sizes]); omega)); rotate_right) | (apply Blk.below (hb := hb3); rotate_left; (focus ((try simp only [Sx.sizes]); omega)); rotate_right) | (apply Blk.below (hb := hb4); rotate_left; (focus ((try simp only [Sx.sizes]); omega)); rotate_right) | (apply Blk.below (hb := hb5); rotate_left; (focus ((try simp only [Sx.sizes]); omega)); rotate_right) | (apply Blk.below (hb := hb6); rotate_left; (focus ((try simp only [Sx.sizes]); omega)); rotate_right) | (apply Blk.below (hb := hb7); rotate_left; (focus ((try simp only [Sx.sizes]); omega)); rotate_right) | (apply Blk.below (hb := hb8); rotate_left; (focus ((try simp only [Sx.sizes]); omega)); rotate_right) | (apply Blk.below (hb := hb9); rotate_left; (focus ((try simp only [Sx.sizes]); omega)); rotate_right) | exact Blk.newE (by first | rfl | ((try simp only [Sx.sizes]); first | done | omega)) _ _ | exact Blk.put_same (by (try simp only [Sx.sizes]); first | done | omega) _ _ | (apply Blk.put_ne; (focus omega)) | apply Blk.alloc | apply Blk.drew)); done)
  · rw [if_neg h0]
    (refine Ga ?_)
    (apply retQ1; (focus rfl))
    exact ⟨rfl, h, .refl _ _⟩
theorem c_Dead (p mb : Nat) (d : Dsk) (w : World) (h : DkAt w p mb d) : Does Try.prog 24 #[.pointer (some ⟨p, 0, none⟩)] w fun v w' => v = .bool d.dead ∧ w = w' := by
  refine Does_of (args := [.pointer (some ⟨p, 0, none⟩)]) Try.func24 (by kernel_rfl) rfl rfl rfl rfl rfl ?_
  have hb := h.1
  have hlt := hb.lt
  (refine Ga ?_)
  (apply retQ1; (focus rfl))
  exact ⟨rfl, rfl⟩
theorem c_Cut (p mb : Nat) (d : Dsk) (n : Int) (w : World) (h : DkAt w p mb d) : Does Try.prog 23 #[.pointer (some ⟨p, 0, none⟩), .int .i64 n] w fun v w' => v = .tuple #[] ∧ DkAt w' p mb { d with cut := max n (-1), dead := d.dead || decide (n = 0) } ∧ Chg [p] w w' := by
  refine Does_of (args := [.pointer (some ⟨p, 0, none⟩), .int .i64 n]) Try.func23 (by kernel_rfl) rfl rfl rfl rfl rfl ?_
  have hb := h.1
  have hlt := hb.lt
  by_cases h0 : n = 0
  · (refine Ga ?_)
    apply retQ0n
    refine ⟨rfl, DkAt.cells h (((Chg.refl _ _).put (by simp) _).put (by simp) _) ?_ rfl, ((Chg.refl _ _).put (by simp) _).put (by simp) _⟩
    rw [decide_eq_true h0, Bool.or_true]
    exact (by (repeat (first | assumption | (apply Blk.below (hb := hb1); rotate_left; (focus ((try simp only [Sx.sizes]); omega)); rotate_right) | (apply Blk.below (hb := hb2); rotate_left; (focus ((try simp only [Sx.sizes]); omega)); rotate_right) | (apply Blk.below (hb := hb3); rotate_left; (focus ((try simp only [Sx.sizes]); omega)); rotate_right) | (apply Blk.below (hb := hb4); rotate_left; (focus ((try simp only [Sx.sizes]); omega)); rotate_right) | (apply Blk.below (hb := hb5); rotate_left; (focus ((try simp only [Sx.sizes]); omega)); rotate_right) | (apply Blk.below (hb := hb6); rotate_left; (focus ((try simp only [Sx.sizes]); omega)); rotate_right) | (apply Blk.below (hb := hb7); rotate_left; (focus ((try simp only [Sx.sizes]); omega)); rotate_right) | (apply Blk.below (hb := hb8); rotate_left; (focus ((try simp only [Sx.sizes]); omega)); rotate_right) | (apply Blk.below (hb := hb9); rotate_left; (focus ((try simp only [Sx.sizes]); omega)); rotate_right) | exact Blk.newE (by first | rfl | ((try simp only [Sx.sizes]); first | done | omega)) _ _ | exact Blk.put_same (by (try simp only [Sx.sizes]); first | done | omega) _ _ | (apply Blk.put_ne; (focus omega)) | apply Blk.alloc | apply Blk.drew)); done)
  · (refine Ga ?_)
    apply retQ0n
    refine ⟨rfl, DkAt.cells h ((Chg.refl _ _).put (by simp) _) ?_ rfl, (Chg.refl _ _).put (by simp) _⟩
    rw [decide_eq_false h0, Bool.or_false]
    exact (by (repeat (first | assumption | (apply Blk.below (hb := hb1); rotate_left; (focus ((try simp only [Sx.sizes]); omega)); rotate_right) | (apply Blk.below (hb := hb2); rotate_left; (focus ((try simp only [Sx.sizes]); omega)); rotate_right) | (apply Blk.below (hb := hb3); rotate_left; (focus ((try simp only [Sx.sizes]); omega)); rotate_right) | (apply Blk.below (hb := hb4); rotate_left; (focus ((try simp only [Sx.sizes]); omega)); rotate_right) | (apply Blk.below (hb := hb5); rotate_left; (focus ((try simp only [Sx.sizes]); omega)); rotate_right) | (apply Blk.below (hb := hb6); rotate_left; (focus ((try simp only [Sx.sizes]); omega)); rotate_right) | (apply Blk.below (hb := hb7); rotate_left; (focus ((try simp only [Sx.sizes]); omega)); rotate_right) | (apply Blk.below (hb := hb8); rotate_left; (focus ((try simp only [Sx.sizes]); omega)); rotate_right) | (apply Blk.below (hb := hb9); rotate_left; (focus ((try simp only [Sx.sizes]); omega)); rotate_right) | exact Blk.newE (by first | rfl | ((try simp only [Sx.sizes]); first | done | omega)) _ _ | exact Blk.put_same (by (try simp only [Sx.sizes]); first | done | omega) _ _ | (apply Blk.put_ne; (focus omega)) | apply Blk.alloc | apply Blk.drew)); done)
theorem c_Used (p mb : Nat) (d : Dsk) (hu : used d.es < 4611686018427387904) (w : World) (h : DkAt w p mb d) : Does Try.prog 20 #[.pointer (some ⟨p, 0, none⟩)] w fun v w' => v = .int .i64 (used d.es : Int) ∧ Below w.heap.size w w' := by
  refine Does_of (args := [.pointer (some ⟨p, 0, none⟩)]) Try.func20 (by kernel_rfl) rfl rfl rfl rfl rfl ?_
  obtain ⟨hb, hm⟩ := h
  (refine Ga ?_)
  apply Lst_maprange (hmp := hm)
  focus rfl
  focus rfl
  focus rfl
  intro w1 hit hb1 hs1
  (refine Ga ?_)
  refine W_loop (α := Nat × List (ByteArray × Fl)) (fun x => [(3, .int .i64 (x.1 : Int)), (10, .pointer (some ⟨w.heap.size, 0, none⟩))])
    (fun x A => ItAt A w.heap.size mb (FileV A) d.es x.2 ∧ x.1 + used x.2 = used d.es ∧ Below w.heap.size w A ∧ w.heap.size < A.heap.size) (fun x _ => x.2.length) (0, d.es)
    ⟨hit.mono rfl rfl (fun v a hv => hv.chg (bs := []) (.of hb1) (by simp)), by simp, hb1, by omega⟩ ⟨rfl, rfl, trivial⟩ ?_
  clear hit hb1 hs1 w1
  rintro J ⟨acc, left⟩ A ⟨hit, hacc, hbA, hsA⟩
  dsimp only at hit hacc ⊢
  (refine Ga ?_)
  apply Lst_mapnext (hit := hit)
  focus rfl
  focus rfl
  · intro hl
    subst hl
    (refine Ga ?_)
    (apply retQ1; (focus rfl))
    exact ⟨by rw [← hacc]; rfl, hbA⟩
  · rintro j q v A' hq hv hit' hcur hch hsz
    have hu1 := used_erase left j q hq
    (refine Ga ?_)
    apply Lst_mapentry (hit := hcur)
    focus rfl
    focus rfl
    rintro v' ⟨a, m, c, rfl, hi, hmc, hsf⟩
    have hm' : m = q.2.b.length := by have := Ints.len hi; rw [← this]; simp [nums]
    (refine Ga ?_)
    have bX : Below A'.heap.size A' ((A'.alloc (.cells #[.slice none 0 0, .int .i64 0] 59)).putObj A'.heap.size (.cells #[.slice a m c, .int .i64 (q.2.safe : Int)] 59)) := Bel
    have cX := hch.trans (Chg.of bX)
    have hlt := (List.getElem?_eq_some_iff.1 hq).1
    refine rndQ_n (acc + m, left.eraseIdx j) ⟨hit'.mono (bX.block _ hit'.map.lt) (bX.block _ hit'.lt) (fun v a hv => hv.chg cX (fun b hb => ?_)), ?_, hbA.trans (cX.below (fun b hb => ?_) (by omega)), ?_⟩ ⟨?_, rfl, trivial⟩ ?_
    · obtain rfl : b = w.heap.size := by simpa using hb
      exact N8.it hit
    · dsimp only
      omega
    · obtain rfl : b = w.heap.size := by simpa using hb
      exact Nat.le_refl _
    · exact Nat.lt_of_lt_of_le hsA cX.size
    · show Value.int .i64 ((acc : Int) + (m : Int)) = Value.int .i64 ((acc + m : Nat) : Int)
      rw [Int.natCast_add]
    · dsimp only
      rw [List.length_eraseIdx, if_pos hlt]
      omega
end Dk
end Go.Proofs.Ytgcklcpbmlibdaa
