/- Operations: how they lie in memory; the reference's small functions. -/
import Derived.Test.YtifkedhbelflkaaDoorOqJVal6ToVal7
import Derived.Test.YtifkedhbelflkaaDoorOqJSxEToSxU
import Derived.Test.YtifkedhbelflkaaDoorOqIds
namespace Go.Proofs.YtifkedhbelflkaaDoor
set_option maxRecDepth 100000
namespace Tl
open Go Go.RowKit Sx
theorem P_idxm {P : Program} {G : Fr} {ty t e b o len c j : Nat} {x y : Operand} {k : IntKind} {i : TypeInfo} {sz : Nat} (hx : ev G x = .slice (some ⟨b, o, none⟩) len c) (hq : ev G y = .int k (j : Int)) (ht : P.underlying t = some (.slice e)) (hi : P.info? e = some i) (hs : i.size = sz) (h1 : j < len) : Pu P G (.indexAddr t x y) ty (.pointer (some ⟨b, o + j * sz, none⟩)) := by
  have := P_idx (ty := ty) hx hq ht hi hs (by omega) (by omega)
  simpa using this
theorem cell_lt {w : World} {b o : Nat} {v : Value} (h : w.cell? ⟨b, o, none⟩ = some v) : b < w.heap.size := by
  unfold World.cell? at h
  cases e : w.heap[b]? with
  | none => simp [e] at h
  | some ob => exact lt_of_some e
theorem cell_below {w w' : World} {b o : Nat} {v : Value} (hb : Below w.heap.size w w') (h : w.cell? ⟨b, o, none⟩ = some v) : w'.cell? ⟨b, o, none⟩ = some v := by
  rw [World.cell?_of_block (hb.block b (cell_lt h))]
  exact h
end Tl
namespace Op
open Go Go.RowKit Sx Tl Val
open Utf (rs tl)
abbrev Id := Nat × Nat
def none' : Id := (0, 0)
def num (n : Nat) : Bool := decide (1 ≤ n ∧ n ≤ 9007199254740991)
def rightId (k : Id) : Bool := num k.1 && num k.2
def nm (k : Id) : Bool := decide (k = none') || rightId k
def lt (a b : Id) : Bool := decide (a.1 < b.1) || (a.1 == b.1 && decide (a.2 < b.2))
def idcs (k : Id) : List Value := [.int .u64 (k.1 : Int), .int .u64 (k.2 : Int)]
def idv (k : Id) : Value := .agg (idcs k).toArray
/-- An anchor. -/
structure Anc where
  id : Id
  after : Bool
deriving DecidableEq
/-- An operation. -/
structure Mo where
  id : Id
  k : Int
  st : Nat
  l : Id
  r : Id
  tx : ByteArray
  v : Vl
  key : ByteArray
  par : Id
  fr : Anc
  til : Anc
def acs (a : Anc) : List Value := [.int .u64 (a.id.1 : Int), .int .u64 (a.id.2 : Int), .bool a.after]
def ocs (o : Mo) : List Value := [.int .u64 (o.id.1 : Int), .int .u64 (o.id.2 : Int), .int .i64 o.k, .int .u64 (o.st : Int), .int .u64 (o.l.1 : Int), .int .u64 (o.l.2 : Int), .int .u64 (o.r.1 : Int), .int .u64 (o.r.2 : Int), .string o.tx, .int .i64 o.v.k, .int .i64 o.v.n, .float .f64 o.v.f, .string o.v.s, .string o.key, .int .u64 (o.par.1 : Int), .int .u64 (o.par.2 : Int),
  .int .u64 (o.fr.id.1 : Int), .int .u64 (o.fr.id.2 : Int), .bool o.fr.after, .int .u64 (o.til.id.1 : Int), .int .u64 (o.til.id.2 : Int), .bool o.til.after]
theorem id_eq (a b : Id) : Eqv Tryd.prog 3 24 (idv a) (idv b) (decide (a = b)) := by
  unfold idv idcs
  refine Eqv_struct Tryd.underlying24 (by kernel_rfl) ?_
  by_cases h1 : a.1 = b.1
  · refine EqvF_t (m := 1) (m' := 1) (by decide) (PartR_1 Tryd.underlying22 rfl rfl) (PartR_1 Tryd.underlying22 rfl rfl) (Eqv_int_t Tryd.underlying22 (by rw [h1])) ?_
    by_cases h2 : a.2 = b.2
    · rw [decide_eq_true (Prod.ext h1 h2)]
      exact EqvF_t (m := 1) (m' := 0) (by decide) (PartR_1 Tryd.underlying22 rfl rfl) (PartR_1 Tryd.underlying22 rfl rfl) (Eqv_int_t Tryd.underlying22 (by rw [h2])) EqvF_nil
    · rw [decide_eq_false (fun e => h2 (congrArg Prod.snd e))]
      exact EqvF_f (by decide) (PartR_1 Tryd.underlying22 rfl rfl) (PartR_1 Tryd.underlying22 rfl rfl) (Eqv_int_f Tryd.underlying22 (by omega))
  · rw [decide_eq_false (fun e => h1 (congrArg Prod.fst e))]
    have h3 : ((a.1 : Nat) : Int) ≠ (b.1 : Int) := by omega
    exact EqvF_f (by decide) (PartR_1 (v := .int .u64 (a.1 : Int)) Tryd.underlying22 rfl rfl) (PartR_1 (v := .int .u64 (b.1 : Int)) Tryd.underlying22 rfl rfl) (fun d w hd => Eqv_int_f Tryd.underlying22 h3 d w (by omega))
theorem id_t {k : Id} (h : k = none') : Eqv Tryd.prog 3 24 (idv k) (idv (0, 0)) true := by
  have := id_eq k (0, 0)
  rwa [decide_eq_true (show k = (0, 0) from h)] at this
theorem id_f {k : Id} (h : k ≠ none') : Eqv Tryd.prog 3 24 (idv k) (idv (0, 0)) false := by
  have := id_eq k (0, 0)
  rwa [decide_eq_false (show ¬ k = (0, 0) from h)] at this
theorem EqvF.mono {P : Program} {m m' : Nat} {xs ys : Array Value} {l : List Field} {r : Bool} (hm : m ≤ m') (h : EqvF P m xs ys l r) : EqvF P m' xs ys l r := fun d w hd => h d w (by omega)
theorem anc_eq (a b : Anc) : Eqv Tryd.prog 5 29 (.agg (acs a).toArray) (.agg (acs b).toArray) (decide (a = b)) := by
  obtain ⟨i, x⟩ := a
  obtain ⟨j, y⟩ := b
  unfold acs
  refine Eqv_struct (m := 4) Tryd.underlying29 (by kernel_rfl) ?_
  have h := id_eq i j
  by_cases h1 : i = j
  · rw [decide_eq_true h1] at h
    refine EqvF_t (m := 3) (m' := 1) (by decide) (PartR_A (cs := idcs i) Tryd.underlying24 rfl rfl rfl (by first | exact TakeR.nil _ | repeat (first | exact TakeR.nil _ | apply TakeR.here | apply TakeR.skip))) (PartR_A (cs := idcs j) Tryd.underlying24 rfl rfl rfl (by first | exact TakeR.nil _ | repeat (first | exact TakeR.nil _ | apply TakeR.here | apply TakeR.skip))) h ?_
    by_cases h2 : x = y
    · rw [decide_eq_true (by rw [h1, h2])]
      exact EqvF_t (m := 1) (m' := 0) (by decide) (PartR_1 Tryd.underlying4 rfl rfl) (PartR_1 Tryd.underlying4 rfl rfl) (Eqv_bool Tryd.underlying4 (by rw [h2]; simp)) EqvF_nil
    · rw [decide_eq_false (fun e => h2 (by injection e))]
      exact EqvF_f (m := 1) (by decide) (PartR_1 Tryd.underlying4 rfl rfl) (PartR_1 Tryd.underlying4 rfl rfl) (Eqv_bool Tryd.underlying4 (by simp [h2]))
  · rw [decide_eq_false h1] at h
    rw [decide_eq_false (fun e => h1 (by injection e))]
    exact EqvF.mono (m := 3) (by decide) (EqvF_f (by decide) (PartR_A (cs := idcs i) Tryd.underlying24 rfl rfl rfl (by repeat (first | exact TakeR.nil _ | apply TakeR.here | apply TakeR.skip))) (PartR_A (cs := idcs j) Tryd.underlying24 rfl rfl rfl (by repeat (first | exact TakeR.nil _ | apply TakeR.here | apply TakeR.skip))) h)
def sameO (a b : Mo) : Bool := decide (a.id = b.id) && (decide (a.k = b.k) && (decide (a.st = b.st) && (decide (a.l = b.l) && (decide (a.r = b.r) && (decide (a.tx = b.tx) && (decide (cmpV a.v b.v = 0) && (decide (a.key = b.key) && (decide (a.par = b.par) && (decide (a.fr = b.fr) && decide (a.til = b.til))))))))))
def keyOk (s : ByteArray) : Bool := decide (1 ≤ s.size) && (decide (s.size ≤ 64) && Lib.validD (tl s))
def len (o : Mo) : Nat := if o.k = 1 then (rs (tl o.tx)).length else 1
theorem len_le (o : Mo) (h : o.tx.size ≤ 1000000) : len o ≤ 1000000 := by
  unfold len
  split
  · exact Nat.le_trans (Utf.rs_length _) h
  · decide
theorem right_hi {k : Id} (h : rightId k = true) : (1 ≤ k.1 ∧ k.1 ≤ 9007199254740991) ∧ (1 ≤ k.2 ∧ k.2 ≤ 9007199254740991) := by
  unfold rightId num at h
  simpa only [Bool.and_eq_true, decide_eq_true_eq] using h
theorem r_Right (k : Id) (w : World) : Does Tryd.prog 16 #[idv k] w fun v w' => v = .bool (rightId k) ∧ Below w.heap.size w w' :=
  (Ids.c_RRight k.1 k.2 w).mono fun v w' h => ⟨h.1.trans (congrArg Value.bool (by
    unfold rightId num
    rw [Bool.eq_iff_iff]
    simp
    omega)), h.2⟩
section
attribute [local irreducible] RnS
attribute [local irreducible] W Lst Qst Pu seqQ blkQ rndQ cutQ retQ Does Enters IntKind.wrap bits sb World.alloc World.putObj Blk
set_option maxHeartbeats 2000000 in
theorem o_none (k : Id) (w : World) : Does Tryd.prog 18 #[idv k] w fun v w' => v = .bool (decide (k = none')) ∧ Below w.heap.size w w' := by
  refine Does_of (args := [idv k]) Tryd.func18 (by kernel_rfl) rfl rfl rfl rfl rfl ?_
  unfold idv
  (refine Ga ?_)
  by_cases h : k = none'
  · apply Lst_pu
    · apply P_eqA
      focus rfl
      focus rfl
      focus kernel_rfl
      focus exact id_t h
      focus rfl
    focus rfl
    (refine Ga ?_)
    (apply retQ1; (focus rfl))
    exact ⟨by rw [decide_eq_true h]; rfl, Bel⟩
  · apply Lst_pu
    · apply P_eqA
      focus rfl
      focus rfl
      focus kernel_rfl
      focus exact id_f h
      focus rfl
    focus rfl
    (refine Ga ?_)
    (apply retQ1; (focus rfl))
    exact ⟨by rw [decide_eq_false h]; rfl, Bel⟩
set_option maxHeartbeats 2000000 in
theorem o_named (k : Id) (w : World) : Does Tryd.prog 17 #[idv k] w fun v w' => v = .bool (nm k) ∧ Below w.heap.size w w' := by
  refine Does_of (args := [idv k]) Tryd.func17 (by kernel_rfl) rfl rfl rfl rfl rfl ?_
  unfold idv
  (refine Ga ?_)
  refine Lst_abs (fun A => Below w.heap.size w A ∧ Blk A w.heap.size [.int .u64 (k.1 : Int), .int .u64 (k.2 : Int)] 24) ⟨Bel, (by (repeat (first | assumption | (apply Blk.below (hb := hb1); rotate_left; (focus ((try simp only [Sx.sizes]); omega)); rotate_right) | (apply Blk.below (hb := hb2); rotate_left; (focus ((try simp only [Sx.sizes]); omega)); rotate_right) | (apply Blk.below (hb := hb3); rotate_left; (focus ((try simp only [Sx.sizes]); omega)); rotate_right) | (apply Blk.below (hb := hb4); rotate_left; (focus ((try simp only [Sx.sizes]); omega)); rotate_right) | (apply Blk.below (hb := hb5); rotate_left; (focus ((try simp only [Sx.sizes]); omega)); rotate_right) | (apply Blk.below (hb := hb6); rotate_left; (focus ((try simp only [Sx.sizes]); omega)); rotate_right) | (apply Blk.below (hb := hb7); rotate_left; (focus ((try simp only [Sx.sizes]); omega)); rotate_right) | (apply Blk.below (hb := hb8); rotate_left; (focus ((try simp only [Sx.sizes]); omega)); rotate_right) | (apply Blk.below (hb := hb9); rotate_left; (focus ((try simp only [Sx.sizes]); omega)); rotate_right) | exact Blk.newE (by first | rfl | ((try simp only [Sx.sizes]); first | done | omega)) _ _ | exact Blk.put_same (by (try simp only [Sx.sizes]); first | done | omega) _ _ | (apply Blk.put_ne; (focus omega)) | apply Blk.alloc | apply Blk.drew)); done)⟩ ?_
  rintro A ⟨hbA, kA⟩
  have lA := kA.lt
  (refine Ga ?_)
  (apply Lst_call; (focus rfl); (focus rfl))
  refine (o_none k A).mono ?_
  rintro v B ⟨rfl, hbB⟩
  have bB := hbA.trans (hbB.mono hbA.size)
  have kB := kA.below hbB lA
  by_cases h : k = none'
  · rw [decide_eq_true h]
    (refine Ga ?_)
    (apply retQ1; (focus rfl))
    exact ⟨by unfold nm; rw [decide_eq_true h]; rfl, Bel⟩
  · rw [decide_eq_false h]
    (refine Ga ?_)
    (apply Lst_call; (focus rfl); (focus rfl))
    refine (r_Right k B).mono ?_
    rintro v C ⟨rfl, hbC⟩
    have bC := bB.trans (hbC.mono bB.size)
    (refine Ga ?_)
    (apply retQ1; (focus rfl))
    exact ⟨by unfold nm; rw [decide_eq_false h]; rfl, Bel⟩
set_option maxHeartbeats 2000000 in
theorem o_key (s : ByteArray) (hs : s.size ≤ 200) (w : World) : Does Tryd.prog 23 #[.string s] w fun v w' => v = .bool (keyOk s) ∧ Below w.heap.size w w' := by
  refine Does_of (args := [.string s]) Tryd.func23 (by kernel_rfl) rfl rfl rfl rfl rfl ?_
  by_cases h1 : 1 ≤ s.size
  · by_cases h2 : s.size ≤ 64
    · (refine Ga ?_)
      (apply Lst_call; (focus rfl); (focus rfl))
      refine (Utf.r_Check s w (by omega)).mono ?_
      rintro v w' ⟨rfl, hb⟩
      (refine Ga ?_)
      (apply retQ1; (focus rfl))
      exact ⟨by unfold keyOk; rw [decide_eq_true h1, decide_eq_true h2]; rfl, hb⟩
    · (refine Ga ?_)
      (apply retQ1; (focus rfl))
      exact ⟨by unfold keyOk; rw [decide_eq_false h2, Bool.false_and, Bool.and_false]; rfl, Bel⟩
  · (refine Ga ?_)
    (apply retQ1; (focus rfl))
    exact ⟨by unfold keyOk; rw [decide_eq_false h1, Bool.false_and]; rfl, Bel⟩
set_option maxHeartbeats 2000000 in
theorem o_Len (o : Mo) (hs : o.tx.size ≤ 1000000) (w : World) : Does Tryd.prog 7 #[.agg (ocs o).toArray] w fun v w' => v = .int .i64 (len o : Int) ∧ Below w.heap.size w w' := by
  refine Does_of (args := [.agg (ocs o).toArray]) Tryd.func7 (by kernel_rfl) rfl rfl rfl rfl rfl ?_
  unfold ocs len
  by_cases h : o.k = 1
  · rw [if_pos h]
    (refine Ga ?_)
    (apply Lst_call; (focus rfl); (focus rfl))
    refine (Utf.r_Len o.tx _ hs).mono ?_
    rintro v w' ⟨rfl, hb⟩
    (refine Ga ?_)
    (apply retQ1; (focus rfl))
    exact ⟨rfl, Sx.Below.after (w := w) Bel hb⟩
  · rw [if_neg h]
    (refine Ga ?_)
    (apply retQ1; (focus rfl))
    exact ⟨rfl, Bel⟩
set_option maxHeartbeats 2000000 in
theorem o_zero (x : Vl) (w : World) : Does Tryd.prog 22 #[x.v] w fun v w' => v = .bool (decide (x.k = 0) && okV x) ∧ Below w.heap.size w w' := by
  obtain ⟨k, n, f, s⟩ := x
  refine Does_of (args := [.agg #[.int .i64 k, .int .i64 n, .float .f64 f, .string s]]) Tryd.func22 (by kernel_rfl) rfl rfl rfl rfl rfl ?_
  by_cases h : k = 0
  · (refine Ga ?_)
    (apply Lst_call; (focus rfl); (focus rfl))
    refine (Val.r_Check ⟨k, n, f, s⟩ _).mono ?_
    rintro v w' ⟨rfl, hb⟩
    have hb := Sx.Below.after (w := w) Bel hb
    cases hv : okV ⟨k, n, f, s⟩ with
    | true =>
      rw [if_pos rfl]
      (refine Ga ?_)
      (apply retQ1; (focus rfl))
      exact ⟨by rw [decide_eq_true h]; rfl, hb⟩
    | false =>
      rw [if_neg Bool.false_ne_true]
      (refine Ga ?_)
      (apply retQ1; (focus rfl))
      exact ⟨by rw [Bool.and_false]; rfl, hb⟩
  · (refine Ga ?_)
    (apply retQ1; (focus rfl))
    exact ⟨by rw [decide_eq_false h]; rfl, Bel⟩
set_option maxHeartbeats 2000000 in
theorem o_names (o : Mo) (w : World) : Does Tryd.prog 24 #[.agg (ocs o).toArray] w fun v w' => ∃ b, v = .slice (some ⟨b, 0, none⟩) 5 5 ∧ w.heap.size ≤ b ∧ Blk w' b [.int .u64 (o.l.1 : Int), .int .u64 (o.l.2 : Int), .int .u64 (o.r.1 : Int), .int .u64 (o.r.2 : Int), .int .u64 (o.fr.id.1 : Int), .int .u64 (o.fr.id.2 : Int), .int .u64 (o.til.id.1 : Int), .int .u64 (o.til.id.2 : Int), .int .u64 (o.par.1 : Int), .int .u64 (o.par.2 : Int)] 24 ∧ Below w.heap.size w w' := by
  refine Does_of (args := [.agg (ocs o).toArray]) Tryd.func24 (by kernel_rfl) rfl rfl rfl rfl rfl ?_
  unfold ocs
  (refine Ga ?_)
  (apply Lst_slit; (focus rfl); (focus rfl); (focus rfl); (focus rfl); (focus rfl); (focus rfl); (focus rfl); (focus rfl); (focus rfl); (focus (repeat (first | apply FillO.nil | (apply FillO.cons; (focus constructor); (focus rfl); (focus rfl); (focus (repeat constructor)))))); (focus ((try simp only [Sx.sizes]); first | done | rfl)); (focus rfl))
  (refine Ga ?_)
  (apply retQ1; (focus rfl))
  exact ⟨_, rfl, (by (try simp only [Sx.sizes]); omega), (by (repeat (first | assumption | (apply Blk.below (hb := hb1); rotate_left; (focus ((try simp only [Sx.sizes]); omega)); rotate_right) | (apply Blk.below (hb := hb2); rotate_left; (focus ((try simp only [Sx.sizes]); omega)); rotate_right) | (apply Blk.below (hb := hb3); rotate_left; (focus ((try simp only [Sx.sizes]); omega)); rotate_right) | (apply Blk.below (hb := hb4); rotate_left; (focus ((try simp only [Sx.sizes]); omega)); rotate_right) | (apply Blk.below (hb := hb5); rotate_left; (focus ((try simp only [Sx.sizes]); omega)); rotate_right) | (apply Blk.below (hb := hb6); rotate_left; (focus ((try simp only [Sx.sizes]); omega)); rotate_right) | (apply Blk.below (hb := hb7); rotate_left; (focus ((try simp only [Sx.sizes]); omega)); rotate_right) | (apply Blk.below (hb := hb8); rotate_left; (focus ((try simp only [Sx.sizes]); omega)); rotate_right) | (apply Blk.below (hb := hb9); rotate_left; (focus ((try simp only [Sx.sizes]); omega)); rotate_right) | exact Blk.newE (by first | rfl | ((try simp only [Sx.sizes]); first | done | omega)) _ _ | exact Blk.put_same (by (try simp only [Sx.sizes]); first | done | omega) _ _ | (apply Blk.put_ne; (focus omega)) | apply Blk.alloc | apply Blk.drew)); done), Bel⟩
set_option maxHeartbeats 4000000 in
theorem o_Same (a b : Mo) (ha : a.v.Fit) (hb : b.v.Fit) (w : World) : Does Tryd.prog 27 #[.agg (ocs a).toArray, .agg (ocs b).toArray] w fun v w' => v = .bool (sameO a b) ∧ Below w.heap.size w w' := by
  refine Does_of (args := [.agg (ocs a).toArray, .agg (ocs b).toArray]) Tryd.func27 (by kernel_rfl) rfl rfl rfl rfl rfl ?_
  (refine Ga ?_)
  refine Lst_abs (fun A => Below w.heap.size w A ∧ Blk A w.heap.size (ocs a) 31 ∧ Blk A (w.heap.size + 1) (ocs b) 31) ⟨Bel, (by (repeat (first | assumption | (apply Blk.below (hb := hb1); rotate_left; (focus ((try simp only [Sx.sizes]); omega)); rotate_right) | (apply Blk.below (hb := hb2); rotate_left; (focus ((try simp only [Sx.sizes]); omega)); rotate_right) | (apply Blk.below (hb := hb3); rotate_left; (focus ((try simp only [Sx.sizes]); omega)); rotate_right) | (apply Blk.below (hb := hb4); rotate_left; (focus ((try simp only [Sx.sizes]); omega)); rotate_right) | (apply Blk.below (hb := hb5); rotate_left; (focus ((try simp only [Sx.sizes]); omega)); rotate_right) | (apply Blk.below (hb := hb6); rotate_left; (focus ((try simp only [Sx.sizes]); omega)); rotate_right) | (apply Blk.below (hb := hb7); rotate_left; (focus ((try simp only [Sx.sizes]); omega)); rotate_right) | (apply Blk.below (hb := hb8); rotate_left; (focus ((try simp only [Sx.sizes]); omega)); rotate_right) | (apply Blk.below (hb := hb9); rotate_left; (focus ((try simp only [Sx.sizes]); omega)); rotate_right) | exact Blk.newE (by first | rfl | ((try simp only [Sx.sizes]); first | done | omega)) _ _ | exact Blk.put_same (by (try simp only [Sx.sizes]); first | done | omega) _ _ | (apply Blk.put_ne; (focus omega)) | apply Blk.alloc | apply Blk.drew)); done), (by (repeat (first | assumption | (apply Blk.below (hb := hb1); rotate_left; (focus ((try simp only [Sx.sizes]); omega)); rotate_right) | (apply Blk.below (hb := hb2); rotate_left; (focus ((try simp only [Sx.sizes]); omega)); rotate_right) | (apply Blk.below (hb := hb3); rotate_left; (focus ((try simp only [Sx.sizes]); omega)); rotate_right) | (apply Blk.below (hb := hb4); rotate_left; (focus ((try simp only [Sx.sizes]); omega)); rotate_right) | (apply Blk.below (hb := hb5); rotate_left; (focus ((try simp only [Sx.sizes]); omega)); rotate_right) | (apply Blk.below (hb := hb6); rotate_left; (focus ((try simp only [Sx.sizes]); omega)); rotate_right) | (apply Blk.below (hb := hb7); rotate_left; (focus ((try simp only [Sx.sizes]); omega)); rotate_right) | (apply Blk.below (hb := hb8); rotate_left; (focus ((try simp only [Sx.sizes]); omega)); rotate_right) | (apply Blk.below (hb := hb9); rotate_left; (focus ((try simp only [Sx.sizes]); omega)); rotate_right) | exact Blk.newE (by first | rfl | ((try simp only [Sx.sizes]); first | done | omega)) _ _ | exact Blk.put_same (by (try simp only [Sx.sizes]); first | done | omega) _ _ | (apply Blk.put_ne; (focus omega)) | apply Blk.alloc | apply Blk.drew)); done)⟩ ?_
  rintro A ⟨bA, k0, k1⟩
  unfold ocs at k0 k1
  have sA := bA.size
  generalize w.heap.size = bo at *
  by_cases h1 : a.id = b.id
  · skip
    (refine Ga ?_)
    apply Lst_pu
    · apply P_eqA
      focus rfl
      focus rfl
      focus kernel_rfl
      focus exact (by have := id_eq a.id b.id; rw [decide_eq_true h1] at this; exact this)
      focus rfl
    focus rfl
    by_cases h2 : a.k = b.k
    · skip
      by_cases h3 : a.st = b.st
      · skip
        by_cases h4 : a.l = b.l
        · skip
          (refine Ga ?_)
          apply Lst_pu
          · apply P_eqA
            focus rfl
            focus rfl
            focus kernel_rfl
            focus exact (by have := id_eq a.l b.l; rw [decide_eq_true h4] at this; exact this)
            focus rfl
          focus rfl
          by_cases h5 : a.r = b.r
          · skip
            (refine Ga ?_)
            apply Lst_pu
            · apply P_eqA
              focus rfl
              focus rfl
              focus kernel_rfl
              focus exact (by have := id_eq a.r b.r; rw [decide_eq_true h5] at this; exact this)
              focus rfl
            focus rfl
            by_cases h6 : a.tx = b.tx
            · skip
              (refine Ga ?_)
              (apply Lst_call; (focus rfl); (focus rfl))
              refine (Val.r_Cmp a.v b.v ha hb _).mono ?_
              rintro v w2 ⟨rfl, hb2⟩
              have k02 := k0.below hb2 k0.lt
              have k12 := k1.below hb2 k1.lt
              have b2 := bA.trans (hb2.mono sA)
              by_cases h7 : cmpV a.v b.v = 0
              · skip
                by_cases h8 : a.key = b.key
                · skip
                  by_cases h9 : a.par = b.par
                  · skip
                    (refine Ga ?_)
                    apply Lst_pu
                    · apply P_eqA
                      focus rfl
                      focus rfl
                      focus kernel_rfl
                      focus exact (by have := id_eq a.par b.par; rw [decide_eq_true h9] at this; exact this)
                      focus rfl
                    focus rfl
                    by_cases h10 : a.fr = b.fr
                    · skip
                      (refine Ga ?_)
                      apply Lst_pu
                      · apply P_eqA
                        focus rfl
                        focus rfl
                        focus kernel_rfl
                        focus exact (by have := anc_eq a.fr b.fr; rw [decide_eq_true h10] at this; exact this)
                        focus rfl
                      focus rfl
                      by_cases h11 : a.til = b.til
                      · skip
                        (refine Ga ?_)
                        apply Lst_pu
                        · apply P_eqA
                          focus rfl
                          focus rfl
                          focus kernel_rfl
                          focus exact (by have := anc_eq a.til b.til; rw [decide_eq_true h11] at this; exact this)
                          focus rfl
                        focus rfl
                        (refine Ga ?_)
                        (apply retQ1; (focus rfl))
                        exact ⟨by show Value.bool true = _; simp [sameO, h1, h2, h3, h4, h5, h6, h7, h8, h9, h10, h11], b2⟩
                      · skip
                        (refine Ga ?_)
                        apply Lst_pu
                        · apply P_eqA
                          focus rfl
                          focus rfl
                          focus kernel_rfl
                          focus exact (by have := anc_eq a.til b.til; rw [decide_eq_false h11] at this; exact this)
                          focus rfl
                        focus rfl
                        (refine Ga ?_)
                        (apply retQ1; (focus rfl))
                        exact ⟨by show Value.bool false = _; simp [sameO, h1, h2, h3, h4, h5, h6, h7, h8, h9, h10, h11], b2⟩
                    · skip
                      (refine Ga ?_)
                      apply Lst_pu
                      · apply P_eqA
                        focus rfl
                        focus rfl
                        focus kernel_rfl
                        focus exact (by have := anc_eq a.fr b.fr; rw [decide_eq_false h10] at this; exact this)
                        focus rfl
                      focus rfl
                      (refine Ga ?_)
                      (apply retQ1; (focus rfl))
                      exact ⟨by show Value.bool false = _; simp [sameO, h1, h2, h3, h4, h5, h6, h7, h8, h9, h10], b2⟩
                  · skip
                    (refine Ga ?_)
                    apply Lst_pu
                    · apply P_eqA
                      focus rfl
                      focus rfl
                      focus kernel_rfl
                      focus exact (by have := id_eq a.par b.par; rw [decide_eq_false h9] at this; exact this)
                      focus rfl
                    focus rfl
                    (refine Ga ?_)
                    (apply retQ1; (focus rfl))
                    exact ⟨by show Value.bool false = _; simp [sameO, h1, h2, h3, h4, h5, h6, h7, h8, h9], b2⟩
                · skip
                  (refine Ga ?_)
                  (apply retQ1; (focus rfl))
                  exact ⟨by show Value.bool false = _; simp [sameO, h1, h2, h3, h4, h5, h6, h7, h8], b2⟩
              · skip
                (refine Ga ?_)
                (apply retQ1; (focus rfl))
                exact ⟨by show Value.bool false = _; simp [sameO, h1, h2, h3, h4, h5, h6, h7], b2⟩
            · skip
              (refine Ga ?_)
              (apply retQ1; (focus rfl))
              exact ⟨by show Value.bool false = _; simp [sameO, h1, h2, h3, h4, h5, h6], bA⟩
          · skip
            (refine Ga ?_)
            apply Lst_pu
            · apply P_eqA
              focus rfl
              focus rfl
              focus kernel_rfl
              focus exact (by have := id_eq a.r b.r; rw [decide_eq_false h5] at this; exact this)
              focus rfl
            focus rfl
            (refine Ga ?_)
            (apply retQ1; (focus rfl))
            exact ⟨by show Value.bool false = _; simp [sameO, h1, h2, h3, h4, h5], bA⟩
        · skip
          (refine Ga ?_)
          apply Lst_pu
          · apply P_eqA
            focus rfl
            focus rfl
            focus kernel_rfl
            focus exact (by have := id_eq a.l b.l; rw [decide_eq_false h4] at this; exact this)
            focus rfl
          focus rfl
          (refine Ga ?_)
          (apply retQ1; (focus rfl))
          exact ⟨by show Value.bool false = _; simp [sameO, h1, h2, h3, h4], bA⟩
      · skip
        (refine Ga ?_)
        (apply retQ1; (focus rfl))
        exact ⟨by show Value.bool false = _; simp [sameO, h1, h2, h3], bA⟩
    · skip
      (refine Ga ?_)
      (apply retQ1; (focus rfl))
      exact ⟨by show Value.bool false = _; simp [sameO, h1, h2], bA⟩
  · skip
    (refine Ga ?_)
    apply Lst_pu
    · apply P_eqA
      focus rfl
      focus rfl
      focus kernel_rfl
      focus exact (by have := id_eq a.id b.id; rw [decide_eq_false h1] at this; exact this)
      focus rfl
    focus rfl
    (refine Ga ?_)
    (apply retQ1; (focus rfl))
    exact ⟨by show Value.bool false = _; simp [sameO, h1], bA⟩
end
end Op
end Go.Proofs.YtifkedhbelflkaaDoor
