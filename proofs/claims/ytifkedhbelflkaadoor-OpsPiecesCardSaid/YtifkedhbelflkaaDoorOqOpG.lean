/- Rows of operations of one's own; sorted by their ids. -/
import Derived.Test.YtifkedhbelflkaaDoorOqOpF
namespace Go.Proofs.YtifkedhbelflkaaDoor
set_option maxRecDepth 100000
namespace Sx
open Go Go.RowKit
section rules
variable {P : Program} {rd : Option Nat} {n : Nat} {ops : Array Oper} {Q : Post} {rest : List Oper} {F : Fr} {ds : List Deferred} {w : World} {ty : TypeId} {pos : String} {after : Array Edge}
theorem Lst_storeM {x y : Operand} {t e : TypeId} {i : TypeInfo} {b off : Nat} {l vs : List Value} (hx : ev F x = .pointer (some ⟨b, off, none⟩)) (hy : ev F y = .agg vs.toArray) (hi : P.info? t = some i) (hs : i.size = vs.length) (h1 : ∀ v ∈ vs, v.oneCell' = true) (hb : Blk w b l e) (hl : off + vs.length ≤ l.length)
    (h : Lst P rd n ops Q rest F ds (w.putObj b (.cells (l.take off ++ vs ++ l.drop (off + vs.length)).toArray e))) : Lst P rd n ops Q (⟨none, .store t x y, ty, pos, after, none⟩ :: rest) F ds w :=
  Lst_unit rfl (by
    have := run_storeCells_at (P := P) b off e vs 0 l.toArray w hb (by simpa using hl) h1
    have hsz : (sizeOf t).run P w = .ok vs.length w := by simp [sizeOf, typeInfo, hi, hs]
    simp only [Nat.add_zero] at this
    rw [show (l.toArray.toList.take off ++ vs ++ l.toArray.toList.drop (off + vs.length)) = l.take off ++ vs ++ l.drop (off + vs.length) from rfl] at this
    rw [hb.setRow] at this
    have hcs : (Value.agg vs.toArray).cells.size = vs.length := by simp [Value.cells]
    have hcl : (Value.agg vs.toArray).cells.toList = vs := by simp [Value.cells]
    simp [execOp, hx, hy, Instr.storeAt, Instr.sureAddr, storeVar, hsz, hcs, hcl, this]) rfl h
end rules
theorem flat_row {α : Type} {sz : Nat} {c : List α} (hc : c.length = sz) : ∀ (ls : List (List α)) (k : Nat), k < ls.length → (∀ l ∈ ls, l.length = sz) → (ls.set k c).flatten = ls.flatten.take (k * sz) ++ c ++ ls.flatten.drop (k * sz + sz)
  | l :: ls, 0, _, h => by
    have := h l (by simp)
    rw [List.set_cons_zero, List.flatten_cons, List.flatten_cons, Nat.zero_mul, List.take_zero, List.nil_append, Nat.zero_add, ← this, List.drop_left]
  | l :: ls, k + 1, hk, h => by
    have hl := h l (by simp)
    have ih := flat_row hc ls k (by simpa using hk) (fun l' h' => h l' (by simp [h']))
    rw [List.set_cons_succ, List.flatten_cons, List.flatten_cons, ih, Nat.succ_mul, List.take_append, List.drop_append, hl, List.take_of_length_le (show l.length ≤ k * sz + sz by omega), List.drop_of_length_le (show l.length ≤ k * sz + sz + sz by omega), show k * sz + sz - sz = k * sz by omega, show k * sz + sz + sz - sz = k * sz + sz by omega, List.nil_append]
    simp only [List.append_assoc]
theorem own_setR {w : World} {base e sz nn : Nat} {v : Value} {ls : List (List Value)} (h : w.ownsRow base e sz v nn ls.flatten) (hs : ∀ l ∈ ls, l.length = sz) (h1 : 1 ≤ sz) {k : Nat} (hk : k < ls.length) :
    ∃ g cap l, v = .slice (some ⟨g, 0, none⟩) nn cap ∧ nn ≤ cap ∧ base ≤ g ∧ Blk w g l e ∧ k * sz + sz ≤ l.length ∧ ∀ c : List Value, c.length = sz → (w.putObj g (.cells (l.take (k * sz) ++ c ++ l.drop (k * sz + c.length)).toArray e)).ownsRow base e sz v nn (ls.set k c).flatten := by
  obtain ⟨hl, h⟩ := h
  rw [flat_len ls hs] at hl
  have hn : ls.length = nn := Nat.eq_of_mul_eq_mul_right (by omega) hl
  have hk1 : k * sz + sz ≤ nn * sz := by rw [← Nat.succ_mul]; exact Nat.mul_le_mul_right _ (by omega)
  rcases h with ⟨rfl, hx⟩ | ⟨g, cap, cur, rfl, hb, hg, hc, hm, hz, ht⟩
  · omega
  · have hcl : cur.toList.length = cap * sz := by rw [Array.length_toList]; exact hz
    have hle : nn * sz ≤ cap * sz := Nat.mul_le_mul_right _ hc
    have hset : ∀ c : List Value, c.length = sz → ∀ l' ∈ ls.set k c, l'.length = sz := fun c hc' l' hl' => by
      rcases List.mem_or_eq_of_mem_set hl' with h | rfl
      · exact hs _ h
      · exact hc'
    refine ⟨g, cap, cur.toList, rfl, hc, hb, ?_, by omega, fun c hc' => ⟨by rw [flat_len _ (hset c hc'), List.length_set, hn], .inr ⟨g, cap, _, rfl, hb, Blk.put_same (lt_of_some hg) _ _, hc, hm, ?_, ?_⟩⟩⟩
    · unfold Blk
      rw [hg]
    · rw [List.size_toArray, List.length_append, List.length_append, List.length_take, List.length_drop]
      omega
    · rw [flat_row hc' ls k hk hs, hc', ← ht]
      rw [List.take_append, List.take_append, List.take_take, List.take_take, List.length_append, List.length_take, List.drop_take, hc', hcl]
      congr 1
      · congr 1
        · congr 1
          omega
        · exact List.take_of_length_le (by omega)
      · congr 1
        omega
theorem own_setR0 {w : World} {base e sz nn : Nat} {v : Value} {ls : List (List Value)} (h : w.ownsRow base e sz v nn ls.flatten) (hs : ∀ l ∈ ls, l.length = sz) (h1 : 1 ≤ sz) {k : Nat} (hk : k < ls.length) :
    ∃ g cap l, v = .slice (some ⟨g, 0, none⟩) nn cap ∧ nn ≤ cap ∧ base ≤ g ∧ Blk w g l e ∧ 0 + k * sz + sz ≤ l.length ∧ ∀ c : List Value, c.length = sz → (w.putObj g (.cells (l.take (0 + k * sz) ++ c ++ l.drop (0 + k * sz + c.length)).toArray e)).ownsRow base e sz v nn (ls.set k c).flatten := by
  rw [Nat.zero_add]
  exact own_setR h hs h1 hk
end Sx
namespace Op
open Go Go.RowKit Sx Tl Val
open Utf (rs tl Tabs cutS)
theorem ocs_len (l : List Mo) : ∀ x ∈ l.map ocs, x.length = 22 := fun x hx => by
  obtain ⟨u, _, rfl⟩ := List.mem_map.1 hx
  rfl
theorem ocs_one (l : List Mo) : ∀ u ∈ (l.map ocs).flatten, u.oneCell' = true := fun u hu => by
  obtain ⟨r, hr, hu⟩ := List.mem_flatten.1 hu
  obtain ⟨o, _, rfl⟩ := List.mem_map.1 hr
  unfold ocs at hu
  simp only [List.mem_cons, List.not_mem_nil, or_false] at hu
  rcases hu with rfl | rfl | rfl | rfl | rfl | rfl | rfl | rfl | rfl | rfl | rfl | rfl | rfl | rfl | rfl | rfl | rfl | rfl | rfl | rfl | rfl | rfl <;> rfl
theorem set_get {α : Type} {l : List α} {i : Nat} {x : α} (hl : i < l.length) (j : Nat) : (l.set i x)[j]? = if i = j then some x else l[j]? := by
  by_cases e : i = j
  · subst e
    rw [if_pos rfl]
    simp [hl]
  · rw [if_neg e, List.getElem?_set_ne e]
def OwnO (B : Nat) (w : World) (v : Value) (l : List Mo) : Prop := w.ownsRow B 31 22 v l.length (l.map ocs).flatten
theorem OwnO.nil (B : Nat) (w : World) : OwnO B w (.slice none 0 0) [] := World.ownsRow_nil w B 31 22
theorem OwnO.rows {B : Nat} {w : World} {v : Value} {l : List Mo} (h : OwnO B w v l) : SRows w 22 v (l.map ocs) := by
  have h' : w.ownsRow B 31 22 v (l.map ocs).length (l.map ocs).flatten := by rw [List.length_map]; exact h
  exact SRows.of_own h' (ocs_len l) (by decide)
theorem Lst_appendO {rd : Option Nat} {n : Nat} {ops : Array Oper} {Q : Post} {rest : List Oper} {F : Fr} {ds : List Deferred} {w : World} {ty : TypeId} {pos : String} {after : Array Edge} {d B : Nat} {s x : Operand} {v y : Value} {l k : List Mo}
    (hown : OwnO B w v l) (hy : SRows w 22 y (k.map ocs)) (hl : l.length + k.length ≤ 1000000) (hbase : B ≤ w.heap.size) (hs : ev F s = v) (hx : ev F x = y) (hd : Nat.blt d n = true)
    (h : ∀ v' w', OwnO B w' v' (l ++ k) → Below B w w' → Lst Tryd.prog rd n ops Q rest (upd F d v') ds w') :
    Lst Tryd.prog rd n ops Q (⟨some d, .call { callee := .builtin .append, args := #[s, x], argTypes := #[36, 36] }, ty, pos, after, none⟩ :: rest) F ds w := by
  apply Lst_appendR (hown := hown) (hy := hy) (hls := ocs_len k) (hone := ocs_one k) (bytes := 200)
  focus exact hs
  focus exact hx
  focus rfl
  focus rfl
  focus rfl
  focus rfl
  focus rfl
  focus rfl
  focus rfl
  focus (rw [List.length_map]; omega)
  focus (rw [List.length_map]; omega)
  focus exact hbase
  focus exact hd
  intro v' w' ho hg
  refine h v' w' ?_ (Below.own (Below.refl B w) hown hg (Nat.le_refl _) hbase)
  unfold OwnO
  rw [List.length_append, List.map_append, List.flatten_append]
  rw [List.length_map] at ho
  exact ho
theorem swap_mem {α : Type} {l : List α} {i k : Nat} (hi : i < l.length) (hk : k < l.length) (x : α) : x ∈ (l.set i l[k]).set k l[i] ↔ x ∈ l := by
  have h1 : ∀ j, ((l.set i l[k]).set k l[i])[j]? = if k = j then some l[i] else if i = j then some l[k] else l[j]? := fun j => by
    rw [set_get (by rw [List.length_set]; exact hk), set_get hi]
  constructor
  · intro h
    obtain ⟨j, hj⟩ := List.mem_iff_getElem?.1 h
    rw [h1] at hj
    split at hj
    · cases hj; exact List.getElem_mem hi
    · split at hj
      · cases hj; exact List.getElem_mem hk
      · exact List.mem_iff_getElem?.2 ⟨j, hj⟩
  · intro h
    obtain ⟨j, hj⟩ := List.mem_iff_getElem?.1 h
    have hjl : j < l.length := (List.getElem?_eq_some_iff.1 hj).1
    by_cases e1 : j = i
    · subst e1
      refine List.mem_iff_getElem?.2 ⟨k, ?_⟩
      rw [h1, if_pos rfl, ← hj, List.getElem?_eq_getElem hjl]
    · by_cases e2 : j = k
      · subst e2
        refine List.mem_iff_getElem?.2 ⟨i, ?_⟩
        rw [h1, if_neg e1, if_pos rfl, ← hj, List.getElem?_eq_getElem hjl]
      · refine List.mem_iff_getElem?.2 ⟨j, ?_⟩
        rw [h1, if_neg (Ne.symm e2), if_neg (Ne.symm e1), hj]
/-! ### Sorting, plainly: by the ids at the places -/
def fid (l : List Mo) (k : Nat) : Id := ((l[k]?).map Mo.id).getD none'
def swf (f : Nat → Id) (i k : Nat) (p : Nat) : Id := if p = k then f i else if p = i then f k else f p
theorem fid_at {l : List Mo} {k : Nat} (h : k < l.length) : fid l k = l[k].id := by
  unfold fid
  rw [List.getElem?_eq_getElem h]
  rfl
theorem fid_swap {l : List Mo} {i k : Nat} (hi : i < l.length) (hk : k < l.length) : fid ((l.set i l[k]).set k l[i]) = swf (fid l) i k := by
  funext p
  unfold fid swf
  rw [set_get (by rw [List.length_set]; exact hk), set_get hi]
  by_cases e1 : k = p
  · rw [if_pos e1, if_pos e1.symm]
    exact (fid_at hi).symm
  · rw [if_neg e1, if_neg (Ne.symm e1)]
    by_cases e2 : i = p
    · rw [if_pos e2, if_pos e2.symm]
      exact (fid_at hk).symm
    · rw [if_neg e2, if_neg (Ne.symm e2)]
theorem lt_iff {a b : Id} : lt a b = true ↔ a.1 < b.1 ∨ (a.1 = b.1 ∧ a.2 < b.2) := by unfold lt; simp
theorem lt_no {a b : Id} : lt a b = false ↔ ¬ (a.1 < b.1 ∨ (a.1 = b.1 ∧ a.2 < b.2)) := by rw [← lt_iff]; simp
theorem lt_trans {a b c : Id} (h : lt a b = true) (k : lt b c = true) : lt a c = true := by rw [lt_iff] at *; omega
theorem lt_total {a b : Id} (h : lt a b = false) (hne : a ≠ b) : lt b a = true := by
  rw [lt_no] at h
  rw [lt_iff]
  have : ¬ (a.1 = b.1 ∧ a.2 = b.2) := fun e => hne (Prod.ext e.1 e.2)
  omega
def Seg (f : Nat → Id) (a b : Nat) : Prop := ∀ p q, a ≤ p → p < q → q < b → lt (f p) (f q) = true
def Dis (f : Nat → Id) (n : Nat) : Prop := ∀ p q, p < n → q < n → f p = f q → p = q
def Mid (f : Nat → Id) (a i j : Nat) : Prop := (∀ p q, a ≤ p → p < q → q ≤ i → p ≠ j → q ≠ j → lt (f p) (f q) = true) ∧ ∀ q, j < q → q ≤ i → lt (f j) (f q) = true
theorem dis_swap {f : Nat → Id} {n i k : Nat} (h : Dis f n) (hi : i < n) (hk : k < n) : Dis (swf f i k) n := fun p q hp hq e => by
  unfold swf at e
  by_cases p1 : p = k
  · rw [if_pos p1] at e
    by_cases q1 : q = k
    · rw [p1, q1]
    · rw [if_neg q1] at e
      by_cases q2 : q = i
      · rw [if_pos q2] at e
        have := h _ _ hi hk e
        omega
      · rw [if_neg q2] at e
        have := h _ _ hi hq e
        omega
  · rw [if_neg p1] at e
    by_cases p2 : p = i
    · rw [if_pos p2] at e
      by_cases q1 : q = k
      · rw [if_pos q1] at e
        have := h _ _ hk hi e
        omega
      · rw [if_neg q1] at e
        by_cases q2 : q = i
        · rw [p2, q2]
        · rw [if_neg q2] at e
          have := h _ _ hk hq e
          omega
    · rw [if_neg p2] at e
      by_cases q1 : q = k
      · rw [if_pos q1] at e
        have := h _ _ hp hi e
        omega
      · rw [if_neg q1] at e
        by_cases q2 : q = i
        · rw [if_pos q2] at e
          have := h _ _ hp hk e
          omega
        · rw [if_neg q2] at e
          exact h _ _ hp hq e
theorem mid_start {f : Nat → Id} {a i : Nat} (h : Seg f a i) : Mid f a i i := ⟨fun p q h1 h2 h3 _ h5 => h p q h1 h2 (by omega), fun q h1 h2 => by omega⟩
theorem mid_step {f : Nat → Id} {a i j : Nat} (h : Mid f a i (j + 1)) (ha : a ≤ j) (hji : j + 1 ≤ i) (hc : lt (f (j + 1)) (f j) = true) : Mid (swf f (j + 1) j) a i j := by
  obtain ⟨h1, h2⟩ := h
  refine ⟨fun p q hp hpq hq pj qj => ?_, fun q hjq hq => ?_⟩
  · unfold swf
    rw [if_neg pj, if_neg qj]
    by_cases p1 : p = j + 1
    · rw [if_pos p1, if_neg (by omega)]
      exact h1 j q ha (by omega) hq (by omega) (by omega)
    · rw [if_neg p1]
      by_cases q1 : q = j + 1
      · rw [if_pos q1]
        exact h1 p j hp (by omega) (by omega) p1 (by omega)
      · rw [if_neg q1]
        exact h1 p q hp hpq hq p1 q1
  · unfold swf
    rw [if_pos rfl, if_neg (by omega)]
    by_cases q1 : q = j + 1
    · rw [if_pos q1]
      exact hc
    · rw [if_neg q1]
      exact h2 q (by omega) hq
theorem mid_end {f : Nat → Id} {a i j : Nat} (h : Mid f a i j) (hji : j ≤ i) (hc : j ≤ a ∨ lt (f (j - 1)) (f j) = true) : Seg f a (i + 1) := fun p q hp hpq hq => by
  obtain ⟨h1, h2⟩ := h
  by_cases p1 : p = j
  · rw [p1]
    exact h2 q (by omega) (by omega)
  · by_cases q1 : q = j
    · rw [q1]
      rcases hc with hc | hc
      · omega
      · by_cases p2 : p = j - 1
        · rw [p2]
          exact hc
        · exact lt_trans (h1 p (j - 1) hp (by omega) (by omega) p1 (by omega)) hc
    · exact h1 p q hp hpq (by omega) p1 q1
/-- The same operations, with as unlike ids. -/
structure Same' (l l' : List Mo) : Prop where
  len : l'.length = l.length
  mem : ∀ o, o ∈ l' ↔ o ∈ l
  dis : Dis (fid l') l'.length
theorem Same'.swap {l l' : List Mo} {i k : Nat} (h : Same' l l') (hi : i < l'.length) (hk : k < l'.length) : Same' l ((l'.set i l'[k]).set k l'[i]) := by
  refine ⟨by rw [List.length_set, List.length_set, h.len], fun o => by rw [swap_mem hi hk, h.mem], ?_⟩
  rw [fid_swap hi hk, List.length_set, List.length_set]
  exact dis_swap h.dis hi hk
def cmpId (a b : Id) : Int := if lt a b then -1 else if lt b a then 1 else 0
section
attribute [local irreducible] RnS
attribute [local irreducible] W Lst Qst Pu seqQ blkQ rndQ cutQ retQ Does Enters IntKind.wrap bits sb World.alloc World.putObj Blk
theorem c_Less (a b : Id) (w : World) : Does Tryd.prog 33 #[idv a, idv b] w fun v w' => v = .bool (lt a b) ∧ Below w.heap.size w w' :=
  (Ids.c_Less a.1 a.2 b.1 b.2 w).mono fun v w' h => ⟨h.1.trans (congrArg Value.bool (by
    rw [Bool.eq_iff_iff, lt_iff]
    simp
    omega)), h.2⟩
set_option maxHeartbeats 2000000 in
theorem c_cmp (a b : Mo) (w : World) : Does Tryd.prog 32 #[.agg (ocs a).toArray, .agg (ocs b).toArray] w fun v w' => v = .int .i64 (cmpId a.id b.id) ∧ Below w.heap.size w w' := by
  refine Does_of (args := [.agg (ocs a).toArray, .agg (ocs b).toArray]) Tryd.func32 (by kernel_rfl) rfl rfl rfl rfl rfl ?_
  unfold ocs
  (refine Ga ?_)
  refine Lst_abs (fun A => Below w.heap.size w A ∧ Blk A w.heap.size (ocs a) 31 ∧ Blk A (w.heap.size + 1) (ocs b) 31) ⟨Bel, by unfold ocs; exact (by (repeat (first | assumption | (apply Blk.below (hb := hb1); rotate_left; (focus ((try simp only [Sx.sizes]); omega)); rotate_right) | (apply Blk.below (hb := hb2); rotate_left; (focus ((try simp only [Sx.sizes]); omega)); rotate_right) | (apply Blk.below (hb := hb3); rotate_left; (focus ((try simp only [Sx.sizes]); omega)); rotate_right) | (apply Blk.below (hb := hb4); rotate_left; (focus ((try simp only [Sx.sizes]); omega)); rotate_right) | (apply Blk.below (hb := hb5); rotate_left; (focus ((try simp only [Sx.sizes]); omega)); rotate_right) | (apply Blk.below (hb := hb6); rotate_left; (focus ((try simp only [Sx.sizes]); omega)); rotate_right) | (apply Blk.below (hb := hb7); rotate_left; (focus ((try simp only [Sx.sizes]); omega)); rotate_right) | (apply Blk.below (hb := hb8); rotate_left; (focus ((try simp only [Sx.sizes]); omega)); rotate_right) | (apply Blk.below (hb := hb9); rotate_left; (focus ((try simp only [Sx.sizes]); omega)); rotate_right) | exact Blk.newE (by first | rfl | ((try simp only [Sx.sizes]); first | done | omega)) _ _ | exact Blk.put_same (by (try simp only [Sx.sizes]); first | done | omega) _ _ | (apply Blk.put_ne; (focus omega)) | apply Blk.alloc | apply Blk.drew)); done), by unfold ocs; exact (by (repeat (first | assumption | (apply Blk.below (hb := hb1); rotate_left; (focus ((try simp only [Sx.sizes]); omega)); rotate_right) | (apply Blk.below (hb := hb2); rotate_left; (focus ((try simp only [Sx.sizes]); omega)); rotate_right) | (apply Blk.below (hb := hb3); rotate_left; (focus ((try simp only [Sx.sizes]); omega)); rotate_right) | (apply Blk.below (hb := hb4); rotate_left; (focus ((try simp only [Sx.sizes]); omega)); rotate_right) | (apply Blk.below (hb := hb5); rotate_left; (focus ((try simp only [Sx.sizes]); omega)); rotate_right) | (apply Blk.below (hb := hb6); rotate_left; (focus ((try simp only [Sx.sizes]); omega)); rotate_right) | (apply Blk.below (hb := hb7); rotate_left; (focus ((try simp only [Sx.sizes]); omega)); rotate_right) | (apply Blk.below (hb := hb8); rotate_left; (focus ((try simp only [Sx.sizes]); omega)); rotate_right) | (apply Blk.below (hb := hb9); rotate_left; (focus ((try simp only [Sx.sizes]); omega)); rotate_right) | exact Blk.newE (by first | rfl | ((try simp only [Sx.sizes]); first | done | omega)) _ _ | exact Blk.put_same (by (try simp only [Sx.sizes]); first | done | omega) _ _ | (apply Blk.put_ne; (focus omega)) | apply Blk.alloc | apply Blk.drew)); done)⟩ ?_
  rintro A ⟨bA, k0, k1⟩
  have sA := bA.size
  (apply Lst_call; (focus rfl); (focus rfl))
  refine (c_Less a.id b.id A).mono ?_
  rintro v B ⟨rfl, hB⟩
  have bB := bA.trans (hB.mono sA)
  have k0B := k0.below hB k0.lt
  have k1B := k1.below hB k1.lt
  have l0 := k0B.lt
  have l1 := k1B.lt
  unfold ocs at k0B k1B
  unfold cmpId
  cases lt a.id b.id with
  | true =>
    (refine Ga ?_)
    (apply retQ1; (focus rfl))
    exact ⟨rfl, bB⟩
  | false =>
    (refine Ga ?_)
    (apply Lst_call; (focus rfl); (focus rfl))
    refine (c_Less b.id a.id B).mono ?_
    rintro v C ⟨rfl, hC⟩
    have bC := bB.trans (hC.mono bB.size)
    cases lt b.id a.id with
    | true =>
      (refine Ga ?_)
      (apply retQ1; (focus rfl))
      exact ⟨rfl, bC⟩
    | false =>
      (refine Ga ?_)
      (apply retQ1; (focus rfl))
      exact ⟨rfl, bC⟩
set_option maxHeartbeats 4000000 in
theorem c_insert (v1 : Option Addr) (n v3 a b B : Nat) (l0 : List Mo) (hn : n ≤ 1000000) (hab : b ≤ n) (han : a ≤ n) (w : World) (ho : OwnO B w (.slice v1 n v3) l0) (hB : B ≤ w.heap.size) (hl0 : l0.length = n) (hd : Dis (fid l0) n) :
    Does Tryd.prog 71 #[.slice v1 n v3, .int .i64 (a : Int), .int .i64 (b : Int), .func (.func 32) #[] #[]] w fun v w' => v = .tuple #[] ∧ (∃ l, OwnO B w' (.slice v1 n v3) l ∧ Same' l0 l ∧ (∀ p, p < a ∨ b ≤ p → fid l p = fid l0 p) ∧ Seg (fid l) a b) ∧ Below B w w' := by
  refine Does_of (args := [.slice v1 n v3, .int .i64 (a : Int), .int .i64 (b : Int), .func (.func 32) #[] #[]]) Tryd.func71 (by kernel_rfl) rfl rfl rfl rfl rfl ?_
  (refine Ga ?_)
  refine W_loop (α := Nat) (fun i => [(0, .slice v1 n v3), (1, .int .i64 (a : Int)), (2, .int .i64 (b : Int)), (3, .func (.func 32) #[] #[]), (8, .int .i64 (i : Int))])
    (fun i A => a + 1 ≤ i ∧ (i ≤ b ∨ i = a + 1) ∧ ∃ l, OwnO B A (.slice v1 n v3) l ∧ Same' l0 l ∧ (∀ p, p < a ∨ b ≤ p → fid l p = fid l0 p) ∧ Seg (fid l) a i ∧ Below B w A) (fun i _ => b - i) (a + 1) ⟨Nat.le_refl _, .inr rfl, l0, ho, ⟨rfl, fun _ => Iff.rfl, by rw [hl0]; exact hd⟩, fun _ _ => rfl, fun p q h1 h2 h3 => by omega, Below.refl _ _⟩ ⟨rfl, rfl, rfl, rfl, ?_, trivial⟩ ?_
  · exact congrArg (Value.int .i64) (by omega)
  rintro J i A ⟨hai, hib, l, hoA, hsm, hout, hseg, bA⟩
  by_cases hil : i < b
  · have hlen := hsm.len.trans hl0
    (refine Ga ?_)
    refine W_loop (α := Nat) (fun j => [(0, .slice v1 n v3), (1, .int .i64 (a : Int)), (2, .int .i64 (b : Int)), (3, .func (.func 32) #[] #[]), (8, .int .i64 (i : Int)), (9, .int .i64 (j : Int))])
      (fun j A => a ≤ j ∧ j ≤ i ∧ ∃ l, OwnO B A (.slice v1 n v3) l ∧ Same' l0 l ∧ (∀ p, p < a ∨ b ≤ p → fid l p = fid l0 p) ∧ Mid (fid l) a i j ∧ Below B w A) (fun j _ => j) i ⟨by omega, Nat.le_refl _, l, hoA, hsm, hout, mid_start hseg, bA⟩ ⟨rfl, rfl, rfl, rfl, rfl, rfl, trivial⟩ ?_
    clear hoA hsm hout hseg bA A l hlen
    rintro J j A ⟨haj, hji, l, hoA, hsm, hout, hmid, bA⟩
    have hlen := hsm.len.trans hl0
    by_cases hja : a < j
    · obtain ⟨jp, rfl⟩ : ∃ jp, j = jp + 1 := ⟨j - 1, by omega⟩
      have hj1 : arith .sub .i64 ((jp + 1 : Nat) : Int) 1 = (jp : Int) := by
        have : ((jp + 1 : Nat) : Int) - 1 = (jp : Int) := by omega
        show IntKind.i64.wrap (((jp + 1 : Nat) : Int) - 1) = _
        rw [this]
        exact wi64 (by omega) (by omega)
      have hrow := hoA.rows
      obtain ⟨g', off', e', _, hcj⟩ := hrow.at (i := jp + 1) (by rw [List.length_map]; omega)
      subst e'
      obtain ⟨g'', off'', e'', _, hcp⟩ := hrow.at (i := jp) (by rw [List.length_map]; omega)
      cases e''
      rw [List.getElem_map] at hcj hcp
      obtain ⟨lj, hlj⟩ : ∃ m, l[jp + 1]'(by omega) = m := ⟨_, rfl⟩
      obtain ⟨lp, hlp⟩ : ∃ m, l[jp]'(by omega) = m := ⟨_, rfl⟩
      rw [hlj] at hcj
      rw [hlp] at hcp
      have fj : fid l (jp + 1) = lj.id := by rw [fid_at (by omega), hlj]
      have fp : fid l jp = lp.id := by rw [fid_at (by omega), hlp]
      cases hlt : lt lj.id lp.id with
      | true =>
        have hcm : cmpId lj.id lp.id = -1 := by unfold cmpId; rw [if_pos hlt]
        have hltf : lt (fid l (jp + 1)) (fid l jp) = true := by rw [fj, fp]; exact hlt
        (refine Ga ?_)
        refine W_drawS 17 (fun Z => Below A.heap.size A Z) rfl rfl ?_
        have hS := Below.drew (Below.refl A.heap.size A)
        generalize A.drew = Z at *
        refine S_takeV 0 16 rfl (by kernel_rfl) (by repeat (first | exact retQ_p | apply seqQ_p | apply blkQ_p | apply rndQ_p | apply cutQ_p)) hS ?_
        (refine Qb ?_)
        refine S_takeV 1 15 rfl (by kernel_rfl) (by repeat (first | exact retQ_p | apply seqQ_p | apply blkQ_p | apply rndQ_p | apply cutQ_p)) hS ?_
        (refine Qb ?_)
        refine S_takeV 2 14 rfl (by kernel_rfl) (by repeat (first | exact retQ_p | apply seqQ_p | apply blkQ_p | apply rndQ_p | apply cutQ_p)) hS ?_
        (refine Qb ?_)
        refine S_takeV 3 13 rfl (by kernel_rfl) (by repeat (first | exact retQ_p | apply seqQ_p | apply blkQ_p | apply rndQ_p | apply cutQ_p)) hS ?_
        (refine Qb ?_)
        refine S_takeV 4 12 rfl (by kernel_rfl) (by repeat (first | exact retQ_p | apply seqQ_p | apply blkQ_p | apply rndQ_p | apply cutQ_p)) hS ?_
        (refine Qb ?_)
        refine S_takeV 5 11 rfl (by kernel_rfl) (by repeat (first | exact retQ_p | apply seqQ_p | apply blkQ_p | apply rndQ_p | apply cutQ_p)) hS ?_
        (refine Qb ?_)
        refine S_takeV 6 10 rfl (by kernel_rfl) (by repeat (first | exact retQ_p | apply seqQ_p | apply blkQ_p | apply rndQ_p | apply cutQ_p)) hS ?_
        (refine Qb ?_)
        refine S_takeV 7 9 rfl (by kernel_rfl) (by repeat (first | exact retQ_p | apply seqQ_p | apply blkQ_p | apply rndQ_p | apply cutQ_p)) hS ?_
        apply Qst_guard_t
        focus rfl
        focus rfl
        apply Qst_pu
        · apply P_idxm (j := jp+1) (sz := 22)
          focus rfl
          focus rfl
          focus rfl
          focus rfl
          focus rfl
          focus omega
        focus rfl
        (refine Qb ?_)
        refine S_takeV 8 8 rfl (by kernel_rfl) (by repeat (first | exact retQ_p | apply seqQ_p | apply blkQ_p | apply rndQ_p | apply cutQ_p)) hS ?_
        apply Qst_guard_t
        focus rfl
        focus rfl
        apply Qst_loadS (cs := ocs lj)
        focus rfl
        focus rfl
        focus rfl
        focus rfl
        focus rfl
        focus exact fun A9 hA9 j v hj => cell_below hA9 (hcj j v hj)
        focus rfl
        (refine Qb ?_)
        refine S_takeV 9 7 rfl (by kernel_rfl) (by repeat (first | exact retQ_p | apply seqQ_p | apply blkQ_p | apply rndQ_p | apply cutQ_p)) hS ?_
        (refine Qb ?_)
        refine S_takeV 10 6 rfl (by kernel_rfl) (by repeat (first | exact retQ_p | apply seqQ_p | apply blkQ_p | apply rndQ_p | apply cutQ_p)) hS ?_
        (refine Qb ?_)
        refine S_takeV 11 5 rfl (by kernel_rfl) (by repeat (first | exact retQ_p | apply seqQ_p | apply blkQ_p | apply rndQ_p | apply cutQ_p)) hS ?_
        (refine Qb ?_)
        refine S_takeV 12 4 rfl (by kernel_rfl) (by repeat (first | exact retQ_p | apply seqQ_p | apply blkQ_p | apply rndQ_p | apply cutQ_p)) hS ?_
        apply Qst_guard_t
        focus rfl
        focus rfl
        apply Qst_pu
        · apply P_idxm (j := jp) (sz := 22)
          focus rfl
          focus rfl
          focus rfl
          focus rfl
          focus rfl
          focus omega
        focus rfl
        (refine Qb ?_)
        refine S_takeV 13 3 rfl (by kernel_rfl) (by repeat (first | exact retQ_p | apply seqQ_p | apply blkQ_p | apply rndQ_p | apply cutQ_p)) hS ?_
        apply Qst_guard_t
        focus rfl
        focus rfl
        apply Qst_loadS (cs := ocs lp)
        focus rfl
        focus rfl
        focus rfl
        focus rfl
        focus rfl
        focus exact fun A9 hA9 j v hj => cell_below hA9 (hcp j v hj)
        focus rfl
        (refine Qb ?_)
        refine S_any [14] 2 rfl (by kernel_rfl) (all1 ?_)
        apply Lst_guard_t
        focus rfl
        focus rfl
        (apply Lst_call; (focus rfl); (focus rfl))
        refine (c_cmp lj lp Z).mono ?_
        rintro v V ⟨rfl, hV⟩
        rw [hcm]
        apply Lst_nil
        apply rnQ_n
        have hS2 := hS.trans (hV.mono hS.size)
        refine ⟨hS2, ?_⟩
        clear hS hV
        have hS := hS2
        refine S_takeV 15 1 rfl (by kernel_rfl) (by repeat (first | exact retQ_p | apply seqQ_p | apply blkQ_p | apply rndQ_p | apply cutQ_p)) hS ?_
        (refine Qb ?_)
        refine S_takeV 16 0 rfl (by kernel_rfl) (by repeat (first | exact retQ_p | apply seqQ_p | apply blkQ_p | apply rndQ_p | apply cutQ_p)) hS ?_
        (refine Qb ?_)
        refine S_done (by kernel_rfl) ?_
        have hoS : OwnO B V (.slice (some ⟨g', off', none⟩) n v3) l := own_below hoA hS (Nat.le_refl _)
        have bS := bA.trans (hS.mono (Nat.le_trans hB bA.size))
        clear hcj hcp hrow hoA bA
        have hrow := hoS.rows
        obtain ⟨g1, cap, l1, e1, _, hgB, kl, hl1, hset⟩ := own_setR0 (w := V.drew) (ls := l.map ocs) (nn := n) (by unfold OwnO at hoS; rw [hlen] at hoS; exact own_drew hoS) (ocs_len _) (by decide) (k := jp + 1) (by rw [List.length_map]; omega)
        cases e1
        obtain ⟨h1', h2', e', _, hci⟩ := hrow.at (i := jp + 1) (by rw [List.length_map]; omega)
        cases e'
        obtain ⟨h1', h2', e', _, hck⟩ := hrow.at (i := jp) (by rw [List.length_map]; omega)
        cases e'
        rw [List.getElem_map] at hci hck
        obtain ⟨mi, hmi⟩ : ∃ m, l[jp + 1]'(by omega) = m := ⟨_, rfl⟩
        obtain ⟨mk, hmk⟩ : ∃ m, l[jp]'(by omega) = m := ⟨_, rfl⟩
        rw [hmi] at hci
        rw [hmk] at hck
        (refine Ga ?_)
        refine W_drawS 18 (fun _ => True) rfl rfl ?_
        have hS := trivial
        refine S_takeV 0 17 rfl (by kernel_rfl) (by repeat (first | exact retQ_p | apply seqQ_p | apply blkQ_p | apply rndQ_p | apply cutQ_p)) hS ?_
        (refine Qb ?_)
        refine S_takeV 1 16 rfl (by kernel_rfl) (by repeat (first | exact retQ_p | apply seqQ_p | apply blkQ_p | apply rndQ_p | apply cutQ_p)) hS ?_
        (refine Qb ?_)
        refine S_takeV 2 15 rfl (by kernel_rfl) (by repeat (first | exact retQ_p | apply seqQ_p | apply blkQ_p | apply rndQ_p | apply cutQ_p)) hS ?_
        (refine Qb ?_)
        refine S_takeV 3 14 rfl (by kernel_rfl) (by repeat (first | exact retQ_p | apply seqQ_p | apply blkQ_p | apply rndQ_p | apply cutQ_p)) hS ?_
        (refine Qb ?_)
        refine S_takeV 4 13 rfl (by kernel_rfl) (by repeat (first | exact retQ_p | apply seqQ_p | apply blkQ_p | apply rndQ_p | apply cutQ_p)) hS ?_
        (refine Qb ?_)
        refine S_takeV 5 12 rfl (by kernel_rfl) (by repeat (first | exact retQ_p | apply seqQ_p | apply blkQ_p | apply rndQ_p | apply cutQ_p)) hS ?_
        (refine Qb ?_)
        refine S_takeV 6 11 rfl (by kernel_rfl) (by repeat (first | exact retQ_p | apply seqQ_p | apply blkQ_p | apply rndQ_p | apply cutQ_p)) hS ?_
        (refine Qb ?_)
        refine S_takeV 7 10 rfl (by kernel_rfl) (by repeat (first | exact retQ_p | apply seqQ_p | apply blkQ_p | apply rndQ_p | apply cutQ_p)) hS ?_
        (refine Qb ?_)
        refine S_takeV 8 9 rfl (by kernel_rfl) (by repeat (first | exact retQ_p | apply seqQ_p | apply blkQ_p | apply rndQ_p | apply cutQ_p)) hS ?_
        apply Qst_pu
        · apply P_idxm (j := jp) (sz := 22)
          focus rfl
          focus rfl
          focus rfl
          focus rfl
          focus rfl
          focus omega
        focus rfl
        (refine Qb ?_)
        refine S_takeV 10 8 rfl (by kernel_rfl) (by repeat (first | exact retQ_p | apply seqQ_p | apply blkQ_p | apply rndQ_p | apply cutQ_p)) hS ?_
        (refine Qb ?_)
        refine S_takeV 11 7 rfl (by kernel_rfl) (by repeat (first | exact retQ_p | apply seqQ_p | apply blkQ_p | apply rndQ_p | apply cutQ_p)) hS ?_
        (refine Qb ?_)
        refine S_takeV 12 6 rfl (by kernel_rfl) (by repeat (first | exact retQ_p | apply seqQ_p | apply blkQ_p | apply rndQ_p | apply cutQ_p)) hS ?_
        apply Qst_pu
        · apply P_idxm (j := jp+1) (sz := 22)
          focus rfl
          focus rfl
          focus rfl
          focus rfl
          focus rfl
          focus omega
        focus rfl
        (refine Qb ?_)
        refine S_any [9, 13] 5 rfl (by kernel_rfl) (all2 ?_ ?_)
        · skip
          apply Lst_loadS' (cs := ocs mk)
          focus rfl
          focus rfl
          focus rfl
          focus rfl
          focus rfl
          focus exact hck
          focus rfl
          apply Lst_nil
          apply rnQ_n
          refine ⟨trivial, ?_⟩
          refine S_any [13] 4 rfl (by kernel_rfl) (all1 ?_)
          apply Lst_loadS' (cs := ocs mi)
          focus rfl
          focus rfl
          focus rfl
          focus rfl
          focus rfl
          focus exact hci
          focus rfl
          apply Lst_nil
          apply rnQ_n
          refine ⟨trivial, ?_⟩
          refine S_any [14] 3 rfl (by kernel_rfl) (all1 ?_)
          apply Lst_pu
          · apply P_idxm (j := jp+1) (sz := 22)
            focus rfl
            focus rfl
            focus rfl
            focus rfl
            focus rfl
            focus omega
          focus rfl
          apply Lst_nil
          apply rnQ_n
          refine ⟨trivial, ?_⟩
          refine S_any [15] 2 rfl (by kernel_rfl) (all1 ?_)
          apply Lst_storeM (vs := ocs mk) (hb := kl)
          focus rfl
          focus rfl
          focus rfl
          focus rfl
          focus exact fun u hu => ocs_one [mk] u (by simpa using hu)
          focus exact hl1
          apply Lst_nil
          apply rnQ_n
          refine ⟨trivial, ?_⟩
          have ho1 := hset (ocs mk) rfl
          rw [← List.map_set] at ho1
          have hn1 : (l.set (jp + 1) mk).length = n := by rw [List.length_set, hlen]
          obtain ⟨g2, cap2, l2, e2, _, _, kl2, hl2, hset2⟩ := own_setR0 ho1 (ocs_len _) (by decide) (k := jp) (by rw [List.length_map, hn1]; omega)
          cases e2
          have ho2 := hset2 (ocs mi) rfl
          rw [← List.map_set] at ho2
          have hn2 : ((l.set (jp + 1) mk).set jp mi).length = n := by rw [List.length_set, hn1]
          refine S_any [16] 1 rfl (by kernel_rfl) (all1 ?_)
          apply Lst_pu
          · apply P_idxm (j := jp) (sz := 22)
            focus rfl
            focus rfl
            focus rfl
            focus rfl
            focus rfl
            focus omega
          focus rfl
          apply Lst_nil
          apply rnQ_n
          refine ⟨trivial, ?_⟩
          refine S_any [17] 0 rfl (by kernel_rfl) (all1 ?_)
          apply Lst_storeM (vs := ocs mi) (hb := kl2)
          focus rfl
          focus rfl
          focus rfl
          focus rfl
          focus exact fun u hu => ocs_one [mi] u (by simpa using hu)
          focus exact hl2
          apply Lst_nil
          apply rnQ_n
          refine ⟨trivial, ?_⟩
          refine S_done (by kernel_rfl) ?_
          (refine Ga ?_)
          refine rndQ_n (α := Nat) jp ⟨by omega, by omega, (l.set (jp + 1) mk).set jp mi, by unfold OwnO; rw [hn2]; exact ho2, ?_, fun p hp => ?_, ?_, Sx.Below.put (Sx.Below.put (Below.drew bS) hgB _) hgB _⟩ ⟨rfl, rfl, rfl, rfl, rfl, rfl, trivial⟩ (by omega)
          · rw [← hmi, ← hmk]
            exact hsm.swap (by omega) (by omega)
          · rw [← hmi, ← hmk, fid_swap (by omega) (by omega)]
            unfold swf
            rw [if_neg (by omega), if_neg (by omega)]
            exact hout p hp
          · rw [← hmi, ← hmk, fid_swap (by omega) (by omega)]
            exact mid_step hmid (by omega) hji hltf
        · skip
          apply Lst_loadS' (cs := ocs mi)
          focus rfl
          focus rfl
          focus rfl
          focus rfl
          focus rfl
          focus exact hci
          focus rfl
          apply Lst_nil
          apply rnQ_n
          refine ⟨trivial, ?_⟩
          refine S_any [9] 4 rfl (by kernel_rfl) (all1 ?_)
          apply Lst_loadS' (cs := ocs mk)
          focus rfl
          focus rfl
          focus rfl
          focus rfl
          focus rfl
          focus exact hck
          focus rfl
          apply Lst_nil
          apply rnQ_n
          refine ⟨trivial, ?_⟩
          refine S_any [14] 3 rfl (by kernel_rfl) (all1 ?_)
          apply Lst_pu
          · apply P_idxm (j := jp+1) (sz := 22)
            focus rfl
            focus rfl
            focus rfl
            focus rfl
            focus rfl
            focus omega
          focus rfl
          apply Lst_nil
          apply rnQ_n
          refine ⟨trivial, ?_⟩
          refine S_any [15] 2 rfl (by kernel_rfl) (all1 ?_)
          apply Lst_storeM (vs := ocs mk) (hb := kl)
          focus rfl
          focus rfl
          focus rfl
          focus rfl
          focus exact fun u hu => ocs_one [mk] u (by simpa using hu)
          focus exact hl1
          apply Lst_nil
          apply rnQ_n
          refine ⟨trivial, ?_⟩
          have ho1 := hset (ocs mk) rfl
          rw [← List.map_set] at ho1
          have hn1 : (l.set (jp + 1) mk).length = n := by rw [List.length_set, hlen]
          obtain ⟨g2, cap2, l2, e2, _, _, kl2, hl2, hset2⟩ := own_setR0 ho1 (ocs_len _) (by decide) (k := jp) (by rw [List.length_map, hn1]; omega)
          cases e2
          have ho2 := hset2 (ocs mi) rfl
          rw [← List.map_set] at ho2
          have hn2 : ((l.set (jp + 1) mk).set jp mi).length = n := by rw [List.length_set, hn1]
          refine S_any [16] 1 rfl (by kernel_rfl) (all1 ?_)
          apply Lst_pu
          · apply P_idxm (j := jp) (sz := 22)
            focus rfl
            focus rfl
            focus rfl
            focus rfl
            focus rfl
            focus omega
          focus rfl
          apply Lst_nil
          apply rnQ_n
          refine ⟨trivial, ?_⟩
          refine S_any [17] 0 rfl (by kernel_rfl) (all1 ?_)
          apply Lst_storeM (vs := ocs mi) (hb := kl2)
          focus rfl
          focus rfl
          focus rfl
          focus rfl
          focus exact fun u hu => ocs_one [mi] u (by simpa using hu)
          focus exact hl2
          apply Lst_nil
          apply rnQ_n
          refine ⟨trivial, ?_⟩
          refine S_done (by kernel_rfl) ?_
          (refine Ga ?_)
          refine rndQ_n (α := Nat) jp ⟨by omega, by omega, (l.set (jp + 1) mk).set jp mi, by unfold OwnO; rw [hn2]; exact ho2, ?_, fun p hp => ?_, ?_, Sx.Below.put (Sx.Below.put (Below.drew bS) hgB _) hgB _⟩ ⟨rfl, rfl, rfl, rfl, rfl, rfl, trivial⟩ (by omega)
          · rw [← hmi, ← hmk]
            exact hsm.swap (by omega) (by omega)
          · rw [← hmi, ← hmk, fid_swap (by omega) (by omega)]
            unfold swf
            rw [if_neg (by omega), if_neg (by omega)]
            exact hout p hp
          · rw [← hmi, ← hmk, fid_swap (by omega) (by omega)]
            exact mid_step hmid (by omega) hji hltf
      | false =>
        have hne : lj.id ≠ lp.id := fun e => by
          have := hsm.dis (jp + 1) jp (by omega) (by omega) (by rw [fj, fp, e])
          omega
        have hgt := lt_total hlt hne
        have hcm : cmpId lj.id lp.id = 1 := by unfold cmpId; rw [hlt, hgt]; rfl
        (refine Ga ?_)
        refine W_drawS 17 (fun Z => Below A.heap.size A Z) rfl rfl ?_
        have hS := Below.drew (Below.refl A.heap.size A)
        generalize A.drew = Z at *
        refine S_takeV 0 16 rfl (by kernel_rfl) (by repeat (first | exact retQ_p | apply seqQ_p | apply blkQ_p | apply rndQ_p | apply cutQ_p)) hS ?_
        (refine Qb ?_)
        refine S_takeV 1 15 rfl (by kernel_rfl) (by repeat (first | exact retQ_p | apply seqQ_p | apply blkQ_p | apply rndQ_p | apply cutQ_p)) hS ?_
        (refine Qb ?_)
        refine S_takeV 2 14 rfl (by kernel_rfl) (by repeat (first | exact retQ_p | apply seqQ_p | apply blkQ_p | apply rndQ_p | apply cutQ_p)) hS ?_
        (refine Qb ?_)
        refine S_takeV 3 13 rfl (by kernel_rfl) (by repeat (first | exact retQ_p | apply seqQ_p | apply blkQ_p | apply rndQ_p | apply cutQ_p)) hS ?_
        (refine Qb ?_)
        refine S_takeV 4 12 rfl (by kernel_rfl) (by repeat (first | exact retQ_p | apply seqQ_p | apply blkQ_p | apply rndQ_p | apply cutQ_p)) hS ?_
        (refine Qb ?_)
        refine S_takeV 5 11 rfl (by kernel_rfl) (by repeat (first | exact retQ_p | apply seqQ_p | apply blkQ_p | apply rndQ_p | apply cutQ_p)) hS ?_
        (refine Qb ?_)
        refine S_takeV 6 10 rfl (by kernel_rfl) (by repeat (first | exact retQ_p | apply seqQ_p | apply blkQ_p | apply rndQ_p | apply cutQ_p)) hS ?_
        (refine Qb ?_)
        refine S_takeV 7 9 rfl (by kernel_rfl) (by repeat (first | exact retQ_p | apply seqQ_p | apply blkQ_p | apply rndQ_p | apply cutQ_p)) hS ?_
        apply Qst_guard_t
        focus rfl
        focus rfl
        apply Qst_pu
        · apply P_idxm (j := jp+1) (sz := 22)
          focus rfl
          focus rfl
          focus rfl
          focus rfl
          focus rfl
          focus omega
        focus rfl
        (refine Qb ?_)
        refine S_takeV 8 8 rfl (by kernel_rfl) (by repeat (first | exact retQ_p | apply seqQ_p | apply blkQ_p | apply rndQ_p | apply cutQ_p)) hS ?_
        apply Qst_guard_t
        focus rfl
        focus rfl
        apply Qst_loadS (cs := ocs lj)
        focus rfl
        focus rfl
        focus rfl
        focus rfl
        focus rfl
        focus exact fun A9 hA9 j v hj => cell_below hA9 (hcj j v hj)
        focus rfl
        (refine Qb ?_)
        refine S_takeV 9 7 rfl (by kernel_rfl) (by repeat (first | exact retQ_p | apply seqQ_p | apply blkQ_p | apply rndQ_p | apply cutQ_p)) hS ?_
        (refine Qb ?_)
        refine S_takeV 10 6 rfl (by kernel_rfl) (by repeat (first | exact retQ_p | apply seqQ_p | apply blkQ_p | apply rndQ_p | apply cutQ_p)) hS ?_
        (refine Qb ?_)
        refine S_takeV 11 5 rfl (by kernel_rfl) (by repeat (first | exact retQ_p | apply seqQ_p | apply blkQ_p | apply rndQ_p | apply cutQ_p)) hS ?_
        (refine Qb ?_)
        refine S_takeV 12 4 rfl (by kernel_rfl) (by repeat (first | exact retQ_p | apply seqQ_p | apply blkQ_p | apply rndQ_p | apply cutQ_p)) hS ?_
        apply Qst_guard_t
        focus rfl
        focus rfl
        apply Qst_pu
        · apply P_idxm (j := jp) (sz := 22)
          focus rfl
          focus rfl
          focus rfl
          focus rfl
          focus rfl
          focus omega
        focus rfl
        (refine Qb ?_)
        refine S_takeV 13 3 rfl (by kernel_rfl) (by repeat (first | exact retQ_p | apply seqQ_p | apply blkQ_p | apply rndQ_p | apply cutQ_p)) hS ?_
        apply Qst_guard_t
        focus rfl
        focus rfl
        apply Qst_loadS (cs := ocs lp)
        focus rfl
        focus rfl
        focus rfl
        focus rfl
        focus rfl
        focus exact fun A9 hA9 j v hj => cell_below hA9 (hcp j v hj)
        focus rfl
        (refine Qb ?_)
        refine S_any [14] 2 rfl (by kernel_rfl) (all1 ?_)
        apply Lst_guard_t
        focus rfl
        focus rfl
        (apply Lst_call; (focus rfl); (focus rfl))
        refine (c_cmp lj lp Z).mono ?_
        rintro v V ⟨rfl, hV⟩
        rw [hcm]
        apply Lst_nil
        apply rnQ_n
        have hS2 := hS.trans (hV.mono hS.size)
        refine ⟨hS2, ?_⟩
        clear hS hV
        have hS := hS2
        refine S_takeV 15 1 rfl (by kernel_rfl) (by repeat (first | exact retQ_p | apply seqQ_p | apply blkQ_p | apply rndQ_p | apply cutQ_p)) hS ?_
        (refine Qb ?_)
        refine S_takeV 16 0 rfl (by kernel_rfl) (by repeat (first | exact retQ_p | apply seqQ_p | apply blkQ_p | apply rndQ_p | apply cutQ_p)) hS ?_
        (refine Qb ?_)
        refine S_done (by kernel_rfl) ?_
        have hoS := own_below hoA hS (Nat.le_refl _)
        have bS := bA.trans (hS.mono (Nat.le_trans hB bA.size))
        (refine Ga ?_)
        refine rndQ_n (α := Nat) (i + 1) ⟨by omega, by omega, l, hoS, hsm, hout, mid_end hmid hji (.inr (by rw [Nat.add_sub_cancel, fj, fp]; exact hgt)), bS⟩ ⟨rfl, rfl, rfl, rfl, ?_, trivial⟩ (by omega)
        exact congrArg (Value.int .i64) (by omega)
    · obtain rfl : j = a := by omega
      (refine Ga ?_)
      refine W_drawS 17 (fun Z => Below A.heap.size A Z) rfl rfl ?_
      have hS := Below.drew (Below.refl A.heap.size A)
      generalize A.drew = Z at *
      refine S_takeV 0 16 rfl (by kernel_rfl) (by repeat (first | exact retQ_p | apply seqQ_p | apply blkQ_p | apply rndQ_p | apply cutQ_p)) hS ?_
      (refine Qb ?_)
      refine S_takeV 1 15 rfl (by kernel_rfl) (by repeat (first | exact retQ_p | apply seqQ_p | apply blkQ_p | apply rndQ_p | apply cutQ_p)) hS ?_
      (refine Qb ?_)
      refine S_takeV 2 14 rfl (by kernel_rfl) (by repeat (first | exact retQ_p | apply seqQ_p | apply blkQ_p | apply rndQ_p | apply cutQ_p)) hS ?_
      (refine Qb ?_)
      refine S_takeV 3 13 rfl (by kernel_rfl) (by repeat (first | exact retQ_p | apply seqQ_p | apply blkQ_p | apply rndQ_p | apply cutQ_p)) hS ?_
      (refine Qb ?_)
      refine S_takeV 4 12 rfl (by kernel_rfl) (by repeat (first | exact retQ_p | apply seqQ_p | apply blkQ_p | apply rndQ_p | apply cutQ_p)) hS ?_
      (refine Qb ?_)
      refine S_takeV 5 11 rfl (by kernel_rfl) (by repeat (first | exact retQ_p | apply seqQ_p | apply blkQ_p | apply rndQ_p | apply cutQ_p)) hS ?_
      (refine Qb ?_)
      refine S_takeV 6 10 rfl (by kernel_rfl) (by repeat (first | exact retQ_p | apply seqQ_p | apply blkQ_p | apply rndQ_p | apply cutQ_p)) hS ?_
      (refine Qb ?_)
      refine S_takeV 7 9 rfl (by kernel_rfl) (by repeat (first | exact retQ_p | apply seqQ_p | apply blkQ_p | apply rndQ_p | apply cutQ_p)) hS ?_
      (refine Qb ?_)
      refine S_takeV 8 8 rfl (by kernel_rfl) (by repeat (first | exact retQ_p | apply seqQ_p | apply blkQ_p | apply rndQ_p | apply cutQ_p)) hS ?_
      (refine Qb ?_)
      refine S_takeV 9 7 rfl (by kernel_rfl) (by repeat (first | exact retQ_p | apply seqQ_p | apply blkQ_p | apply rndQ_p | apply cutQ_p)) hS ?_
      (refine Qb ?_)
      refine S_takeV 10 6 rfl (by kernel_rfl) (by repeat (first | exact retQ_p | apply seqQ_p | apply blkQ_p | apply rndQ_p | apply cutQ_p)) hS ?_
      (refine Qb ?_)
      refine S_takeV 11 5 rfl (by kernel_rfl) (by repeat (first | exact retQ_p | apply seqQ_p | apply blkQ_p | apply rndQ_p | apply cutQ_p)) hS ?_
      (refine Qb ?_)
      refine S_takeV 12 4 rfl (by kernel_rfl) (by repeat (first | exact retQ_p | apply seqQ_p | apply blkQ_p | apply rndQ_p | apply cutQ_p)) hS ?_
      (refine Qb ?_)
      refine S_takeV 13 3 rfl (by kernel_rfl) (by repeat (first | exact retQ_p | apply seqQ_p | apply blkQ_p | apply rndQ_p | apply cutQ_p)) hS ?_
      (refine Qb ?_)
      refine S_any [14] 2 rfl (by kernel_rfl) (all1 ?_)
      (refine Gf ?_)
      apply rnQ_n
      refine ⟨hS, ?_⟩
      refine S_takeV 15 1 rfl (by kernel_rfl) (by repeat (first | exact retQ_p | apply seqQ_p | apply blkQ_p | apply rndQ_p | apply cutQ_p)) hS ?_
      (refine Qb ?_)
      refine S_takeV 16 0 rfl (by kernel_rfl) (by repeat (first | exact retQ_p | apply seqQ_p | apply blkQ_p | apply rndQ_p | apply cutQ_p)) hS ?_
      (refine Qb ?_)
      refine S_done (by kernel_rfl) ?_
      have hoS := own_below hoA hS (Nat.le_refl _)
      have bS := bA.trans (hS.mono (Nat.le_trans hB bA.size))
      (refine Ga ?_)
      refine rndQ_n (α := Nat) (i + 1) ⟨by omega, by omega, l, hoS, hsm, hout, mid_end hmid hji (.inl (Nat.le_refl _)), bS⟩ ⟨rfl, rfl, rfl, rfl, ?_, trivial⟩ (by omega)
      exact congrArg (Value.int .i64) (by omega)
  · (refine Ga ?_)
    apply retQ0n
    exact ⟨rfl, ⟨l, hoA, hsm, hout, fun p q h1 h2 h3 => hseg p q h1 h2 (by omega)⟩, bA⟩
end
end Op
end Go.Proofs.YtifkedhbelflkaaDoor
