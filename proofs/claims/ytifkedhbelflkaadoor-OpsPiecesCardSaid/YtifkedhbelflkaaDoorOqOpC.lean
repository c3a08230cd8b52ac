/- Package ops: Check at a text. -/
import Derived.Test.YtifkedhbelflkaaDoorOqOpB
namespace Go.Proofs.YtifkedhbelflkaaDoor
set_option maxRecDepth 100000
namespace Op
open Go Go.RowKit Sx Tl Val
open Utf (rs tl Tabs)
abbrev Rg := Nat × Nat × Nat
def rcs (r : Rg) : List Value := [.int .u64 (r.1 : Int), .int .u64 (r.2.1 : Int), .int .u64 (r.2.2 : Int)]
def rightR (r : Rg) : Bool := num r.1 && (decide (1 ≤ r.2.1) && (decide (r.2.1 < r.2.2) && decide (r.2.2 ≤ 9007199254740992)))
def hasR (r : Rg) (x : Id) : Bool := rightR r && (decide (r.1 = x.1) && (decide (r.2.1 ≤ x.2) && decide (x.2 < r.2.2)))
theorem c_Right (k : Id) (w : World) : Does Tryd.prog 40 #[idv k] w fun v w' => v = .bool (rightId k) ∧ Below w.heap.size w w' :=
  (Ids.c_Right k.1 k.2 w).mono fun v w' h => ⟨h.1.trans (congrArg Value.bool (by
    unfold rightId num
    rw [Bool.eq_iff_iff]
    simp
    omega)), h.2⟩
theorem id_row {w : World} {b : Nat} (r : Rg) (h : Blk w b (rcs r) 47) : SRows w 3 (.slice (some ⟨b, 0, none⟩) 1 1) ([r].map rcs) := by
  refine SRows.of_own (base := 0) (e := 47) (nn := 1) ⟨rfl, .inr ⟨b, 1, (rcs r).toArray, rfl, Nat.zero_le _, h, Nat.le_refl _, by decide, rfl, rfl⟩⟩ (fun x hx => by rw [List.mem_singleton.1 hx]; rfl) (by decide)
theorem ids_row {w : World} {b : Nat} (ks : List Id) (hl : ks.length ≤ 1000000) (h : Blk w b (ks.map idcs).flatten 24) : SRows w 2 (.slice (some ⟨b, 0, none⟩) ks.length ks.length) (ks.map idcs) := by
  have hs : ∀ x ∈ ks.map idcs, x.length = 2 := fun x hx => by
    obtain ⟨k, _, rfl⟩ := List.mem_map.1 hx
    rfl
  have hf : (ks.map idcs).flatten.length = ks.length * 2 := by rw [flat_len _ hs, List.length_map]
  have h2 : SRows w 2 (.slice (some ⟨b, 0, none⟩) (ks.map idcs).length (ks.map idcs).length) (ks.map idcs) := by
    refine SRows.of_own (base := 0) (e := 24) (nn := (ks.map idcs).length) ⟨by rw [hf, List.length_map], .inr ⟨b, (ks.map idcs).length, (ks.map idcs).flatten.toArray, rfl, Nat.zero_le _, h, Nat.le_refl _, Nat.le_trans (by rw [List.length_map]; exact hl) (by decide), by rw [List.size_toArray, hf, List.length_map], by rw [List.take_of_length_le (by rw [Array.length_toList, List.size_toArray, hf, List.length_map]; exact Nat.le_refl _)]⟩⟩ hs (by decide)
  rwa [List.length_map] at h2
section
attribute [local irreducible] RnS
attribute [local irreducible] W Lst Qst Pu seqQ blkQ rndQ cutQ retQ Does Enters IntKind.wrap bits sb World.alloc World.putObj Blk
set_option maxHeartbeats 2000000 in
theorem c_opsid (k : Id) (w : World) : Does Tryd.prog 42 #[idv k] w fun v w' => v = .bool (nm k) ∧ Below w.heap.size w w' := by
  refine Does_of (args := [idv k]) Tryd.func42 (by kernel_rfl) rfl rfl rfl rfl rfl ?_
  unfold idv
  (refine Ga ?_)
  by_cases h : k = none'
  · apply Lst_pu
    · apply P_eqA
      focus rfl
      focus rfl
      focus kernel_rfl
      focus exact id_t h
      focus rfl
    focus rfl
    (refine Ga ?_)
    (apply retQ1; (focus rfl))
    exact ⟨by unfold nm; rw [decide_eq_true h]; rfl, Bel⟩
  · apply Lst_pu
    · apply P_eqA
      focus rfl
      focus rfl
      focus kernel_rfl
      focus exact id_f h
      focus rfl
    focus rfl
    (refine Ga ?_)
    (apply Lst_call; (focus rfl); (focus rfl))
    refine (c_Right k _).mono ?_
    rintro v w' ⟨rfl, hb⟩
    have hb := Sx.Below.after (w := w) Bel hb
    (refine Ga ?_)
    (apply retQ1; (focus rfl))
    exact ⟨by unfold nm; rw [decide_eq_false h]; rfl, hb⟩
theorem c_number (n : Nat) (w : World) : Does Tryd.prog 61 #[.int .u64 (n : Int)] w fun v w' => v = .bool (num n) ∧ w = w' :=
  (Ids.c_number n w).mono fun v w' h => ⟨h.1.trans (congrArg Value.bool (by
    unfold num
    rw [Bool.eq_iff_iff]
    simp
    omega)), h.2⟩
set_option maxHeartbeats 2000000 in
theorem c_right (r : Rg) (w : World) : Does Tryd.prog 64 #[.agg (rcs r).toArray] w fun v w' => v = .bool (rightR r) ∧ Below w.heap.size w w' := by
  refine Does_of (args := [.agg (rcs r).toArray]) Tryd.func64 (by kernel_rfl) rfl rfl rfl rfl rfl ?_
  unfold rcs
  (refine Ga ?_)
  (apply Lst_call; (focus rfl); (focus rfl))
  refine (c_number r.1 _).mono ?_
  rintro v w' ⟨rfl, rfl⟩
  unfold rightR
  cases num r.1 with
  | false =>
    (refine Ga ?_)
    (apply retQ1; (focus rfl))
    exact ⟨rfl, Bel⟩
  | true =>
    by_cases h1 : 1 ≤ r.2.1
    · by_cases h2 : r.2.1 < r.2.2
      · by_cases h3 : r.2.2 ≤ 9007199254740992
        · (refine Ga ?_)
          (apply retQ1; (focus rfl))
          exact ⟨by rw [decide_eq_true h1, decide_eq_true h2, decide_eq_true h3]; rfl, Bel⟩
        · (refine Ga ?_)
          (apply retQ1; (focus rfl))
          exact ⟨by rw [decide_eq_false h3, Bool.and_false, Bool.and_false, Bool.and_false]; rfl, Bel⟩
      · (refine Ga ?_)
        (apply retQ1; (focus rfl))
        exact ⟨by rw [decide_eq_false h2, Bool.false_and, Bool.and_false, Bool.and_false]; rfl, Bel⟩
    · (refine Ga ?_)
      (apply retQ1; (focus rfl))
      exact ⟨by rw [decide_eq_false h1, Bool.false_and, Bool.and_false]; rfl, Bel⟩
set_option maxHeartbeats 2000000 in
theorem c_has1 (r : Rg) (x : Id) (b : Nat) (w : World) (kb : Blk w b (idcs x) 24) : Does Tryd.prog 63 #[.agg (rcs r).toArray, .pointer (some ⟨b, 0, none⟩)] w fun v w' => v = .bool (hasR r x) ∧ Below w.heap.size w w' := by
  refine Does_of (args := [.agg (rcs r).toArray, .pointer (some ⟨b, 0, none⟩)]) Tryd.func63 (by kernel_rfl) rfl rfl rfl rfl rfl ?_
  unfold rcs
  unfold idcs at kb
  have lb := kb.lt
  (refine Ga ?_)
  refine Lst_abs (fun A => Below w.heap.size w A ∧ Blk A w.heap.size (rcs r) 47) ⟨Bel, by unfold rcs; exact (by (repeat (first | assumption | (apply Blk.below (hb := hb1); rotate_left; (focus ((try simp only [Sx.sizes]); omega)); rotate_right) | (apply Blk.below (hb := hb2); rotate_left; (focus ((try simp only [Sx.sizes]); omega)); rotate_right) | (apply Blk.below (hb := hb3); rotate_left; (focus ((try simp only [Sx.sizes]); omega)); rotate_right) | (apply Blk.below (hb := hb4); rotate_left; (focus ((try simp only [Sx.sizes]); omega)); rotate_right) | (apply Blk.below (hb := hb5); rotate_left; (focus ((try simp only [Sx.sizes]); omega)); rotate_right) | (apply Blk.below (hb := hb6); rotate_left; (focus ((try simp only [Sx.sizes]); omega)); rotate_right) | (apply Blk.below (hb := hb7); rotate_left; (focus ((try simp only [Sx.sizes]); omega)); rotate_right) | (apply Blk.below (hb := hb8); rotate_left; (focus ((try simp only [Sx.sizes]); omega)); rotate_right) | (apply Blk.below (hb := hb9); rotate_left; (focus ((try simp only [Sx.sizes]); omega)); rotate_right) | exact Blk.newE (by first | rfl | ((try simp only [Sx.sizes]); first | done | omega)) _ _ | exact Blk.put_same (by (try simp only [Sx.sizes]); first | done | omega) _ _ | (apply Blk.put_ne; (focus omega)) | apply Blk.alloc | apply Blk.drew)); done)⟩ ?_
  rintro A ⟨bA, kA⟩
  have kbA := kb.below bA lb
  have lA := kA.lt
  have sA := bA.size
  generalize w.heap.size = br at *
  (apply Lst_call; (focus rfl); (focus rfl))
  refine (c_right r A).mono ?_
  rintro v B ⟨rfl, hB⟩
  have kbB := kbA.below hB kbA.lt
  have kB := kA.below hB lA
  have lB := kB.lt
  have lbB := kbB.lt
  unfold rcs at kB
  have bB := bA.trans (hB.mono sA)
  have sB := Nat.le_trans sA hB.size
  unfold hasR
  cases rightR r with
  | false =>
    (refine Ga ?_)
    (apply retQ1; (focus rfl))
    exact ⟨rfl, bB⟩
  | true =>
    by_cases h1 : r.1 = x.1
    · by_cases h2 : r.2.1 ≤ x.2
      · by_cases h3 : x.2 < r.2.2
        · (refine Ga ?_)
          (apply retQ1; (focus rfl))
          exact ⟨by rw [decide_eq_true h1, decide_eq_true h2, decide_eq_true h3]; rfl, bB⟩
        · (refine Ga ?_)
          (apply retQ1; (focus rfl))
          exact ⟨by rw [decide_eq_false h3, Bool.and_false, Bool.and_false]; rfl, bB⟩
      · (refine Ga ?_)
        (apply retQ1; (focus rfl))
        exact ⟨by rw [decide_eq_false h2, Bool.false_and, Bool.and_false]; rfl, bB⟩
    · (refine Ga ?_)
      (apply retQ1; (focus rfl))
      exact ⟨by rw [decide_eq_false h1, Bool.false_and]; rfl, bB⟩
set_option maxHeartbeats 2000000 in
theorem c_IndexR (ls : List Rg) (p : Rg → Bool) (g : Nat) (cs : List Value) (a : Option Addr) (c : Nat) (hl : ls.length ≤ 1000000) (w : World) (hr : SRows w 3 (.slice a ls.length c) (ls.map rcs)) (hp : ∀ x ∈ ls, ∀ A, Below w.heap.size w A → Does Tryd.prog g (Value.agg (rcs x).toArray :: cs).toArray A fun v w' => v = .bool (p x) ∧ Below A.heap.size A w') :
    Does Tryd.prog 79 #[.slice a ls.length c, .func (.func g) #[] cs.toArray] w fun v w' => (∃ z : Int, v = .int .i64 z ∧ (ls.all (fun x => !p x) = true → z = -1) ∧ (ls.all (fun x => !p x) = false → 0 ≤ z)) ∧ Below w.heap.size w w' := by
  refine Does_of (args := [.slice a ls.length c, .func (.func g) #[] cs.toArray]) Tryd.func79 (by kernel_rfl) rfl rfl rfl rfl rfl ?_
  (refine Ga ?_)
  refine W_loop (α := Nat) (fun i => [(0, .slice a ls.length c), (1, .func (.func g) #[] cs.toArray), (7, .int .i64 (ls.length : Int)), (8, .int .i64 (i : Int))]) (fun i A => i ≤ ls.length ∧ (∀ j (h : j < ls.length), j < i → p ls[j] = false) ∧ Below w.heap.size w A) (fun i _ => ls.length - i) 0 ⟨Nat.zero_le _, fun j _ h => absurd h (Nat.not_lt_zero _), Below.refl _ _⟩ ⟨rfl, rfl, rfl, rfl, trivial⟩ ?_
  rintro J i A ⟨hi, hno, bA⟩
  by_cases hil : i < ls.length
  · have hrA := SRows.below hr bA (Nat.le_refl _)
    obtain ⟨b, off, rfl, _, hc⟩ := hrA.at (i := i) (by rw [List.length_map]; exact hil)
    rw [List.getElem_map] at hc
    have hx := hp ls[i] (List.getElem_mem hil) A bA
    (refine Ga ?_)
    apply Lst_pu
    · apply P_idxm (j := i) (sz := 3)
      focus rfl
      focus rfl
      focus rfl
      focus rfl
      focus rfl
      focus omega
    focus rfl
    apply Lst_loadS' (cs := rcs ls[i])
    focus rfl
    focus rfl
    focus rfl
    focus rfl
    focus rfl
    focus exact hc
    focus rfl
    (refine Ga ?_)
    apply Lst_call (cs := cs)
    focus rfl
    focus rfl
    refine hx.mono ?_
    rintro v B ⟨rfl, hB⟩
    have bB := bA.trans (hB.mono bA.size)
    cases hpx : p ls[i] with
    | true =>
      (refine Ga ?_)
      (apply retQ1; (focus rfl))
      exact ⟨⟨_, rfl, fun h => (by
        have h1 := List.all_eq_true.1 h ls[i] (List.getElem_mem hil)
        rw [hpx] at h1
        cases h1), fun _ => by omega⟩, bB⟩
    | false =>
      (refine Ga ?_)
      refine rndQ_n (α := Nat) (i + 1) ⟨hil, fun j hj hji => ?_, bB⟩ ⟨rfl, rfl, rfl, ?_, trivial⟩ (by omega)
      · rcases Nat.lt_succ_iff_lt_or_eq.1 hji with h | rfl
        · exact hno j hj h
        · exact hpx
      · exact congrArg (Value.int .i64) (by omega)
  · (refine Ga ?_)
    (apply retQ1; (focus rfl))
    refine ⟨⟨_, rfl, fun _ => rfl, fun h => ?_⟩, bA⟩
    have : ls.all (fun x => !p x) = true := List.all_eq_true.2 fun x hx => by
      obtain ⟨j, hj, rfl⟩ := List.getElem_of_mem hx
      rw [hno j hj (by omega)]
      rfl
    rw [this] at h
    cases h
set_option maxHeartbeats 2000000 in
theorem c_ContainsR (ls : List Rg) (p : Rg → Bool) (g : Nat) (cs : List Value) (a : Option Addr) (c : Nat) (hl : ls.length ≤ 1000000) (w : World) (hr : SRows w 3 (.slice a ls.length c) (ls.map rcs)) (hp : ∀ x ∈ ls, ∀ A, Below w.heap.size w A → Does Tryd.prog g ((Value.agg (rcs x).toArray) :: cs).toArray A fun v w' => v = .bool (p x) ∧ Below A.heap.size A w') :
    Does Tryd.prog 62 #[.slice a ls.length c, .func (.func g) #[] cs.toArray] w fun v w' => v = .bool (!ls.all (fun x => !p x)) ∧ Below w.heap.size w w' := by
  refine Does_of (args := [.slice a ls.length c, .func (.func g) #[] cs.toArray]) Tryd.func62 (by kernel_rfl) rfl rfl rfl rfl rfl ?_
  (refine Ga ?_)
  (apply Lst_call; (focus rfl); (focus rfl))
  refine (c_IndexR ls p g cs a c hl w hr hp).mono ?_
  rintro v B ⟨⟨z, rfl, h1, h2⟩, hB⟩
  cases h : ls.all (fun x => !p x) with
  | true =>
    rw [h1 h]
    (refine Ga ?_)
    (apply retQ1; (focus rfl))
    exact ⟨rfl, hB⟩
  | false =>
    have := h2 h
    (refine Ga ?_)
    (apply retQ1; (focus rfl))
    exact ⟨rfl, hB⟩
set_option maxHeartbeats 2000000 in
theorem c_IndexI (ls : List Id) (p : Id → Bool) (g : Nat) (cs : List Value) (a : Option Addr) (c : Nat) (hl : ls.length ≤ 1000000) (w : World) (hr : SRows w 2 (.slice a ls.length c) (ls.map idcs)) (hp : ∀ x ∈ ls, ∀ A, Below w.heap.size w A → Does Tryd.prog g ((idv x) :: cs).toArray A fun v w' => v = .bool (p x) ∧ Below A.heap.size A w') :
    Does Tryd.prog 65 #[.slice a ls.length c, .func (.func g) #[] cs.toArray] w fun v w' => (∃ z : Int, v = .int .i64 z ∧ (ls.all (fun x => !p x) = true → z = -1) ∧ (ls.all (fun x => !p x) = false → 0 ≤ z)) ∧ Below w.heap.size w w' := by
  refine Does_of (args := [.slice a ls.length c, .func (.func g) #[] cs.toArray]) Tryd.func65 (by kernel_rfl) rfl rfl rfl rfl rfl ?_
  (refine Ga ?_)
  refine W_loop (α := Nat) (fun i => [(0, .slice a ls.length c), (1, .func (.func g) #[] cs.toArray), (7, .int .i64 (ls.length : Int)), (8, .int .i64 (i : Int))]) (fun i A => i ≤ ls.length ∧ (∀ j (h : j < ls.length), j < i → p ls[j] = false) ∧ Below w.heap.size w A) (fun i _ => ls.length - i) 0 ⟨Nat.zero_le _, fun j _ h => absurd h (Nat.not_lt_zero _), Below.refl _ _⟩ ⟨rfl, rfl, rfl, rfl, trivial⟩ ?_
  rintro J i A ⟨hi, hno, bA⟩
  by_cases hil : i < ls.length
  · have hrA := SRows.below hr bA (Nat.le_refl _)
    obtain ⟨b, off, rfl, _, hc⟩ := hrA.at (i := i) (by rw [List.length_map]; exact hil)
    rw [List.getElem_map] at hc
    have hx := hp ls[i] (List.getElem_mem hil) A bA
    (refine Ga ?_)
    apply Lst_pu
    · apply P_idxm (j := i) (sz := 2)
      focus rfl
      focus rfl
      focus rfl
      focus rfl
      focus rfl
      focus omega
    focus rfl
    apply Lst_loadS' (cs := idcs ls[i])
    focus rfl
    focus rfl
    focus rfl
    focus rfl
    focus rfl
    focus exact hc
    focus rfl
    (refine Ga ?_)
    apply Lst_call (cs := cs)
    focus rfl
    focus rfl
    refine hx.mono ?_
    rintro v B ⟨rfl, hB⟩
    have bB := bA.trans (hB.mono bA.size)
    cases hpx : p ls[i] with
    | true =>
      (refine Ga ?_)
      (apply retQ1; (focus rfl))
      exact ⟨⟨_, rfl, fun h => (by
        have h1 := List.all_eq_true.1 h ls[i] (List.getElem_mem hil)
        rw [hpx] at h1
        cases h1), fun _ => by omega⟩, bB⟩
    | false =>
      (refine Ga ?_)
      refine rndQ_n (α := Nat) (i + 1) ⟨hil, fun j hj hji => ?_, bB⟩ ⟨rfl, rfl, rfl, ?_, trivial⟩ (by omega)
      · rcases Nat.lt_succ_iff_lt_or_eq.1 hji with h | rfl
        · exact hno j hj h
        · exact hpx
      · exact congrArg (Value.int .i64) (by omega)
  · (refine Ga ?_)
    (apply retQ1; (focus rfl))
    refine ⟨⟨_, rfl, fun _ => rfl, fun h => ?_⟩, bA⟩
    have : ls.all (fun x => !p x) = true := List.all_eq_true.2 fun x hx => by
      obtain ⟨j, hj, rfl⟩ := List.getElem_of_mem hx
      rw [hno j hj (by omega)]
      rfl
    rw [this] at h
    cases h
set_option maxHeartbeats 2000000 in
theorem c_ContainsI (ls : List Id) (p : Id → Bool) (g : Nat) (cs : List Value) (a : Option Addr) (c : Nat) (hl : ls.length ≤ 1000000) (w : World) (hr : SRows w 2 (.slice a ls.length c) (ls.map idcs)) (hp : ∀ x ∈ ls, ∀ A, Below w.heap.size w A → Does Tryd.prog g ((idv x) :: cs).toArray A fun v w' => v = .bool (p x) ∧ Below A.heap.size A w') :
    Does Tryd.prog 44 #[.slice a ls.length c, .func (.func g) #[] cs.toArray] w fun v w' => v = .bool (!ls.all (fun x => !p x)) ∧ Below w.heap.size w w' := by
  refine Does_of (args := [.slice a ls.length c, .func (.func g) #[] cs.toArray]) Tryd.func44 (by kernel_rfl) rfl rfl rfl rfl rfl ?_
  (refine Ga ?_)
  (apply Lst_call; (focus rfl); (focus rfl))
  refine (c_IndexI ls p g cs a c hl w hr hp).mono ?_
  rintro v B ⟨⟨z, rfl, h1, h2⟩, hB⟩
  cases h : ls.all (fun x => !p x) with
  | true =>
    rw [h1 h]
    (refine Ga ?_)
    (apply retQ1; (focus rfl))
    exact ⟨rfl, hB⟩
  | false =>
    have := h2 h
    (refine Ga ?_)
    (apply retQ1; (focus rfl))
    exact ⟨rfl, hB⟩
set_option maxHeartbeats 2000000 in
theorem c_IndexO (ls : List Mo) (p : Mo → Bool) (g : Nat) (cs : List Value) (a : Option Addr) (c : Nat) (hl : ls.length ≤ 1000000) (w : World) (hr : SRows w 22 (.slice a ls.length c) (ls.map ocs)) (hp : ∀ x ∈ ls, ∀ A, Below w.heap.size w A → Does Tryd.prog g ((Value.agg (ocs x).toArray) :: cs).toArray A fun v w' => v = .bool (p x) ∧ Below A.heap.size A w') :
    Does Tryd.prog 53 #[.slice a ls.length c, .func (.func g) #[] cs.toArray] w fun v w' => (∃ z : Int, v = .int .i64 z ∧ (ls.all (fun x => !p x) = true → z = -1) ∧ (ls.all (fun x => !p x) = false → 0 ≤ z)) ∧ Below w.heap.size w w' := by
  refine Does_of (args := [.slice a ls.length c, .func (.func g) #[] cs.toArray]) Tryd.func53 (by kernel_rfl) rfl rfl rfl rfl rfl ?_
  (refine Ga ?_)
  refine W_loop (α := Nat) (fun i => [(0, .slice a ls.length c), (1, .func (.func g) #[] cs.toArray), (7, .int .i64 (ls.length : Int)), (8, .int .i64 (i : Int))]) (fun i A => i ≤ ls.length ∧ (∀ j (h : j < ls.length), j < i → p ls[j] = false) ∧ Below w.heap.size w A) (fun i _ => ls.length - i) 0 ⟨Nat.zero_le _, fun j _ h => absurd h (Nat.not_lt_zero _), Below.refl _ _⟩ ⟨rfl, rfl, rfl, rfl, trivial⟩ ?_
  rintro J i A ⟨hi, hno, bA⟩
  by_cases hil : i < ls.length
  · have hrA := SRows.below hr bA (Nat.le_refl _)
    obtain ⟨b, off, rfl, _, hc⟩ := hrA.at (i := i) (by rw [List.length_map]; exact hil)
    rw [List.getElem_map] at hc
    have hx := hp ls[i] (List.getElem_mem hil) A bA
    (refine Ga ?_)
    apply Lst_pu
    · apply P_idxm (j := i) (sz := 22)
      focus rfl
      focus rfl
      focus rfl
      focus rfl
      focus rfl
      focus omega
    focus rfl
    apply Lst_loadS' (cs := ocs ls[i])
    focus rfl
    focus rfl
    focus rfl
    focus rfl
    focus rfl
    focus exact hc
    focus rfl
    (refine Ga ?_)
    apply Lst_call (cs := cs)
    focus rfl
    focus rfl
    refine hx.mono ?_
    rintro v B ⟨rfl, hB⟩
    have bB := bA.trans (hB.mono bA.size)
    cases hpx : p ls[i] with
    | true =>
      (refine Ga ?_)
      (apply retQ1; (focus rfl))
      exact ⟨⟨_, rfl, fun h => (by
        have h1 := List.all_eq_true.1 h ls[i] (List.getElem_mem hil)
        rw [hpx] at h1
        cases h1), fun _ => by omega⟩, bB⟩
    | false =>
      (refine Ga ?_)
      refine rndQ_n (α := Nat) (i + 1) ⟨hil, fun j hj hji => ?_, bB⟩ ⟨rfl, rfl, rfl, ?_, trivial⟩ (by omega)
      · rcases Nat.lt_succ_iff_lt_or_eq.1 hji with h | rfl
        · exact hno j hj h
        · exact hpx
      · exact congrArg (Value.int .i64) (by omega)
  · (refine Ga ?_)
    (apply retQ1; (focus rfl))
    refine ⟨⟨_, rfl, fun _ => rfl, fun h => ?_⟩, bA⟩
    have : ls.all (fun x => !p x) = true := List.all_eq_true.2 fun x hx => by
      obtain ⟨j, hj, rfl⟩ := List.getElem_of_mem hx
      rw [hno j hj (by omega)]
      rfl
    rw [this] at h
    cases h
set_option maxHeartbeats 2000000 in
theorem c_Has (r : Rg) (x : Id) (b : Nat) (w : World) (kb : Blk w b (rcs r) 47) : Does Tryd.prog 43 #[.slice (some ⟨b, 0, none⟩) 1 1, idv x] w fun v w' => v = .bool (rightId x && hasR r x) ∧ Below w.heap.size w w' := by
  refine Does_of (args := [.slice (some ⟨b, 0, none⟩) 1 1, idv x]) Tryd.func43 (by kernel_rfl) rfl rfl rfl rfl rfl ?_
  unfold idv
  have lb := kb.lt
  (refine Ga ?_)
  refine Lst_abs (fun A => Below w.heap.size w A ∧ Blk A w.heap.size (idcs x) 24) ⟨Bel, by unfold idcs; exact (by (repeat (first | assumption | (apply Blk.below (hb := hb1); rotate_left; (focus ((try simp only [Sx.sizes]); omega)); rotate_right) | (apply Blk.below (hb := hb2); rotate_left; (focus ((try simp only [Sx.sizes]); omega)); rotate_right) | (apply Blk.below (hb := hb3); rotate_left; (focus ((try simp only [Sx.sizes]); omega)); rotate_right) | (apply Blk.below (hb := hb4); rotate_left; (focus ((try simp only [Sx.sizes]); omega)); rotate_right) | (apply Blk.below (hb := hb5); rotate_left; (focus ((try simp only [Sx.sizes]); omega)); rotate_right) | (apply Blk.below (hb := hb6); rotate_left; (focus ((try simp only [Sx.sizes]); omega)); rotate_right) | (apply Blk.below (hb := hb7); rotate_left; (focus ((try simp only [Sx.sizes]); omega)); rotate_right) | (apply Blk.below (hb := hb8); rotate_left; (focus ((try simp only [Sx.sizes]); omega)); rotate_right) | (apply Blk.below (hb := hb9); rotate_left; (focus ((try simp only [Sx.sizes]); omega)); rotate_right) | exact Blk.newE (by first | rfl | ((try simp only [Sx.sizes]); first | done | omega)) _ _ | exact Blk.put_same (by (try simp only [Sx.sizes]); first | done | omega) _ _ | (apply Blk.put_ne; (focus omega)) | apply Blk.alloc | apply Blk.drew)); done)⟩ ?_
  rintro A ⟨bA, kA⟩
  have kbA := kb.below bA lb
  have lA := kA.lt
  have sA := bA.size
  generalize w.heap.size = bx at *
  (apply Lst_call; (focus rfl); (focus rfl))
  refine (c_Right x A).mono ?_
  rintro v B ⟨rfl, hB⟩
  have bB := bA.trans (hB.mono sA)
  have sB := Nat.le_trans sA hB.size
  cases rightId x with
  | false =>
    (refine Ga ?_)
    (apply retQ1; (focus rfl))
    exact ⟨rfl, bB⟩
  | true =>
    have kbB := kbA.below hB kbA.lt
    have kB := kA.below hB lA
    (refine Ga ?_)
    (apply Lst_call; (focus rfl); (focus rfl))
    refine (c_ContainsR [r] (fun r => hasR r x) 63 [.pointer (some ⟨bx, 0, none⟩)] (some ⟨b, 0, none⟩) 1 (show 1 ≤ 1000000 by decide) B (id_row r kbB) fun r _ A' hA' => c_has1 r x bx A' (kB.below hA' kB.lt)).mono ?_
    rintro v C ⟨rfl, hC⟩
    have bC := bB.trans (hC.mono sB)
    (refine Ga ?_)
    (apply retQ1; (focus rfl))
    exact ⟨show Value.bool (!([r].all fun r => !hasR r x)) = _ by simp, bC⟩
set_option maxHeartbeats 2000000 in
theorem c_bad (r : Rg) (x : Id) (b : Nat) (w : World) (kb : Blk w b (rcs r) 47) : Does Tryd.prog 41 #[idv x, .pointer (some ⟨b, 0, none⟩)] w fun v w' => v = .bool (!nm x || (rightId x && hasR r x)) ∧ Below w.heap.size w w' := by
  refine Does_of (args := [idv x, .pointer (some ⟨b, 0, none⟩)]) Tryd.func41 (by kernel_rfl) rfl rfl rfl rfl rfl ?_
  unfold idv
  have lb := kb.lt
  (refine Ga ?_)
  refine Lst_abs (fun A => Below w.heap.size w A ∧ Blk A w.heap.size (idcs x) 24) ⟨Bel, by unfold idcs; exact (by (repeat (first | assumption | (apply Blk.below (hb := hb1); rotate_left; (focus ((try simp only [Sx.sizes]); omega)); rotate_right) | (apply Blk.below (hb := hb2); rotate_left; (focus ((try simp only [Sx.sizes]); omega)); rotate_right) | (apply Blk.below (hb := hb3); rotate_left; (focus ((try simp only [Sx.sizes]); omega)); rotate_right) | (apply Blk.below (hb := hb4); rotate_left; (focus ((try simp only [Sx.sizes]); omega)); rotate_right) | (apply Blk.below (hb := hb5); rotate_left; (focus ((try simp only [Sx.sizes]); omega)); rotate_right) | (apply Blk.below (hb := hb6); rotate_left; (focus ((try simp only [Sx.sizes]); omega)); rotate_right) | (apply Blk.below (hb := hb7); rotate_left; (focus ((try simp only [Sx.sizes]); omega)); rotate_right) | (apply Blk.below (hb := hb8); rotate_left; (focus ((try simp only [Sx.sizes]); omega)); rotate_right) | (apply Blk.below (hb := hb9); rotate_left; (focus ((try simp only [Sx.sizes]); omega)); rotate_right) | exact Blk.newE (by first | rfl | ((try simp only [Sx.sizes]); first | done | omega)) _ _ | exact Blk.put_same (by (try simp only [Sx.sizes]); first | done | omega) _ _ | (apply Blk.put_ne; (focus omega)) | apply Blk.alloc | apply Blk.drew)); done)⟩ ?_
  rintro A ⟨bA, kA⟩
  have kbA := kb.below bA lb
  have lA := kA.lt
  have sA := bA.size
  generalize w.heap.size = bx at *
  (apply Lst_call; (focus rfl); (focus rfl))
  refine (c_opsid x A).mono ?_
  rintro v B ⟨rfl, hB⟩
  have bB := bA.trans (hB.mono sA)
  have sB := Nat.le_trans sA hB.size
  cases nm x with
  | false =>
    (refine Ga ?_)
    (apply retQ1; (focus rfl))
    exact ⟨rfl, bB⟩
  | true =>
    have kbB := kbA.below hB kbA.lt
    have kB := kA.below hB lA
    have lB := kB.lt
    have lbB := kbB.lt
    unfold rcs at kbB
    unfold idcs at kB
    (refine Ga ?_)
    (apply Lst_slit; (focus rfl); (focus rfl); (focus rfl); (focus rfl); (focus rfl); (focus rfl); (focus rfl); (focus rfl); (focus rfl); (focus (repeat (first | apply FillO.nil | (apply FillO.cons; (focus constructor); (focus rfl); (focus rfl); (focus (repeat constructor)))))); (focus ((try simp only [Sx.sizes]); first | done | rfl)); (focus rfl))
    refine Lst_abs (fun C => Below B.heap.size B C ∧ Blk C B.heap.size (rcs r) 47) ⟨Bel, by unfold rcs; exact (by (repeat (first | assumption | (apply Blk.below (hb := hb1); rotate_left; (focus ((try simp only [Sx.sizes]); omega)); rotate_right) | (apply Blk.below (hb := hb2); rotate_left; (focus ((try simp only [Sx.sizes]); omega)); rotate_right) | (apply Blk.below (hb := hb3); rotate_left; (focus ((try simp only [Sx.sizes]); omega)); rotate_right) | (apply Blk.below (hb := hb4); rotate_left; (focus ((try simp only [Sx.sizes]); omega)); rotate_right) | (apply Blk.below (hb := hb5); rotate_left; (focus ((try simp only [Sx.sizes]); omega)); rotate_right) | (apply Blk.below (hb := hb6); rotate_left; (focus ((try simp only [Sx.sizes]); omega)); rotate_right) | (apply Blk.below (hb := hb7); rotate_left; (focus ((try simp only [Sx.sizes]); omega)); rotate_right) | (apply Blk.below (hb := hb8); rotate_left; (focus ((try simp only [Sx.sizes]); omega)); rotate_right) | (apply Blk.below (hb := hb9); rotate_left; (focus ((try simp only [Sx.sizes]); omega)); rotate_right) | exact Blk.newE (by first | rfl | ((try simp only [Sx.sizes]); first | done | omega)) _ _ | exact Blk.put_same (by (try simp only [Sx.sizes]); first | done | omega) _ _ | (apply Blk.put_ne; (focus omega)) | apply Blk.alloc | apply Blk.drew)); done)⟩ ?_
    rintro C ⟨hC, kC⟩
    have bC := bB.trans (hC.mono sB)
    have kxC := kB.below hC lB
    have lxC := kxC.lt
    (refine Ga ?_)
    (apply Lst_call; (focus rfl); (focus rfl))
    refine (c_Has r x B.heap.size C kC).mono ?_
    rintro v D ⟨rfl, hD⟩
    have bD := bC.trans (hD.mono (Nat.le_trans sB hC.size))
    (refine Ga ?_)
    (apply retQ1; (focus rfl))
    exact ⟨rfl, bD⟩
set_option maxHeartbeats 2000000 in
theorem c_names (o : Mo) (w : World) : Does Tryd.prog 45 #[.agg (ocs o).toArray] w fun v w' => ∃ b, v = .slice (some ⟨b, 0, none⟩) 5 5 ∧ SRows w' 2 v ((nms o).map idcs) ∧ Below w.heap.size w w' := by
  refine Does_of (args := [.agg (ocs o).toArray]) Tryd.func45 (by kernel_rfl) rfl rfl rfl rfl rfl ?_
  unfold ocs
  (refine Ga ?_)
  (apply Lst_slit; (focus rfl); (focus rfl); (focus rfl); (focus rfl); (focus rfl); (focus rfl); (focus rfl); (focus rfl); (focus rfl); (focus (repeat (first | apply FillO.nil | (apply FillO.cons; (focus constructor); (focus rfl); (focus rfl); (focus (repeat constructor)))))); (focus ((try simp only [Sx.sizes]); first | done | rfl)); (focus rfl))
  refine Lst_abs (fun A => Below w.heap.size w A ∧ Blk A (w.heap.size + 1) ((nms o).map idcs).flatten 24) ⟨Bel, by unfold nms idcs; exact (by (repeat (first | assumption | (apply Blk.below (hb := hb1); rotate_left; (focus ((try simp only [Sx.sizes]); omega)); rotate_right) | (apply Blk.below (hb := hb2); rotate_left; (focus ((try simp only [Sx.sizes]); omega)); rotate_right) | (apply Blk.below (hb := hb3); rotate_left; (focus ((try simp only [Sx.sizes]); omega)); rotate_right) | (apply Blk.below (hb := hb4); rotate_left; (focus ((try simp only [Sx.sizes]); omega)); rotate_right) | (apply Blk.below (hb := hb5); rotate_left; (focus ((try simp only [Sx.sizes]); omega)); rotate_right) | (apply Blk.below (hb := hb6); rotate_left; (focus ((try simp only [Sx.sizes]); omega)); rotate_right) | (apply Blk.below (hb := hb7); rotate_left; (focus ((try simp only [Sx.sizes]); omega)); rotate_right) | (apply Blk.below (hb := hb8); rotate_left; (focus ((try simp only [Sx.sizes]); omega)); rotate_right) | (apply Blk.below (hb := hb9); rotate_left; (focus ((try simp only [Sx.sizes]); omega)); rotate_right) | exact Blk.newE (by first | rfl | ((try simp only [Sx.sizes]); first | done | omega)) _ _ | exact Blk.put_same (by (try simp only [Sx.sizes]); first | done | omega) _ _ | (apply Blk.put_ne; (focus omega)) | apply Blk.alloc | apply Blk.drew)); done)⟩ ?_
  rintro A ⟨bA, kA⟩
  have hrow : SRows A 2 (.slice (some ⟨w.heap.size + 1, 0, none⟩) 5 5) ((nms o).map idcs) := ids_row (nms o) (show 5 ≤ 1000000 by decide) kA
  (refine Ga ?_)
  (apply retQ1; (focus rfl))
  exact ⟨w.heap.size + 1, rfl, hrow, bA⟩
end
end Op
end Go.Proofs.YtifkedhbelflkaaDoor
