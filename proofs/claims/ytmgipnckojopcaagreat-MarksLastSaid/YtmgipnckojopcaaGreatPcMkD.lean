/- Marks: lists of marks told alike. -/
import Derived.Test.YtmgipnckojopcaaGreatPcMkC
import Derived.Test.YtmgipnckojopcaaGreatPcMkO
namespace Go.Proofs.YtmgipnckojopcaaGreat
set_option maxRecDepth 100000
namespace Mk
open Go Go.RowKit Sx Tl Sq Val
abbrev Mk := ByteArray × Vl
/-- Are two marks alike? -/
def sameM (x y : Mk) : Bool := decide (x.1 = y.1) && decide (cmpV x.2 y.2 = 0)
def sameL : List Mk → List Mk → Bool
  | [], [] => true
  | x :: l, y :: m => sameM x y && sameL l m
  | _, _ => false
theorem sameL_len : ∀ {l m : List Mk}, sameL l m = true → l.length = m.length
  | [], [], _ => rfl
  | x :: l, y :: m, h => by
    unfold sameL at h
    rw [Bool.and_eq_true] at h
    rw [List.length_cons, List.length_cons, sameL_len h.2]
  | [], _ :: _, h => by cases h
  | _ :: _, [], h => by cases h
theorem sameL_iff : ∀ {l m : List Mk}, l.length = m.length → (sameL l m = true ↔ ∀ i (h1 : i < l.length) (h2 : i < m.length), sameM l[i] m[i] = true)
  | [], [], _ => ⟨fun _ i h => absurd h (Nat.not_lt_zero _), fun _ => rfl⟩
  | x :: l, y :: m, h => by
    have h' : l.length = m.length := by simpa using h
    unfold sameL
    rw [Bool.and_eq_true, sameL_iff h']
    constructor
    · rintro ⟨h1, h2⟩ i hi hj
      cases i with
      | zero => exact h1
      | succ i => exact h2 i (by simpa using hi) (by simpa using hj)
    · intro h1
      exact ⟨h1 0 (by simp) (by simp), fun i hi hj => h1 (i + 1) (by simpa using hi) (by simpa using hj)⟩
  | [], _ :: _, h => by simp at h
  | _ :: _, [], h => by simp at h
theorem sameL_no {l m : List Mk} {i : Nat} (hl : l.length = m.length) (h1 : i < l.length) (h2 : i < m.length) (h : sameM l[i] m[i] = false) : sameL l m = false := by
  cases e : sameL l m with
  | false => rfl
  | true =>
    have := (sameL_iff hl).1 e i h1 h2
    rw [h] at this
    cases this
theorem sameM_self (x : Mk) : sameM x x = true := by
  unfold sameM
  rw [decide_eq_true rfl, decide_eq_true (cmpV_self x.2)]
  rfl
theorem sameL_self : ∀ l : List Mk, sameL l l = true
  | [] => rfl
  | x :: l => by
    unfold sameL
    rw [sameM_self, sameL_self l]
    rfl
theorem mark_at {w : World} {v1 : Option Addr} {n c : Nat} {us : List Mk} (h : SRows w 5 (.slice v1 n c) (us.map mcs)) {k : Nat} (hk : k < us.length) : ∃ g off, v1 = some ⟨g, off, none⟩ ∧ ∀ A, Below w.heap.size w A → ∀ j u, (mcs us[k])[j]? = some u → A.cell? ⟨g, off + k * 5 + j, none⟩ = some u := by
  obtain ⟨b, off, rfl, _, hc⟩ := h.at (i := k) (by rw [List.length_map]; exact hk)
  refine ⟨b, off, rfl, fun A hA j u hu => cell_below hA (hc j u ?_)⟩
  rw [List.getElem_map]
  exact hu
variable {w : World}
section
attribute [local irreducible] RnS
attribute [local irreducible] W Lst Qst Pu seqQ blkQ rndQ cutQ retQ Does Enters IntKind.wrap bits sb World.alloc World.putObj Blk
set_option maxHeartbeats 1000000 in
theorem c_same1 (x y : Mk) (hx : x.2.Fit) (hy : y.2.Fit) (w : World) : Does Tryz.prog 43 #[.agg (mcs x).toArray, .agg (mcs y).toArray] w fun v w' => v = .bool (sameM x y) ∧ Below w.heap.size w w' := by
  refine Does_of (args := [.agg (mcs x).toArray, .agg (mcs y).toArray]) Tryz.func43 (by kernel_rfl) rfl rfl rfl rfl rfl ?_
  (refine Ga ?_)
  refine Lst_abs (fun A => Below w.heap.size w A ∧ Blk A w.heap.size (mcs x) 57 ∧ Blk A (w.heap.size + 1) (mcs y) 57) ⟨Bel, (by (repeat (first | assumption | (apply Blk.below (hb := hb1); rotate_left; (focus ((try simp only [Sx.sizes]); omega)); rotate_right) | (apply Blk.below (hb := hb2); rotate_left; (focus ((try simp only [Sx.sizes]); omega)); rotate_right) | (apply Blk.below (hb := hb3); rotate_left; (focus ((try simp only [Sx.sizes]); omega)); rotate_right) | (apply Blk.below (hb := hb4); rotate_left; (focus ((try simp only [Sx.sizes]); omega)); rotate_right) | (apply Blk.below (hb := hb5); rotate_left; (focus ((try simp only [Sx.sizes]); omega)); rotate_right) | (apply Blk.below (hb := hb6); rotate_left; (focus ((try simp only [Sx.sizes]); omega)); rotate_right) | (apply Blk.below (hb := hb7); rotate_left; (focus ((try simp only [Sx.sizes]); omega)); rotate_right) | (apply Blk.below (hb := hb8); rotate_left; (focus ((try simp only [Sx.sizes]); omega)); rotate_right) | (apply Blk.below (hb := hb9); rotate_left; (focus ((try simp only [Sx.sizes]); omega)); rotate_right) | exact Blk.newE (by first | rfl | ((try simp only [Sx.sizes]); first | done | omega)) _ _ | exact Blk.put_same (by (try simp only [Sx.sizes]); first | done | omega) _ _ | (apply Blk.put_ne; (focus omega)) | apply Blk.alloc | apply Blk.drew)); done), (by (repeat (first | assumption | (apply Blk.below (hb := hb1); rotate_left; (focus ((try simp only [Sx.sizes]); omega)); rotate_right) | (apply Blk.below (hb := hb2); rotate_left; (focus ((try simp only [Sx.sizes]); omega)); rotate_right) | (apply Blk.below (hb := hb3); rotate_left; (focus ((try simp only [Sx.sizes]); omega)); rotate_right) | (apply Blk.below (hb := hb4); rotate_left; (focus ((try simp only [Sx.sizes]); omega)); rotate_right) | (apply Blk.below (hb := hb5); rotate_left; (focus ((try simp only [Sx.sizes]); omega)); rotate_right) | (apply Blk.below (hb := hb6); rotate_left; (focus ((try simp only [Sx.sizes]); omega)); rotate_right) | (apply Blk.below (hb := hb7); rotate_left; (focus ((try simp only [Sx.sizes]); omega)); rotate_right) | (apply Blk.below (hb := hb8); rotate_left; (focus ((try simp only [Sx.sizes]); omega)); rotate_right) | (apply Blk.below (hb := hb9); rotate_left; (focus ((try simp only [Sx.sizes]); omega)); rotate_right) | exact Blk.newE (by first | rfl | ((try simp only [Sx.sizes]); first | done | omega)) _ _ | exact Blk.put_same (by (try simp only [Sx.sizes]); first | done | omega) _ _ | (apply Blk.put_ne; (focus omega)) | apply Blk.alloc | apply Blk.drew)); done)⟩ ?_
  rintro A ⟨hbA, kx, ky⟩
  have lx := kx.lt
  have ly := ky.lt
  unfold mcs at kx ky
  have hsz := hbA.size
  unfold sameM
  generalize w.heap.size = b0 at *
  by_cases h1 : x.1 = y.1
  · rw [decide_eq_true h1]
    have h1' := h1
    obtain ⟨xk, xv⟩ := x
    obtain ⟨yk, yv⟩ := y
    dsimp only at *
    subst h1'
    (refine Ga ?_)
    (apply Lst_call; (focus rfl); (focus rfl))
    refine (c_Same xv yv hx hy A).mono ?_
    rintro v B ⟨rfl, hbB⟩
    (refine Ga ?_)
    (apply retQ1; (focus rfl))
    exact ⟨rfl, hbA.trans (hbB.mono hsz)⟩
  · rw [decide_eq_false h1]
    (refine Ga ?_)
    (apply retQ1; (focus rfl))
    exact ⟨rfl, hbA⟩
set_option maxHeartbeats 2000000 in
theorem c_EqualFunc (l m : List Mk) (a b : Option Addr) (c d : Nat) (hz : l.length ≤ 1000000) (hl : ∀ q ∈ l, q.2.Fit) (hm : ∀ q ∈ m, q.2.Fit) (w : World) (h : SRows w 5 (.slice a l.length c) (l.map mcs)) (k : SRows w 5 (.slice b m.length d) (m.map mcs)) :
    Does Tryz.prog 42 #[.slice a l.length c, .slice b m.length d, .func (.func 43) #[] #[]] w fun v w' => v = .bool (sameL l m) ∧ Below w.heap.size w w' := by
  refine Does_of (args := [.slice a l.length c, .slice b m.length d, .func (.func 43) #[] #[]]) Tryz.func42 (by kernel_rfl) rfl rfl rfl rfl rfl ?_
  by_cases hlen : l.length = m.length
  · (refine Ga ?_)
    refine W_loop (α := Nat) (fun i => [(1, .slice b m.length d), (2, .func (.func 43) #[] #[]), (15, .slice a l.length c), (16, .int .i64 (l.length : Int)), (17, .int .i64 (i : Int))])
      (fun i A => i ≤ l.length ∧ Below w.heap.size w A ∧ ∀ j (h1 : j < l.length) (h2 : j < m.length), j < i → sameM l[j] m[j] = true) (fun i _ => l.length - i) 0 ⟨Nat.zero_le _, Below.refl _ _, fun j _ _ hj => absurd hj (Nat.not_lt_zero _)⟩ ⟨rfl, rfl, rfl, rfl, rfl, trivial⟩ ?_
    rintro J i A ⟨hi, hbA, hall⟩
    by_cases hil : i < l.length
    · have him : i < m.length := by omega
      obtain ⟨ga, oa, rfl, ca⟩ := mark_at h hil
      obtain ⟨gb, ob, rfl, cb⟩ := mark_at k him
      have ca := ca A hbA
      have fx := hl _ (List.getElem_mem hil)
      have fy := hm _ (List.getElem_mem him)
      have hstep : sameM l[i] m[i] = true → ∀ j (h1 : j < l.length) (h2 : j < m.length), j < i + 1 → sameM l[j] m[j] = true := fun hs j h1 h2 hj => by
        rcases Nat.lt_succ_iff_lt_or_eq.1 hj with hj | rfl
        · exact hall j h1 h2 hj
        · exact hs
      have hno := sameL_no hlen hil him
      obtain ⟨x, hx⟩ : ∃ x, l[i] = x := ⟨_, rfl⟩
      obtain ⟨y, hy⟩ : ∃ y, m[i] = y := ⟨_, rfl⟩
      rw [hx] at ca fx hstep hno
      rw [hy] at cb fy hstep hno
      (refine Ga ?_)
      apply Lst_pu
      · apply P_idxm (j := i)
        focus rfl
        focus rfl
        focus rfl
        focus rfl
        focus rfl
        focus exact hil
      focus rfl
      (refine Ga ?_)
      apply Lst_loadS' (cs := mcs x)
      focus rfl
      focus rfl
      focus rfl
      focus rfl
      focus rfl
      focus exact ca
      focus rfl
      unfold mcs
      (refine Ga ?_)
      refine Lst_abs (fun B => Below A.heap.size A B ∧ Blk B A.heap.size (mcs x) 57) ⟨Bel, (by (repeat (first | assumption | (apply Blk.below (hb := hb1); rotate_left; (focus ((try simp only [Sx.sizes]); omega)); rotate_right) | (apply Blk.below (hb := hb2); rotate_left; (focus ((try simp only [Sx.sizes]); omega)); rotate_right) | (apply Blk.below (hb := hb3); rotate_left; (focus ((try simp only [Sx.sizes]); omega)); rotate_right) | (apply Blk.below (hb := hb4); rotate_left; (focus ((try simp only [Sx.sizes]); omega)); rotate_right) | (apply Blk.below (hb := hb5); rotate_left; (focus ((try simp only [Sx.sizes]); omega)); rotate_right) | (apply Blk.below (hb := hb6); rotate_left; (focus ((try simp only [Sx.sizes]); omega)); rotate_right) | (apply Blk.below (hb := hb7); rotate_left; (focus ((try simp only [Sx.sizes]); omega)); rotate_right) | (apply Blk.below (hb := hb8); rotate_left; (focus ((try simp only [Sx.sizes]); omega)); rotate_right) | (apply Blk.below (hb := hb9); rotate_left; (focus ((try simp only [Sx.sizes]); omega)); rotate_right) | exact Blk.newE (by first | rfl | ((try simp only [Sx.sizes]); first | done | omega)) _ _ | exact Blk.put_same (by (try simp only [Sx.sizes]); first | done | omega) _ _ | (apply Blk.put_ne; (focus omega)) | apply Blk.alloc | apply Blk.drew)); done)⟩ ?_
      rintro B ⟨hbB, kB⟩
      have bB := hbA.trans (hbB.mono hbA.size)
      have cb := cb B bB
      have lB := kB.lt
      have kB' := kB
      (refine Ga ?_)
      apply Lst_pu
      · apply P_idxm (j := i)
        focus rfl
        focus rfl
        focus rfl
        focus rfl
        focus rfl
        focus exact him
      focus rfl
      (refine Ga ?_)
      apply Lst_loadS' (cs := mcs y)
      focus rfl
      focus rfl
      focus rfl
      focus rfl
      focus rfl
      focus exact cb
      focus rfl
      unfold mcs
      (refine Ga ?_)
      refine Lst_abs (fun C => Below B.heap.size B C ∧ Blk C B.heap.size (mcs y) 57) ⟨Bel, (by (repeat (first | assumption | (apply Blk.below (hb := hb1); rotate_left; (focus ((try simp only [Sx.sizes]); omega)); rotate_right) | (apply Blk.below (hb := hb2); rotate_left; (focus ((try simp only [Sx.sizes]); omega)); rotate_right) | (apply Blk.below (hb := hb3); rotate_left; (focus ((try simp only [Sx.sizes]); omega)); rotate_right) | (apply Blk.below (hb := hb4); rotate_left; (focus ((try simp only [Sx.sizes]); omega)); rotate_right) | (apply Blk.below (hb := hb5); rotate_left; (focus ((try simp only [Sx.sizes]); omega)); rotate_right) | (apply Blk.below (hb := hb6); rotate_left; (focus ((try simp only [Sx.sizes]); omega)); rotate_right) | (apply Blk.below (hb := hb7); rotate_left; (focus ((try simp only [Sx.sizes]); omega)); rotate_right) | (apply Blk.below (hb := hb8); rotate_left; (focus ((try simp only [Sx.sizes]); omega)); rotate_right) | (apply Blk.below (hb := hb9); rotate_left; (focus ((try simp only [Sx.sizes]); omega)); rotate_right) | exact Blk.newE (by first | rfl | ((try simp only [Sx.sizes]); first | done | omega)) _ _ | exact Blk.put_same (by (try simp only [Sx.sizes]); first | done | omega) _ _ | (apply Blk.put_ne; (focus omega)) | apply Blk.alloc | apply Blk.drew)); done)⟩ ?_
      rintro C ⟨hbC, kC⟩
      have bC := bB.trans (hbC.mono bB.size)
      have kBC := kB'.below hbC lB
      have lBC := kBC.lt
      have lC := kC.lt
      unfold mcs at kBC kC
      (refine Ga ?_)
      (apply Lst_call; (focus rfl); (focus rfl))
      refine (c_same1 x y fx fy C).mono ?_
      rintro v D ⟨rfl, hbD⟩
      have bD := bC.trans (hbD.mono bC.size)
      cases hs : sameM x y with
      | true =>
        (refine Ga ?_)
        refine rndQ_n (α := Nat) (i + 1) ⟨hil, bD, hstep hs⟩ ⟨rfl, rfl, rfl, rfl, ?_, trivial⟩ (by omega)
        exact congrArg (Value.int .i64) (show (i : Int) + 1 = ((i + 1 : Nat) : Int) by omega)
      | false =>
        (refine Ga ?_)
        (apply retQ1; (focus rfl))
        exact ⟨by rw [hno hs]; rfl, bD⟩
    · obtain rfl : i = l.length := by omega
      (refine Ga ?_)
      (apply retQ1; (focus rfl))
      exact ⟨by rw [(sameL_iff hlen).2 fun j h1 h2 => hall j h1 h2 h1]; rfl, hbA⟩
  · have e : sameL l m = false := by
      cases h : sameL l m with
      | false => rfl
      | true => exact absurd (sameL_len h) hlen
    (refine Ga ?_)
    (apply retQ1; (focus rfl))
    exact ⟨by rw [e]; rfl, Below.refl _ _⟩
theorem c_MSame (l m : List Mk) (a b : Option Addr) (c d : Nat) (hz : l.length ≤ 1000000) (hl : ∀ q ∈ l, q.2.Fit) (hm : ∀ q ∈ m, q.2.Fit) (w : World) (h : SRows w 5 (.slice a l.length c) (l.map mcs)) (k : SRows w 5 (.slice b m.length d) (m.map mcs)) :
    Does Tryz.prog 24 #[.slice a l.length c, .slice b m.length d] w fun v w' => v = .bool (sameL l m) ∧ Below w.heap.size w w' := by
  refine Does_of (args := [.slice a l.length c, .slice b m.length d]) Tryz.func24 (by kernel_rfl) rfl rfl rfl rfl rfl ?_
  (refine Ga ?_)
  (apply Lst_call; (focus rfl); (focus rfl))
  refine (c_EqualFunc l m a b c d hz hl hm w h k).mono ?_
  rintro v A ⟨rfl, hbA⟩
  (refine Ga ?_)
  (apply retQ1; (focus rfl))
  exact ⟨rfl, hbA⟩
set_option maxHeartbeats 2000000 in
theorem r_Same (l m : List Mk) (a b : Option Addr) (c d : Nat) (hz : l.length ≤ 1000000) (hl : ∀ q ∈ l, q.2.Fit) (hm : ∀ q ∈ m, q.2.Fit) (w : World) (h : SRows w 5 (.slice a l.length c) (l.map mcs)) (k : SRows w 5 (.slice b m.length d) (m.map mcs)) :
    Does Tryz.prog 13 #[.slice a l.length c, .slice b m.length d] w fun v w' => v = .bool (sameL l m) ∧ Below w.heap.size w w' := by
  refine Does_of (args := [.slice a l.length c, .slice b m.length d]) Tryz.func13 (by kernel_rfl) rfl rfl rfl rfl rfl ?_
  by_cases hlen : l.length = m.length
  · (refine Ga ?_)
    refine W_loop (α := Nat) (fun i => [(0, .slice a l.length c), (1, .slice b m.length d), (5, .int .i64 (i : Int))])
      (fun i A => i ≤ l.length ∧ Below w.heap.size w A ∧ ∀ j (h1 : j < l.length) (h2 : j < m.length), j < i → sameM l[j] m[j] = true) (fun i _ => l.length - i) 0 ⟨Nat.zero_le _, Below.refl _ _, fun j _ _ hj => absurd hj (Nat.not_lt_zero _)⟩ ⟨rfl, rfl, rfl, trivial⟩ ?_
    rintro J i A ⟨hi, hbA, hall⟩
    by_cases hil : i < l.length
    · have him : i < m.length := by omega
      obtain ⟨ga, oa, rfl, ca⟩ := mark_at h hil
      obtain ⟨gb, ob, rfl, cb⟩ := mark_at k him
      have fx := hl _ (List.getElem_mem hil)
      have fy := hm _ (List.getElem_mem him)
      have hstep : sameM l[i] m[i] = true → ∀ j (h1 : j < l.length) (h2 : j < m.length), j < i + 1 → sameM l[j] m[j] = true := fun hs j h1 h2 hj => by
        rcases Nat.lt_succ_iff_lt_or_eq.1 hj with hj | rfl
        · exact hall j h1 h2 hj
        · exact hs
      have hno := sameL_no hlen hil him
      obtain ⟨x, hx⟩ : ∃ x, l[i] = x := ⟨_, rfl⟩
      obtain ⟨y, hy⟩ : ∃ y, m[i] = y := ⟨_, rfl⟩
      rw [hx] at ca fx hstep hno
      rw [hy] at cb fy hstep hno
      (refine Ga ?_)
      -- printed by gen_mkd.py
      by_cases h1 : x.1 = y.1
      · refine W_drawS 25 (fun B => Below A.heap.size A B) rfl rfl ?_
        refine S_takeV 0 24 rfl (by kernel_rfl) (by repeat (first | exact retQ_p | apply seqQ_p | apply blkQ_p | apply rndQ_p | apply cutQ_p)) (Below.drew (Below.refl A.heap.size A)) ?_
        (refine Qb ?_)
        refine S_takeV 1 23 rfl (by kernel_rfl) (by repeat (first | exact retQ_p | apply seqQ_p | apply blkQ_p | apply rndQ_p | apply cutQ_p)) (Below.drew (Below.refl A.heap.size A)) ?_
        (refine Qb ?_)
        refine S_takeV 2 22 rfl (by kernel_rfl) (by repeat (first | exact retQ_p | apply seqQ_p | apply blkQ_p | apply rndQ_p | apply cutQ_p)) (Below.drew (Below.refl A.heap.size A)) ?_
        apply Qst_pu
        · apply P_idxm (j := i)
          focus rfl
          focus rfl
          focus rfl
          focus rfl
          focus rfl
          focus exact hil
        focus rfl
        (refine Qb ?_)
        refine S_takeV 3 21 rfl (by kernel_rfl) (by repeat (first | exact retQ_p | apply seqQ_p | apply blkQ_p | apply rndQ_p | apply cutQ_p)) (Below.drew (Below.refl A.heap.size A)) ?_
        (refine Qb ?_)
        refine S_takeV 4 20 rfl (by kernel_rfl) (by repeat (first | exact retQ_p | apply seqQ_p | apply blkQ_p | apply rndQ_p | apply cutQ_p)) (Below.drew (Below.refl A.heap.size A)) ?_
        apply Qst_loadc
        focus rfl
        focus rfl
        focus rfl
        focus exact fun B hB => ca B (hbA.trans (Below.mono hB hbA.size)) 0 _ rfl
        focus rfl
        (refine Qb ?_)
        refine S_takeV 5 19 rfl (by kernel_rfl) (by repeat (first | exact retQ_p | apply seqQ_p | apply blkQ_p | apply rndQ_p | apply cutQ_p)) (Below.drew (Below.refl A.heap.size A)) ?_
        (refine Qb ?_)
        refine S_takeV 6 18 rfl (by kernel_rfl) (by repeat (first | exact retQ_p | apply seqQ_p | apply blkQ_p | apply rndQ_p | apply cutQ_p)) (Below.drew (Below.refl A.heap.size A)) ?_
        (refine Qb ?_)
        refine S_takeV 7 17 rfl (by kernel_rfl) (by repeat (first | exact retQ_p | apply seqQ_p | apply blkQ_p | apply rndQ_p | apply cutQ_p)) (Below.drew (Below.refl A.heap.size A)) ?_
        apply Qst_pu
        · apply P_idxm (j := i)
          focus rfl
          focus rfl
          focus rfl
          focus rfl
          focus rfl
          focus exact him
        focus rfl
        (refine Qb ?_)
        refine S_takeV 8 16 rfl (by kernel_rfl) (by repeat (first | exact retQ_p | apply seqQ_p | apply blkQ_p | apply rndQ_p | apply cutQ_p)) (Below.drew (Below.refl A.heap.size A)) ?_
        (refine Qb ?_)
        refine S_takeV 9 15 rfl (by kernel_rfl) (by repeat (first | exact retQ_p | apply seqQ_p | apply blkQ_p | apply rndQ_p | apply cutQ_p)) (Below.drew (Below.refl A.heap.size A)) ?_
        apply Qst_loadc
        focus rfl
        focus rfl
        focus rfl
        focus exact fun B hB => cb B (hbA.trans (Below.mono hB hbA.size)) 0 _ rfl
        focus rfl
        (refine Qb ?_)
        refine S_takeV 10 14 rfl (by kernel_rfl) (by repeat (first | exact retQ_p | apply seqQ_p | apply blkQ_p | apply rndQ_p | apply cutQ_p)) (Below.drew (Below.refl A.heap.size A)) ?_
        (refine Qb ?_)
        refine S_takeV 11 13 rfl (by kernel_rfl) (by repeat (first | exact retQ_p | apply seqQ_p | apply blkQ_p | apply rndQ_p | apply cutQ_p)) (Below.drew (Below.refl A.heap.size A)) ?_
        (refine Qb ?_)
        refine S_takeV 12 12 rfl (by kernel_rfl) (by repeat (first | exact retQ_p | apply seqQ_p | apply blkQ_p | apply rndQ_p | apply cutQ_p)) (Below.drew (Below.refl A.heap.size A)) ?_
        (refine Qb ?_)
        refine S_takeV 13 11 rfl (by kernel_rfl) (by repeat (first | exact retQ_p | apply seqQ_p | apply blkQ_p | apply rndQ_p | apply cutQ_p)) (Below.drew (Below.refl A.heap.size A)) ?_
        (refine Qb ?_)
        refine S_takeV 14 10 rfl (by kernel_rfl) (by repeat (first | exact retQ_p | apply seqQ_p | apply blkQ_p | apply rndQ_p | apply cutQ_p)) (Below.drew (Below.refl A.heap.size A)) ?_
        apply Qst_guard_t
        focus rfl
        focus rfl
        apply Qst_pu
        · apply P_idxm (j := i)
          focus rfl
          focus rfl
          focus rfl
          focus rfl
          focus rfl
          focus exact hil
        focus rfl
        (refine Qb ?_)
        refine S_takeV 15 9 rfl (by kernel_rfl) (by repeat (first | exact retQ_p | apply seqQ_p | apply blkQ_p | apply rndQ_p | apply cutQ_p)) (Below.drew (Below.refl A.heap.size A)) ?_
        (refine Qb ?_)
        refine S_takeV 16 8 rfl (by kernel_rfl) (by repeat (first | exact retQ_p | apply seqQ_p | apply blkQ_p | apply rndQ_p | apply cutQ_p)) (Below.drew (Below.refl A.heap.size A)) ?_
        apply Qst_guard_t
        focus rfl
        focus rfl
        apply Qst_loadS (cs := [.int .i64 x.2.k, .int .i64 x.2.n, .float .f64 x.2.f, .string x.2.s])
        focus rfl
        focus rfl
        focus rfl
        focus rfl
        focus rfl
        focus exact fun B hB j u hu => (show B.cell? ⟨ga, oa + i * 5 + 1 + j, none⟩ = some u by
          have := ca B (hbA.trans (Below.mono hB hbA.size)) (j + 1) u hu
          rwa [show oa + i * 5 + (j + 1) = oa + i * 5 + 1 + j by omega] at this)
        focus rfl
        (refine Qb ?_)
        refine S_takeV 17 7 rfl (by kernel_rfl) (by repeat (first | exact retQ_p | apply seqQ_p | apply blkQ_p | apply rndQ_p | apply cutQ_p)) (Below.drew (Below.refl A.heap.size A)) ?_
        (refine Qb ?_)
        refine S_takeV 18 6 rfl (by kernel_rfl) (by repeat (first | exact retQ_p | apply seqQ_p | apply blkQ_p | apply rndQ_p | apply cutQ_p)) (Below.drew (Below.refl A.heap.size A)) ?_
        (refine Qb ?_)
        refine S_takeV 19 5 rfl (by kernel_rfl) (by repeat (first | exact retQ_p | apply seqQ_p | apply blkQ_p | apply rndQ_p | apply cutQ_p)) (Below.drew (Below.refl A.heap.size A)) ?_
        apply Qst_guard_t
        focus rfl
        focus rfl
        apply Qst_pu
        · apply P_idxm (j := i)
          focus rfl
          focus rfl
          focus rfl
          focus rfl
          focus rfl
          focus exact him
        focus rfl
        (refine Qb ?_)
        refine S_takeV 20 4 rfl (by kernel_rfl) (by repeat (first | exact retQ_p | apply seqQ_p | apply blkQ_p | apply rndQ_p | apply cutQ_p)) (Below.drew (Below.refl A.heap.size A)) ?_
        (refine Qb ?_)
        refine S_takeV 21 3 rfl (by kernel_rfl) (by repeat (first | exact retQ_p | apply seqQ_p | apply blkQ_p | apply rndQ_p | apply cutQ_p)) (Below.drew (Below.refl A.heap.size A)) ?_
        apply Qst_guard_t
        focus rfl
        focus rfl
        apply Qst_loadS (cs := [.int .i64 y.2.k, .int .i64 y.2.n, .float .f64 y.2.f, .string y.2.s])
        focus rfl
        focus rfl
        focus rfl
        focus rfl
        focus rfl
        focus exact fun B hB j u hu => (show B.cell? ⟨gb, ob + i * 5 + 1 + j, none⟩ = some u by
          have := cb B (hbA.trans (Below.mono hB hbA.size)) (j + 1) u hu
          rwa [show ob + i * 5 + (j + 1) = ob + i * 5 + 1 + j by omega] at this)
        focus rfl
        (refine Qb ?_)
        refine S_any [22] 2 rfl (by kernel_rfl) (all1 ?_)
        (refine Ga ?_)
        (apply Lst_call; (focus rfl); (focus rfl))
        refine (r_Cmp x.2 y.2 fx fy _).mono ?_
        rintro v B ⟨rfl, hbB⟩
        have hbB2 : Below A.heap.size A B := Below.trans (Below.drew (Below.refl A.heap.size A)) hbB
        apply Lst_nil
        apply rnQ_n
        refine ⟨hbB2, ?_⟩
        have bB := hbA.trans (hbB2.mono hbA.size)
        have hsd : sameM x y = decide (cmpV x.2 y.2 = 0) := by
          unfold sameM
          rw [decide_eq_true h1]
          rfl
        by_cases h2 : cmpV x.2 y.2 = 0
        · have hs : sameM x y = true := by rw [hsd]; exact decide_eq_true h2
          refine S_takeV 23 1 rfl (by kernel_rfl) (by repeat (first | exact retQ_p | apply seqQ_p | apply blkQ_p | apply rndQ_p | apply cutQ_p)) hbB2 ?_
          (refine Qb ?_)
          refine S_takeV 24 0 rfl (by kernel_rfl) (by repeat (first | exact retQ_p | apply seqQ_p | apply blkQ_p | apply rndQ_p | apply cutQ_p)) hbB2 ?_
          (refine Qb ?_)
          refine S_done (by kernel_rfl) ?_
          (refine Ga ?_)
          refine rndQ_n (α := Nat) (i + 1) ⟨hil, bB, hstep hs⟩ ⟨rfl, rfl, ?_, trivial⟩ (by omega)
          exact congrArg (Value.int .i64) (by omega)
        · have hs : sameM x y = false := by rw [hsd]; exact decide_eq_false h2
          refine S_takeV 23 1 rfl (by kernel_rfl) (by repeat (first | exact retQ_p | apply seqQ_p | apply blkQ_p | apply rndQ_p | apply cutQ_p)) hbB2 ?_
          (refine Qb ?_)
          refine S_takeV 24 0 rfl (by kernel_rfl) (by repeat (first | exact retQ_p | apply seqQ_p | apply blkQ_p | apply rndQ_p | apply cutQ_p)) hbB2 ?_
          (refine Qb ?_)
          refine S_done (by kernel_rfl) ?_
          (refine Ga ?_)
          (apply retQ1; (focus rfl))
          exact ⟨by rw [hno hs]; rfl, bB⟩
      · refine W_drawS 25 (fun B => Below A.heap.size A B) rfl rfl ?_
        refine S_takeV 0 24 rfl (by kernel_rfl) (by repeat (first | exact retQ_p | apply seqQ_p | apply blkQ_p | apply rndQ_p | apply cutQ_p)) (Below.drew (Below.refl A.heap.size A)) ?_
        (refine Qb ?_)
        refine S_takeV 1 23 rfl (by kernel_rfl) (by repeat (first | exact retQ_p | apply seqQ_p | apply blkQ_p | apply rndQ_p | apply cutQ_p)) (Below.drew (Below.refl A.heap.size A)) ?_
        (refine Qb ?_)
        refine S_takeV 2 22 rfl (by kernel_rfl) (by repeat (first | exact retQ_p | apply seqQ_p | apply blkQ_p | apply rndQ_p | apply cutQ_p)) (Below.drew (Below.refl A.heap.size A)) ?_
        apply Qst_pu
        · apply P_idxm (j := i)
          focus rfl
          focus rfl
          focus rfl
          focus rfl
          focus rfl
          focus exact hil
        focus rfl
        (refine Qb ?_)
        refine S_takeV 3 21 rfl (by kernel_rfl) (by repeat (first | exact retQ_p | apply seqQ_p | apply blkQ_p | apply rndQ_p | apply cutQ_p)) (Below.drew (Below.refl A.heap.size A)) ?_
        (refine Qb ?_)
        refine S_takeV 4 20 rfl (by kernel_rfl) (by repeat (first | exact retQ_p | apply seqQ_p | apply blkQ_p | apply rndQ_p | apply cutQ_p)) (Below.drew (Below.refl A.heap.size A)) ?_
        apply Qst_loadc
        focus rfl
        focus rfl
        focus rfl
        focus exact fun B hB => ca B (hbA.trans (Below.mono hB hbA.size)) 0 _ rfl
        focus rfl
        (refine Qb ?_)
        refine S_takeV 5 19 rfl (by kernel_rfl) (by repeat (first | exact retQ_p | apply seqQ_p | apply blkQ_p | apply rndQ_p | apply cutQ_p)) (Below.drew (Below.refl A.heap.size A)) ?_
        (refine Qb ?_)
        refine S_takeV 6 18 rfl (by kernel_rfl) (by repeat (first | exact retQ_p | apply seqQ_p | apply blkQ_p | apply rndQ_p | apply cutQ_p)) (Below.drew (Below.refl A.heap.size A)) ?_
        (refine Qb ?_)
        refine S_takeV 7 17 rfl (by kernel_rfl) (by repeat (first | exact retQ_p | apply seqQ_p | apply blkQ_p | apply rndQ_p | apply cutQ_p)) (Below.drew (Below.refl A.heap.size A)) ?_
        apply Qst_pu
        · apply P_idxm (j := i)
          focus rfl
          focus rfl
          focus rfl
          focus rfl
          focus rfl
          focus exact him
        focus rfl
        (refine Qb ?_)
        refine S_takeV 8 16 rfl (by kernel_rfl) (by repeat (first | exact retQ_p | apply seqQ_p | apply blkQ_p | apply rndQ_p | apply cutQ_p)) (Below.drew (Below.refl A.heap.size A)) ?_
        (refine Qb ?_)
        refine S_takeV 9 15 rfl (by kernel_rfl) (by repeat (first | exact retQ_p | apply seqQ_p | apply blkQ_p | apply rndQ_p | apply cutQ_p)) (Below.drew (Below.refl A.heap.size A)) ?_
        apply Qst_loadc
        focus rfl
        focus rfl
        focus rfl
        focus exact fun B hB => cb B (hbA.trans (Below.mono hB hbA.size)) 0 _ rfl
        focus rfl
        (refine Qb ?_)
        refine S_takeV 10 14 rfl (by kernel_rfl) (by repeat (first | exact retQ_p | apply seqQ_p | apply blkQ_p | apply rndQ_p | apply cutQ_p)) (Below.drew (Below.refl A.heap.size A)) ?_
        (refine Qb ?_)
        refine S_takeV 11 13 rfl (by kernel_rfl) (by repeat (first | exact retQ_p | apply seqQ_p | apply blkQ_p | apply rndQ_p | apply cutQ_p)) (Below.drew (Below.refl A.heap.size A)) ?_
        (refine Qb ?_)
        refine S_takeV 12 12 rfl (by kernel_rfl) (by repeat (first | exact retQ_p | apply seqQ_p | apply blkQ_p | apply rndQ_p | apply cutQ_p)) (Below.drew (Below.refl A.heap.size A)) ?_
        (refine Qb ?_)
        refine S_takeV 13 11 rfl (by kernel_rfl) (by repeat (first | exact retQ_p | apply seqQ_p | apply blkQ_p | apply rndQ_p | apply cutQ_p)) (Below.drew (Below.refl A.heap.size A)) ?_
        (refine Qb ?_)
        refine S_takeV 14 10 rfl (by kernel_rfl) (by repeat (first | exact retQ_p | apply seqQ_p | apply blkQ_p | apply rndQ_p | apply cutQ_p)) (Below.drew (Below.refl A.heap.size A)) ?_
        (refine Qb ?_)
        refine S_takeV 15 9 rfl (by kernel_rfl) (by repeat (first | exact retQ_p | apply seqQ_p | apply blkQ_p | apply rndQ_p | apply cutQ_p)) (Below.drew (Below.refl A.heap.size A)) ?_
        (refine Qb ?_)
        refine S_takeV 16 8 rfl (by kernel_rfl) (by repeat (first | exact retQ_p | apply seqQ_p | apply blkQ_p | apply rndQ_p | apply cutQ_p)) (Below.drew (Below.refl A.heap.size A)) ?_
        (refine Qb ?_)
        refine S_takeV 17 7 rfl (by kernel_rfl) (by repeat (first | exact retQ_p | apply seqQ_p | apply blkQ_p | apply rndQ_p | apply cutQ_p)) (Below.drew (Below.refl A.heap.size A)) ?_
        (refine Qb ?_)
        refine S_takeV 18 6 rfl (by kernel_rfl) (by repeat (first | exact retQ_p | apply seqQ_p | apply blkQ_p | apply rndQ_p | apply cutQ_p)) (Below.drew (Below.refl A.heap.size A)) ?_
        (refine Qb ?_)
        refine S_takeV 19 5 rfl (by kernel_rfl) (by repeat (first | exact retQ_p | apply seqQ_p | apply blkQ_p | apply rndQ_p | apply cutQ_p)) (Below.drew (Below.refl A.heap.size A)) ?_
        (refine Qb ?_)
        refine S_takeV 20 4 rfl (by kernel_rfl) (by repeat (first | exact retQ_p | apply seqQ_p | apply blkQ_p | apply rndQ_p | apply cutQ_p)) (Below.drew (Below.refl A.heap.size A)) ?_
        (refine Qb ?_)
        refine S_takeV 21 3 rfl (by kernel_rfl) (by repeat (first | exact retQ_p | apply seqQ_p | apply blkQ_p | apply rndQ_p | apply cutQ_p)) (Below.drew (Below.refl A.heap.size A)) ?_
        (refine Qb ?_)
        refine S_any [22] 2 rfl (by kernel_rfl) (all1 ?_)
        (refine Ga ?_)
        apply rnQ_n
        refine ⟨(Below.drew (Below.refl A.heap.size A)), ?_⟩
        refine S_takeV 23 1 rfl (by kernel_rfl) (by repeat (first | exact retQ_p | apply seqQ_p | apply blkQ_p | apply rndQ_p | apply cutQ_p)) (Below.drew (Below.refl A.heap.size A)) ?_
        (refine Qb ?_)
        refine S_takeV 24 0 rfl (by kernel_rfl) (by repeat (first | exact retQ_p | apply seqQ_p | apply blkQ_p | apply rndQ_p | apply cutQ_p)) (Below.drew (Below.refl A.heap.size A)) ?_
        (refine Qb ?_)
        refine S_done (by kernel_rfl) ?_
        have hs : sameM x y = false := by
          unfold sameM
          rw [decide_eq_false h1]
          rfl
        (refine Ga ?_)
        (apply retQ1; (focus rfl))
        exact ⟨by rw [hno hs]; rfl, hbA.trans (Below.mono (Below.drew (Below.refl A.heap.size A)) hbA.size)⟩
      -- end of the print
    · obtain rfl : i = l.length := by omega
      (refine Ga ?_)
      (apply retQ1; (focus rfl))
      exact ⟨by rw [(sameL_iff hlen).2 fun j h1 h2 => hall j h1 h2 h1]; rfl, hbA⟩
  · have e : sameL l m = false := by
      cases h : sameL l m with
      | false => rfl
      | true => exact absurd (sameL_len h) hlen
    (refine Ga ?_)
    (apply retQ1; (focus rfl))
    exact ⟨by rw [e]; rfl, Below.refl _ _⟩
end
end Mk
end Go.Proofs.YtmgipnckojopcaaGreat
