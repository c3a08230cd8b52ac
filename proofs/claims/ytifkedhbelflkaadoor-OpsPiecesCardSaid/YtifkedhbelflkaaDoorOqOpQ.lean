/- The stable sort of any number of operations. -/
import Derived.Test.YtifkedhbelflkaaDoorOqOpP
namespace Go.Proofs.YtifkedhbelflkaaDoor
set_option maxRecDepth 100000
namespace Op
open Go Go.RowKit Sx Tl Val
open Utf (rs tl Tabs cutS)
section
attribute [local irreducible] RnS
attribute [local irreducible] W Lst Qst Pu seqQ blkQ rndQ cutQ retQ Does Enters IntKind.wrap bits sb World.alloc World.putObj Blk
set_option maxHeartbeats 4000000 in
theorem c_swapRange (v1 : Option Addr) (n v3 B : Nat) (hn : n ≤ 1000000) (a b k : Nat) (hab : a + k ≤ b) (hbn : b + k ≤ n) (l0 : List Mo) (w : World) (ho : OwnO B w (.slice v1 n v3) l0) (hl0 : l0.length = n) (hd : Dis (fid l0) n) :
    Does Tryd.prog 90 #[.slice v1 n v3, .int .i64 (a : Int), .int .i64 (b : Int), .int .i64 (k : Int), .func (.func 32) #[] #[]] w fun v w' => v = .tuple #[] ∧ (∃ l, OwnO B w' (.slice v1 n v3) l ∧ Same' l0 l ∧ fid l = swr (fid l0) a b k) ∧ Below B w w' := by
  refine Does_of (args := [.slice v1 n v3, .int .i64 (a : Int), .int .i64 (b : Int), .int .i64 (k : Int), .func (.func 32) #[] #[]]) Tryd.func90 (by kernel_rfl) rfl rfl rfl rfl rfl ?_
  (refine Ga ?_)
  refine W_loop (α := Nat) (fun i => [(0, .slice v1 n v3), (1, .int .i64 (a : Int)), (2, .int .i64 (b : Int)), (3, .int .i64 (k : Int)), (10, .int .i64 (i : Int))])
    (fun i A => i ≤ k ∧ ∃ l, OwnO B A (.slice v1 n v3) l ∧ Same' l0 l ∧ fid l = swr (fid l0) a b i ∧ Below B w A) (fun i _ => k - i) 0 ⟨Nat.zero_le _, l0, ho, ⟨rfl, fun _ => Iff.rfl, by rw [hl0]; exact hd⟩, (swr_zero _ _ _).symm, Below.refl _ _⟩ ⟨rfl, rfl, rfl, rfl, rfl, trivial⟩ ?_
  rintro J i A ⟨hik, l, hoA, hsm, hfid, bA⟩
  have hlen := hsm.len.trans hl0
  by_cases hil : i < k
  · skip
    obtain ⟨g1, cap, l1, e1, _, hgB, kl, hl1, hset⟩ := own_setR0 (w := A.drew) (ls := l.map ocs) (nn := n) (by have h9 := hoA; unfold OwnO at h9; rw [hlen] at h9; exact own_drew h9) (ocs_len _) (by decide) (k := a+i) (by rw [List.length_map]; omega)
    cases e1
    obtain ⟨h1', h2', e', _, hcP⟩ := hoA.rows.at (i := a+i) (by rw [List.length_map]; omega)
    cases e'
    obtain ⟨h1', h2', e', _, hcQ⟩ := hoA.rows.at (i := b+i) (by rw [List.length_map]; omega)
    cases e'
    rw [List.getElem_map] at hcP hcQ
    have hfs := fid_swap (l := l) (i := a+i) (k := b+i) (by omega) (by omega)
    have hss := hsm.swap (i := a+i) (k := b+i) (by omega) (by omega)
    obtain ⟨mP, hmP⟩ : ∃ x9, l[a+i]'(by omega) = x9 := ⟨_, rfl⟩
    obtain ⟨mQ, hmQ⟩ : ∃ x9, l[b+i]'(by omega) = x9 := ⟨_, rfl⟩
    rw [hmP] at hcP hfs hss
    rw [hmQ] at hcQ hfs hss
    (refine Ga ?_)
    refine W_drawS 24 (fun _ => True) rfl rfl ?_
    have hS := trivial
    refine S_takeV 0 23 rfl (by kernel_rfl) (by repeat (first | exact retQ_p | apply seqQ_p | apply blkQ_p | apply rndQ_p | apply cutQ_p)) hS ?_
    (refine Qb ?_)
    refine S_takeV 1 22 rfl (by kernel_rfl) (by repeat (first | exact retQ_p | apply seqQ_p | apply blkQ_p | apply rndQ_p | apply cutQ_p)) hS ?_
    (refine Qb ?_)
    refine S_takeV 2 21 rfl (by kernel_rfl) (by repeat (first | exact retQ_p | apply seqQ_p | apply blkQ_p | apply rndQ_p | apply cutQ_p)) hS ?_
    (refine Qb ?_)
    refine S_takeV 3 20 rfl (by kernel_rfl) (by repeat (first | exact retQ_p | apply seqQ_p | apply blkQ_p | apply rndQ_p | apply cutQ_p)) hS ?_
    (refine Qb ?_)
    refine S_takeV 4 19 rfl (by kernel_rfl) (by repeat (first | exact retQ_p | apply seqQ_p | apply blkQ_p | apply rndQ_p | apply cutQ_p)) hS ?_
    (refine Qb ?_)
    refine S_takeV 5 18 rfl (by kernel_rfl) (by repeat (first | exact retQ_p | apply seqQ_p | apply blkQ_p | apply rndQ_p | apply cutQ_p)) hS ?_
    (refine Qb ?_)
    refine S_takeV 6 17 rfl (by kernel_rfl) (by repeat (first | exact retQ_p | apply seqQ_p | apply blkQ_p | apply rndQ_p | apply cutQ_p)) hS ?_
    (refine Qb ?_)
    refine S_takeV 7 16 rfl (by kernel_rfl) (by repeat (first | exact retQ_p | apply seqQ_p | apply blkQ_p | apply rndQ_p | apply cutQ_p)) hS ?_
    (refine Qb ?_)
    refine S_takeV 8 15 rfl (by kernel_rfl) (by repeat (first | exact retQ_p | apply seqQ_p | apply blkQ_p | apply rndQ_p | apply cutQ_p)) hS ?_
    (refine Qb ?_)
    refine S_takeV 9 14 rfl (by kernel_rfl) (by repeat (first | exact retQ_p | apply seqQ_p | apply blkQ_p | apply rndQ_p | apply cutQ_p)) hS ?_
    (refine Qb ?_)
    refine S_takeV 10 13 rfl (by kernel_rfl) (by repeat (first | exact retQ_p | apply seqQ_p | apply blkQ_p | apply rndQ_p | apply cutQ_p)) hS ?_
    (refine Qb ?_)
    refine S_takeV 11 12 rfl (by kernel_rfl) (by repeat (first | exact retQ_p | apply seqQ_p | apply blkQ_p | apply rndQ_p | apply cutQ_p)) hS ?_
    (refine Qb ?_)
    refine S_takeV 12 11 rfl (by kernel_rfl) (by repeat (first | exact retQ_p | apply seqQ_p | apply blkQ_p | apply rndQ_p | apply cutQ_p)) hS ?_
    apply Qst_pu
    · apply P_idxm (j := b+i) (sz := 22)
      focus rfl
      focus rfl
      focus rfl
      focus rfl
      focus rfl
      focus omega
    focus rfl
    (refine Qb ?_)
    refine S_takeV 14 10 rfl (by kernel_rfl) (by repeat (first | exact retQ_p | apply seqQ_p | apply blkQ_p | apply rndQ_p | apply cutQ_p)) hS ?_
    (refine Qb ?_)
    refine S_takeV 15 9 rfl (by kernel_rfl) (by repeat (first | exact retQ_p | apply seqQ_p | apply blkQ_p | apply rndQ_p | apply cutQ_p)) hS ?_
    (refine Qb ?_)
    refine S_takeV 16 8 rfl (by kernel_rfl) (by repeat (first | exact retQ_p | apply seqQ_p | apply blkQ_p | apply rndQ_p | apply cutQ_p)) hS ?_
    (refine Qb ?_)
    refine S_takeV 17 7 rfl (by kernel_rfl) (by repeat (first | exact retQ_p | apply seqQ_p | apply blkQ_p | apply rndQ_p | apply cutQ_p)) hS ?_
    (refine Qb ?_)
    refine S_takeV 18 6 rfl (by kernel_rfl) (by repeat (first | exact retQ_p | apply seqQ_p | apply blkQ_p | apply rndQ_p | apply cutQ_p)) hS ?_
    apply Qst_pu
    · apply P_idxm (j := a+i) (sz := 22)
      focus rfl
      focus rfl
      focus rfl
      focus rfl
      focus rfl
      focus omega
    focus rfl
    (refine Qb ?_)
    refine S_any [13, 19] 5 rfl (by kernel_rfl) (all2 ?_ ?_)
    · skip
      apply Lst_loadS' (cs := ocs mQ)
      focus rfl
      focus rfl
      focus rfl
      focus rfl
      focus rfl
      focus exact hcQ
      focus rfl
      apply Lst_nil
      apply rnQ_n
      refine ⟨trivial, ?_⟩
      refine S_any [19] 4 rfl (by kernel_rfl) (all1 ?_)
      apply Lst_loadS' (cs := ocs mP)
      focus rfl
      focus rfl
      focus rfl
      focus rfl
      focus rfl
      focus exact hcP
      focus rfl
      apply Lst_nil
      apply rnQ_n
      refine ⟨trivial, ?_⟩
      refine S_any [20] 3 rfl (by kernel_rfl) (all1 ?_)
      apply Lst_pu
      · apply P_idxm (j := a+i) (sz := 22)
        focus rfl
        focus rfl
        focus rfl
        focus rfl
        focus rfl
        focus omega
      focus rfl
      apply Lst_nil
      apply rnQ_n
      refine ⟨trivial, ?_⟩
      refine S_any [21] 2 rfl (by kernel_rfl) (all1 ?_)
      apply Lst_storeM (vs := ocs mQ) (hb := kl)
      focus rfl
      focus rfl
      focus rfl
      focus rfl
      focus exact fun u hu => ocs_one [mQ] u (by simpa using hu)
      focus exact hl1
      apply Lst_nil
      apply rnQ_n
      refine ⟨trivial, ?_⟩
      have ho1 := hset (ocs mQ) rfl
      rw [← List.map_set] at ho1
      have hn1 : (l.set (a+i) mQ).length = n := by rw [List.length_set, hlen]
      obtain ⟨g2, cap2, l2, e2, _, _, kl2, hl2, hset2⟩ := own_setR0 ho1 (ocs_len _) (by decide) (k := b+i) (by rw [List.length_map, hn1]; omega)
      cases e2
      have ho2 := hset2 (ocs mP) rfl
      rw [← List.map_set] at ho2
      have hn2 : ((l.set (a+i) mQ).set (b+i) mP).length = n := by rw [List.length_set, hn1]
      refine S_any [22] 1 rfl (by kernel_rfl) (all1 ?_)
      apply Lst_pu
      · apply P_idxm (j := b+i) (sz := 22)
        focus rfl
        focus rfl
        focus rfl
        focus rfl
        focus rfl
        focus omega
      focus rfl
      apply Lst_nil
      apply rnQ_n
      refine ⟨trivial, ?_⟩
      refine S_any [23] 0 rfl (by kernel_rfl) (all1 ?_)
      apply Lst_storeM (vs := ocs mP) (hb := kl2)
      focus rfl
      focus rfl
      focus rfl
      focus rfl
      focus exact fun u hu => ocs_one [mP] u (by simpa using hu)
      focus exact hl2
      apply Lst_nil
      apply rnQ_n
      refine ⟨trivial, ?_⟩
      refine S_done (by kernel_rfl) ?_
      (refine Ga ?_)
      refine rndQ_n (α := Nat) (i + 1) ⟨hil, (l.set (a+i) mQ).set (b+i) mP, (by unfold OwnO; rw [hn2]; exact ho2), hss, by rw [hfs, hfid, swr_step _ (by omega)], (Sx.Below.put (Sx.Below.put (Below.drew bA) hgB _) hgB _)⟩ ⟨rfl, rfl, rfl, rfl, ?_, trivial⟩ (by omega)
      exact congrArg (Value.int .i64) (by omega)
    · skip
      apply Lst_loadS' (cs := ocs mP)
      focus rfl
      focus rfl
      focus rfl
      focus rfl
      focus rfl
      focus exact hcP
      focus rfl
      apply Lst_nil
      apply rnQ_n
      refine ⟨trivial, ?_⟩
      refine S_any [13] 4 rfl (by kernel_rfl) (all1 ?_)
      apply Lst_loadS' (cs := ocs mQ)
      focus rfl
      focus rfl
      focus rfl
      focus rfl
      focus rfl
      focus exact hcQ
      focus rfl
      apply Lst_nil
      apply rnQ_n
      refine ⟨trivial, ?_⟩
      refine S_any [20] 3 rfl (by kernel_rfl) (all1 ?_)
      apply Lst_pu
      · apply P_idxm (j := a+i) (sz := 22)
        focus rfl
        focus rfl
        focus rfl
        focus rfl
        focus rfl
        focus omega
      focus rfl
      apply Lst_nil
      apply rnQ_n
      refine ⟨trivial, ?_⟩
      refine S_any [21] 2 rfl (by kernel_rfl) (all1 ?_)
      apply Lst_storeM (vs := ocs mQ) (hb := kl)
      focus rfl
      focus rfl
      focus rfl
      focus rfl
      focus exact fun u hu => ocs_one [mQ] u (by simpa using hu)
      focus exact hl1
      apply Lst_nil
      apply rnQ_n
      refine ⟨trivial, ?_⟩
      have ho1 := hset (ocs mQ) rfl
      rw [← List.map_set] at ho1
      have hn1 : (l.set (a+i) mQ).length = n := by rw [List.length_set, hlen]
      obtain ⟨g2, cap2, l2, e2, _, _, kl2, hl2, hset2⟩ := own_setR0 ho1 (ocs_len _) (by decide) (k := b+i) (by rw [List.length_map, hn1]; omega)
      cases e2
      have ho2 := hset2 (ocs mP) rfl
      rw [← List.map_set] at ho2
      have hn2 : ((l.set (a+i) mQ).set (b+i) mP).length = n := by rw [List.length_set, hn1]
      refine S_any [22] 1 rfl (by kernel_rfl) (all1 ?_)
      apply Lst_pu
      · apply P_idxm (j := b+i) (sz := 22)
        focus rfl
        focus rfl
        focus rfl
        focus rfl
        focus rfl
        focus omega
      focus rfl
      apply Lst_nil
      apply rnQ_n
      refine ⟨trivial, ?_⟩
      refine S_any [23] 0 rfl (by kernel_rfl) (all1 ?_)
      apply Lst_storeM (vs := ocs mP) (hb := kl2)
      focus rfl
      focus rfl
      focus rfl
      focus rfl
      focus exact fun u hu => ocs_one [mP] u (by simpa using hu)
      focus exact hl2
      apply Lst_nil
      apply rnQ_n
      refine ⟨trivial, ?_⟩
      refine S_done (by kernel_rfl) ?_
      (refine Ga ?_)
      refine rndQ_n (α := Nat) (i + 1) ⟨hil, (l.set (a+i) mQ).set (b+i) mP, (by unfold OwnO; rw [hn2]; exact ho2), hss, by rw [hfs, hfid, swr_step _ (by omega)], (Sx.Below.put (Sx.Below.put (Below.drew bA) hgB _) hgB _)⟩ ⟨rfl, rfl, rfl, rfl, ?_, trivial⟩ (by omega)
      exact congrArg (Value.int .i64) (by omega)
  · obtain rfl : i = k := by omega
    (refine Ga ?_)
    apply retQ0n
    exact ⟨rfl, ⟨l, hoA, hsm, hfid⟩, bA⟩
set_option maxHeartbeats 4000000 in
theorem c_rotate (v1 : Option Addr) (n v3 B : Nat) (hn : n ≤ 1000000) (a m b : Nat) (ham : a < m) (hmb : m < b) (hbn : b ≤ n) (l0 : List Mo) (w : World) (ho : OwnO B w (.slice v1 n v3) l0) (hl0 : l0.length = n) (hd : Dis (fid l0) n) :
    Does Tryd.prog 80 #[.slice v1 n v3, .int .i64 (a : Int), .int .i64 (m : Int), .int .i64 (b : Int), .func (.func 32) #[] #[]] w fun v w' => v = .tuple #[] ∧ (∃ l, OwnO B w' (.slice v1 n v3) l ∧ Same' l0 l ∧ fid l = rot (fid l0) a m b) ∧ Below B w w' := by
  refine Does_of (args := [.slice v1 n v3, .int .i64 (a : Int), .int .i64 (m : Int), .int .i64 (b : Int), .func (.func 32) #[] #[]]) Tryd.func80 (by kernel_rfl) rfl rfl rfl rfl rfl ?_
  (refine Ga ?_)
  refine W_loop (α := Nat × Nat) (fun x => [(0, .slice v1 n v3), (1, .int .i64 (a : Int)), (2, .int .i64 (m : Int)), (3, .int .i64 (b : Int)), (4, .func (.func 32) #[] #[]), (10, .int .i64 (x.1 : Int)), (11, .int .i64 (x.2 : Int))])
    (fun x A => 1 ≤ x.1 ∧ 1 ≤ x.2 ∧ x.1 ≤ m ∧ m + x.2 ≤ n ∧ ∃ l, OwnO B A (.slice v1 n v3) l ∧ Same' l0 l ∧ rot (fid l) (m - x.1) m (m + x.2) = rot (fid l0) a m b ∧ Below B w A) (fun x _ => x.1 + x.2) (m - a, b - m) ⟨by dsimp only; omega, by dsimp only; omega, by dsimp only; omega, by dsimp only; omega, l0, ho, ⟨rfl, fun _ => Iff.rfl, by rw [hl0]; exact hd⟩, by dsimp only; rw [show m - (m - a) = a by omega, show m + (b - m) = b by omega], Below.refl _ _⟩ ⟨rfl, rfl, rfl, rfl, rfl, ?_, ?_, trivial⟩ ?_
  · exact congrArg (Value.int .i64) (by dsimp only; omega)
  · exact congrArg (Value.int .i64) (by dsimp only; omega)
  rintro J ⟨i, j⟩ A ⟨hi1, hj1, him, hjn, l, hoA, hsm, hfid, bA⟩
  dsimp only at hi1 hj1 him hjn hfid ⊢
  have hlen := hsm.len.trans hl0
  have hmi : (m : Int) - (i : Int) = ((m - i : Nat) : Int) := by omega
  by_cases hij : i = j
  · (refine Ga ?_)
    rw [hmi]
    (apply Lst_call; (focus rfl); (focus rfl))
    refine (c_swapRange v1 n v3 B hn (m - i) (m) (i) (by omega) (by omega) l A hoA hlen (by have := hsm.dis; rw [hlen] at this; exact this)).mono ?_
    rintro v C ⟨rfl, ⟨l', hoC, hsm', hfid'⟩, hC⟩
    have bC := bA.trans hC
    have hsC := hsm.trans hsm'
    (refine Ga ?_)
    apply retQ0n
    refine ⟨rfl, ⟨l', hoC, hsC, ?_⟩, bC⟩
    rw [hfid', rot_eq _ him, ← hfid, hij]
  · by_cases hgt : j < i
    · (refine Ga ?_)
      rw [hmi]
      (apply Lst_call; (focus rfl); (focus rfl))
      refine (c_swapRange v1 n v3 B hn (m - i) (m) (j) (by omega) (by omega) l A hoA hlen (by have := hsm.dis; rw [hlen] at this; exact this)).mono ?_
      rintro v C ⟨rfl, ⟨l', hoC, hsm', hfid'⟩, hC⟩
      have bC := bA.trans hC
      have hsC := hsm.trans hsm'
      (refine Ga ?_)
      refine rndQ_n (α := Nat × Nat) (i - j, j) ⟨by dsimp only; omega, hj1, by dsimp only; omega, hjn, l', hoC, hsC, ?_, bC⟩ ⟨rfl, rfl, rfl, rfl, rfl, ?_, rfl, trivial⟩ (by dsimp only; omega)
      · dsimp only
        rw [hfid', rot_gt _ him hgt]
        exact hfid
      · exact congrArg (Value.int .i64) (by dsimp only; omega)
    · have hmji : (m : Int) + (j : Int) - (i : Int) = ((m + j - i : Nat) : Int) := by omega
      (refine Ga ?_)
      rw [hmi, hmji]
      (apply Lst_call; (focus rfl); (focus rfl))
      refine (c_swapRange v1 n v3 B hn (m - i) (m + j - i) (i) (by omega) (by omega) l A hoA hlen (by have := hsm.dis; rw [hlen] at this; exact this)).mono ?_
      rintro v C ⟨rfl, ⟨l', hoC, hsm', hfid'⟩, hC⟩
      have bC := bA.trans hC
      have hsC := hsm.trans hsm'
      (refine Ga ?_)
      refine rndQ_n (α := Nat × Nat) (i, j - i) ⟨hi1, by dsimp only; omega, him, by dsimp only; omega, l', hoC, hsC, ?_, bC⟩ ⟨rfl, rfl, rfl, rfl, rfl, rfl, ?_, trivial⟩ (by dsimp only; omega)
      · dsimp only
        rw [hfid', rot_lt _ him (by omega)]
        exact hfid
      · exact congrArg (Value.int .i64) (by dsimp only; omega)
set_option maxHeartbeats 16000000 in
theorem c_symMerge (v1 : Option Addr) (n v3 B : Nat) (hn : n ≤ 1000000) : ∀ (d a m b : Nat) (_ : b - a ≤ d) (_ : a < m) (_ : m < b) (_ : b ≤ n) (l0 : List Mo) (w : World) (_ : OwnO B w (.slice v1 n v3) l0) (_ : B ≤ w.heap.size) (_ : l0.length = n) (_ : Dis (fid l0) n) (_ : Seg (fid l0) a m) (_ : Seg (fid l0) m b),
    Does Tryd.prog 72 #[.slice v1 n v3, .int .i64 (a : Int), .int .i64 (m : Int), .int .i64 (b : Int), .func (.func 32) #[] #[]] w fun v w' => v = .tuple #[] ∧ (∃ l, OwnO B w' (.slice v1 n v3) l ∧ Same' l0 l ∧ Mrg (fid l0) (fid l) a b) ∧ Below B w w' := by
  intro d
  induction d with
  | zero => intro a m b hdd ham hmb; omega
  | succ d ih =>
  intro a m b hdd ham hmb hbn l0 w ho hB hl0 hd h1 h2
  refine Does_of (args := [.slice v1 n v3, .int .i64 (a : Int), .int .i64 (m : Int), .int .i64 (b : Int), .func (.func 32) #[] #[]]) Tryd.func72 (by kernel_rfl) rfl rfl rfl rfl rfl ?_
  obtain ⟨gv, ov, e', _, _⟩ := ho.rows.at (i := a) (by rw [List.length_map]; omega)
  subst e'
  by_cases hma : m = a + 1
  · subst hma
    (refine Ga ?_)
    refine W_loop (α := Nat × Nat) (fun x => [(0, .slice (some ⟨gv, ov, none⟩) n v3), (1, .int .i64 (a : Int)), (2, .int .i64 ((a + 1 : Nat) : Int)), (3, .int .i64 (b : Int)), (4, .func (.func 32) #[] #[]), (10, .int .i64 (x.1 : Int)), (11, .int .i64 (x.2 : Int))])
      (fun x A => a + 1 ≤ x.1 ∧ x.1 ≤ x.2 ∧ x.2 ≤ b ∧ (∀ c, a + 1 ≤ c → c < x.1 → lt (fid l0 c) (fid l0 a) = true) ∧ (∀ c, x.2 ≤ c → c < b → lt (fid l0 a) (fid l0 c) = true) ∧ OwnO B A (.slice (some ⟨gv, ov, none⟩) n v3) l0 ∧ Below B w A) (fun x _ => x.2 - x.1) (a + 1, b) ⟨Nat.le_refl _, by dsimp only; omega, Nat.le_refl _, fun c h3 h4 => by dsimp only at h4; omega, fun c h3 h4 => by dsimp only at h3; omega, ho, Below.refl _ _⟩ ⟨rfl, rfl, rfl, rfl, rfl, rfl, rfl, trivial⟩ ?_
    rintro J ⟨i, j⟩ A ⟨hi1, hij, hjb, hlo, hhi, hoA, bA⟩
    dsimp only at hi1 hij hjb hlo hhi ⊢
    by_cases hlt' : i < j
    · skip
      obtain ⟨h, hh⟩ : ∃ h, (i + j) / 2 = h := ⟨_, rfl⟩
      have hh1 : ((i : Int) + (j : Int)) / 2 = ((h : Nat) : Int) := by omega
      obtain ⟨gx, ox, e', _, hcX⟩ := hoA.rows.at (i := h) (by rw [List.length_map]; omega)
      cases e'
      obtain ⟨gy, oy, e', _, hcY⟩ := hoA.rows.at (i := a) (by rw [List.length_map]; omega)
      cases e'
      rw [List.getElem_map] at hcX hcY
      have fX : fid l0 (h) = (l0[h]'(by omega)).id := fid_at (by omega)
      have fY : fid l0 (a) = (l0[a]'(by omega)).id := fid_at (by omega)
      obtain ⟨mX, hmX⟩ : ∃ x9, l0[h]'(by omega) = x9 := ⟨_, rfl⟩
      obtain ⟨mY, hmY⟩ : ∃ x9, l0[a]'(by omega) = x9 := ⟨_, rfl⟩
      rw [hmX] at hcX fX
      rw [hmY] at hcY fY
      (refine Ga ?_)
      try rw [hh1]
      (refine Ga ?_)
      refine W_draw 9 (fun A' => A' = World.drew _) rfl (by kernel_rfl) rfl ?_
      (refine Qa ?_)
      apply Qst_pu
      · apply P_idxm (j := h) (sz := 22)
        focus rfl
        focus rfl
        focus rfl
        focus rfl
        focus rfl
        focus omega
      focus rfl
      (refine Qa ?_)
      apply Qst_loadS (cs := ocs mX) (hc := fun A9 hA9 j u hu => by subst hA9; exact hcX j u hu)
      focus rfl
      focus rfl
      focus rfl
      focus rfl
      focus rfl
      focus rfl
      (refine Qa ?_)
      apply Qst_pu
      · apply P_idxm (j := a) (sz := 22)
        focus rfl
        focus rfl
        focus rfl
        focus rfl
        focus rfl
        focus omega
      focus rfl
      (refine Qa ?_)
      apply Qst_loadS (cs := ocs mY) (hc := fun A9 hA9 j u hu => by subst hA9; exact hcY j u hu)
      focus rfl
      focus rfl
      focus rfl
      focus rfl
      focus rfl
      focus rfl
      (refine Qa ?_)
      rintro _ rfl
      have hoD := own_drew hoA
      have bD := Below.drew bA
      clear hoA bA hcX hcY
      generalize A.drew = D at *
      (refine Ga ?_)
      (apply Lst_call; (focus rfl); (focus rfl))
      refine (c_cmp mX mY D).mono ?_
      rintro v C ⟨rfl, hC⟩
      have hoC : OwnO B C (.slice (some ⟨gv, ov, none⟩) n v3) l0 := own_below hoD hC (Nat.le_refl _)
      have bC : Below B w C := bD.trans (hC.mono (Nat.le_trans hB bD.size))
      cases hlt : lt mX.id mY.id with
      | true =>
        have hcm : cmpId mX.id mY.id = -1 := by unfold cmpId; rw [if_pos hlt]
        rw [hcm]
        have hl : lt (fid l0 (h)) (fid l0 (a)) = true := by rw [fX, fY]; exact hlt
        (refine Ga ?_)
        refine rndQ_n (α := Nat × Nat) (h + 1, j) ⟨by dsimp only; omega, by dsimp only; omega, hjb, fun c h3 h4 => ?_, hhi, hoC, bC⟩ ⟨rfl, rfl, rfl, rfl, rfl, ?_, rfl, trivial⟩ (by dsimp only; omega)
        · by_cases hch : c = h
          · rw [hch]; exact hl
          · exact lt_trans (h2 c h (by omega) (by dsimp only at h4; omega) (by omega)) hl
        · exact congrArg (Value.int .i64) (by dsimp only; omega)
      | false =>
        have hne : mX.id ≠ mY.id := fun e => by
          have := hd (h) (a) (by omega) (by omega) (by rw [fX, fY, e])
          omega
        have hgt := lt_total hlt hne
        have hcm : cmpId mX.id mY.id = 1 := by unfold cmpId; rw [hlt, hgt]; rfl
        rw [hcm]
        have hl : lt (fid l0 (a)) (fid l0 (h)) = true := by rw [fX, fY]; exact hgt
        (refine Ga ?_)
        refine rndQ_n (α := Nat × Nat) (i, h) ⟨hi1, by dsimp only; omega, by dsimp only; omega, hlo, fun c h3 h4 => ?_, hoC, bC⟩ ⟨rfl, rfl, rfl, rfl, rfl, rfl, rfl, trivial⟩ (by dsimp only; omega)
        by_cases hch : c = h
        · rw [hch]; exact hl
        · exact lt_trans hl (h2 h c (by omega) (by dsimp only at h3; omega) h4)
    · obtain rfl : i = j := by omega
      (refine Ga ?_)
      refine W_loop (α := Nat) (fun k => [(0, .slice (some ⟨gv, ov, none⟩) n v3), (1, .int .i64 (a : Int)), (2, .int .i64 ((a + 1 : Nat) : Int)), (3, .int .i64 (b : Int)), (4, .func (.func 32) #[] #[]), (10, .int .i64 (i : Int)), (13, .int .i64 (k : Int))])
        (fun k A => a ≤ k ∧ k + 1 ≤ i ∧ ∃ l, OwnO B A (.slice (some ⟨gv, ov, none⟩) n v3) l ∧ Same' l0 l ∧ fid l = bub (fid l0) a k ∧ Below B w A) (fun k _ => i - k) a ⟨Nat.le_refl _, hi1, l0, hoA, ⟨rfl, fun _ => Iff.rfl, by rw [hl0]; exact hd⟩, (bub_zero _ _).symm, bA⟩ ⟨rfl, rfl, rfl, rfl, rfl, rfl, rfl, trivial⟩ ?_
      clear hoA bA A
      rintro J k A ⟨hak, hki, l, hoA, hsm, hfid, bA⟩
      have hlen := hsm.len.trans hl0
      by_cases hkl : k + 1 < i
      · skip
        obtain ⟨g1, cap, l1, e1, _, hgB, kl, hl1, hset⟩ := own_setR0 (w := A.drew) (ls := l.map ocs) (nn := n) (by have h9 := hoA; unfold OwnO at h9; rw [hlen] at h9; exact own_drew h9) (ocs_len _) (by decide) (k := k) (by rw [List.length_map]; omega)
        cases e1
        obtain ⟨h1', h2', e', _, hcP⟩ := hoA.rows.at (i := k) (by rw [List.length_map]; omega)
        cases e'
        obtain ⟨h1', h2', e', _, hcQ⟩ := hoA.rows.at (i := k+1) (by rw [List.length_map]; omega)
        cases e'
        rw [List.getElem_map] at hcP hcQ
        have hfs := fid_swap (l := l) (i := k) (k := k+1) (by omega) (by omega)
        have hss := hsm.swap (i := k) (k := k+1) (by omega) (by omega)
        obtain ⟨mP, hmP⟩ : ∃ x9, l[k]'(by omega) = x9 := ⟨_, rfl⟩
        obtain ⟨mQ, hmQ⟩ : ∃ x9, l[k+1]'(by omega) = x9 := ⟨_, rfl⟩
        rw [hmP] at hcP hfs hss
        rw [hmQ] at hcQ hfs hss
        (refine Ga ?_)
        refine W_drawS 18 (fun _ => True) rfl rfl ?_
        have hS := trivial
        refine S_takeV 0 17 rfl (by kernel_rfl) (by repeat (first | exact retQ_p | apply seqQ_p | apply blkQ_p | apply rndQ_p | apply cutQ_p)) hS ?_
        (refine Qb ?_)
        refine S_takeV 1 16 rfl (by kernel_rfl) (by repeat (first | exact retQ_p | apply seqQ_p | apply blkQ_p | apply rndQ_p | apply cutQ_p)) hS ?_
        (refine Qb ?_)
        refine S_takeV 2 15 rfl (by kernel_rfl) (by repeat (first | exact retQ_p | apply seqQ_p | apply blkQ_p | apply rndQ_p | apply cutQ_p)) hS ?_
        (refine Qb ?_)
        refine S_takeV 3 14 rfl (by kernel_rfl) (by repeat (first | exact retQ_p | apply seqQ_p | apply blkQ_p | apply rndQ_p | apply cutQ_p)) hS ?_
        (refine Qb ?_)
        refine S_takeV 4 13 rfl (by kernel_rfl) (by repeat (first | exact retQ_p | apply seqQ_p | apply blkQ_p | apply rndQ_p | apply cutQ_p)) hS ?_
        (refine Qb ?_)
        refine S_takeV 5 12 rfl (by kernel_rfl) (by repeat (first | exact retQ_p | apply seqQ_p | apply blkQ_p | apply rndQ_p | apply cutQ_p)) hS ?_
        (refine Qb ?_)
        refine S_takeV 6 11 rfl (by kernel_rfl) (by repeat (first | exact retQ_p | apply seqQ_p | apply blkQ_p | apply rndQ_p | apply cutQ_p)) hS ?_
        (refine Qb ?_)
        refine S_takeV 7 10 rfl (by kernel_rfl) (by repeat (first | exact retQ_p | apply seqQ_p | apply blkQ_p | apply rndQ_p | apply cutQ_p)) hS ?_
        (refine Qb ?_)
        refine S_takeV 8 9 rfl (by kernel_rfl) (by repeat (first | exact retQ_p | apply seqQ_p | apply blkQ_p | apply rndQ_p | apply cutQ_p)) hS ?_
        apply Qst_pu
        · apply P_idxm (j := k+1) (sz := 22)
          focus rfl
          focus rfl
          focus rfl
          focus rfl
          focus rfl
          focus omega
        focus rfl
        (refine Qb ?_)
        refine S_takeV 10 8 rfl (by kernel_rfl) (by repeat (first | exact retQ_p | apply seqQ_p | apply blkQ_p | apply rndQ_p | apply cutQ_p)) hS ?_
        (refine Qb ?_)
        refine S_takeV 11 7 rfl (by kernel_rfl) (by repeat (first | exact retQ_p | apply seqQ_p | apply blkQ_p | apply rndQ_p | apply cutQ_p)) hS ?_
        (refine Qb ?_)
        refine S_takeV 12 6 rfl (by kernel_rfl) (by repeat (first | exact retQ_p | apply seqQ_p | apply blkQ_p | apply rndQ_p | apply cutQ_p)) hS ?_
        apply Qst_pu
        · apply P_idxm (j := k) (sz := 22)
          focus rfl
          focus rfl
          focus rfl
          focus rfl
          focus rfl
          focus omega
        focus rfl
        (refine Qb ?_)
        refine S_any [9, 13] 5 rfl (by kernel_rfl) (all2 ?_ ?_)
        · skip
          apply Lst_loadS' (cs := ocs mQ)
          focus rfl
          focus rfl
          focus rfl
          focus rfl
          focus rfl
          focus exact hcQ
          focus rfl
          apply Lst_nil
          apply rnQ_n
          refine ⟨trivial, ?_⟩
          refine S_any [13] 4 rfl (by kernel_rfl) (all1 ?_)
          apply Lst_loadS' (cs := ocs mP)
          focus rfl
          focus rfl
          focus rfl
          focus rfl
          focus rfl
          focus exact hcP
          focus rfl
          apply Lst_nil
          apply rnQ_n
          refine ⟨trivial, ?_⟩
          refine S_any [14] 3 rfl (by kernel_rfl) (all1 ?_)
          apply Lst_pu
          · apply P_idxm (j := k) (sz := 22)
            focus rfl
            focus rfl
            focus rfl
            focus rfl
            focus rfl
            focus omega
          focus rfl
          apply Lst_nil
          apply rnQ_n
          refine ⟨trivial, ?_⟩
          refine S_any [15] 2 rfl (by kernel_rfl) (all1 ?_)
          apply Lst_storeM (vs := ocs mQ) (hb := kl)
          focus rfl
          focus rfl
          focus rfl
          focus rfl
          focus exact fun u hu => ocs_one [mQ] u (by simpa using hu)
          focus exact hl1
          apply Lst_nil
          apply rnQ_n
          refine ⟨trivial, ?_⟩
          have ho1 := hset (ocs mQ) rfl
          rw [← List.map_set] at ho1
          have hn1 : (l.set (k) mQ).length = n := by rw [List.length_set, hlen]
          obtain ⟨g2, cap2, l2, e2, _, _, kl2, hl2, hset2⟩ := own_setR0 ho1 (ocs_len _) (by decide) (k := k+1) (by rw [List.length_map, hn1]; omega)
          cases e2
          have ho2 := hset2 (ocs mP) rfl
          rw [← List.map_set] at ho2
          have hn2 : ((l.set (k) mQ).set (k+1) mP).length = n := by rw [List.length_set, hn1]
          refine S_any [16] 1 rfl (by kernel_rfl) (all1 ?_)
          apply Lst_pu
          · apply P_idxm (j := k+1) (sz := 22)
            focus rfl
            focus rfl
            focus rfl
            focus rfl
            focus rfl
            focus omega
          focus rfl
          apply Lst_nil
          apply rnQ_n
          refine ⟨trivial, ?_⟩
          refine S_any [17] 0 rfl (by kernel_rfl) (all1 ?_)
          apply Lst_storeM (vs := ocs mP) (hb := kl2)
          focus rfl
          focus rfl
          focus rfl
          focus rfl
          focus exact fun u hu => ocs_one [mP] u (by simpa using hu)
          focus exact hl2
          apply Lst_nil
          apply rnQ_n
          refine ⟨trivial, ?_⟩
          refine S_done (by kernel_rfl) ?_
          (refine Ga ?_)
          refine rndQ_n (α := Nat) (k + 1) ⟨by omega, by omega, (l.set k mQ).set (k + 1) mP, (by unfold OwnO; rw [hn2]; exact ho2), hss, by rw [hfs, hfid, bub_step _ hak], (Sx.Below.put (Sx.Below.put (Below.drew bA) hgB _) hgB _)⟩ ⟨rfl, rfl, rfl, rfl, rfl, rfl, ?_, trivial⟩ (by omega)
          exact congrArg (Value.int .i64) (by omega)
        · skip
          apply Lst_loadS' (cs := ocs mP)
          focus rfl
          focus rfl
          focus rfl
          focus rfl
          focus rfl
          focus exact hcP
          focus rfl
          apply Lst_nil
          apply rnQ_n
          refine ⟨trivial, ?_⟩
          refine S_any [9] 4 rfl (by kernel_rfl) (all1 ?_)
          apply Lst_loadS' (cs := ocs mQ)
          focus rfl
          focus rfl
          focus rfl
          focus rfl
          focus rfl
          focus exact hcQ
          focus rfl
          apply Lst_nil
          apply rnQ_n
          refine ⟨trivial, ?_⟩
          refine S_any [14] 3 rfl (by kernel_rfl) (all1 ?_)
          apply Lst_pu
          · apply P_idxm (j := k) (sz := 22)
            focus rfl
            focus rfl
            focus rfl
            focus rfl
            focus rfl
            focus omega
          focus rfl
          apply Lst_nil
          apply rnQ_n
          refine ⟨trivial, ?_⟩
          refine S_any [15] 2 rfl (by kernel_rfl) (all1 ?_)
          apply Lst_storeM (vs := ocs mQ) (hb := kl)
          focus rfl
          focus rfl
          focus rfl
          focus rfl
          focus exact fun u hu => ocs_one [mQ] u (by simpa using hu)
          focus exact hl1
          apply Lst_nil
          apply rnQ_n
          refine ⟨trivial, ?_⟩
          have ho1 := hset (ocs mQ) rfl
          rw [← List.map_set] at ho1
          have hn1 : (l.set (k) mQ).length = n := by rw [List.length_set, hlen]
          obtain ⟨g2, cap2, l2, e2, _, _, kl2, hl2, hset2⟩ := own_setR0 ho1 (ocs_len _) (by decide) (k := k+1) (by rw [List.length_map, hn1]; omega)
          cases e2
          have ho2 := hset2 (ocs mP) rfl
          rw [← List.map_set] at ho2
          have hn2 : ((l.set (k) mQ).set (k+1) mP).length = n := by rw [List.length_set, hn1]
          refine S_any [16] 1 rfl (by kernel_rfl) (all1 ?_)
          apply Lst_pu
          · apply P_idxm (j := k+1) (sz := 22)
            focus rfl
            focus rfl
            focus rfl
            focus rfl
            focus rfl
            focus omega
          focus rfl
          apply Lst_nil
          apply rnQ_n
          refine ⟨trivial, ?_⟩
          refine S_any [17] 0 rfl (by kernel_rfl) (all1 ?_)
          apply Lst_storeM (vs := ocs mP) (hb := kl2)
          focus rfl
          focus rfl
          focus rfl
          focus rfl
          focus exact fun u hu => ocs_one [mP] u (by simpa using hu)
          focus exact hl2
          apply Lst_nil
          apply rnQ_n
          refine ⟨trivial, ?_⟩
          refine S_done (by kernel_rfl) ?_
          (refine Ga ?_)
          refine rndQ_n (α := Nat) (k + 1) ⟨by omega, by omega, (l.set k mQ).set (k + 1) mP, (by unfold OwnO; rw [hn2]; exact ho2), hss, by rw [hfs, hfid, bub_step _ hak], (Sx.Below.put (Sx.Below.put (Below.drew bA) hgB _) hgB _)⟩ ⟨rfl, rfl, rfl, rfl, rfl, rfl, ?_, trivial⟩ (by omega)
          exact congrArg (Value.int .i64) (by omega)
      · obtain rfl : i = k + 1 := by omega
        (refine Ga ?_)
        apply retQ0
        refine ⟨rfl, ⟨l, hoA, hsm, ?_⟩, bA⟩
        have hm := mrg_bub (f := fid l0) (a := a) (b := b) (i := k + 1) h2 hi1 hjb hlo hhi
        rw [hfid]
        exact hm
  by_cases hbm : b = m + 1
  · subst hbm
    (refine Ga ?_)
    refine W_loop (α := Nat × Nat) (fun x => [(0, .slice (some ⟨gv, ov, none⟩) n v3), (1, .int .i64 (a : Int)), (2, .int .i64 (m : Int)), (3, .int .i64 ((m + 1 : Nat) : Int)), (4, .func (.func 32) #[] #[]), (14, .int .i64 (x.1 : Int)), (15, .int .i64 (x.2 : Int))])
      (fun x A => a ≤ x.1 ∧ x.1 ≤ x.2 ∧ x.2 ≤ m ∧ (∀ c, a ≤ c → c < x.1 → lt (fid l0 c) (fid l0 m) = true) ∧ (∀ c, x.2 ≤ c → c < m → lt (fid l0 m) (fid l0 c) = true) ∧ OwnO B A (.slice (some ⟨gv, ov, none⟩) n v3) l0 ∧ Below B w A) (fun x _ => x.2 - x.1) (a, m) ⟨Nat.le_refl _, by dsimp only; omega, Nat.le_refl _, fun c h3 h4 => by dsimp only at h4; omega, fun c h3 h4 => by dsimp only at h3; omega, ho, Below.refl _ _⟩ ⟨rfl, rfl, rfl, rfl, rfl, rfl, rfl, trivial⟩ ?_
    rintro J ⟨i, j⟩ A ⟨hi1, hij, hjb, hlo, hhi, hoA, bA⟩
    dsimp only at hi1 hij hjb hlo hhi ⊢
    by_cases hlt' : i < j
    · skip
      obtain ⟨h, hh⟩ : ∃ h, (i + j) / 2 = h := ⟨_, rfl⟩
      have hh1 : ((i : Int) + (j : Int)) / 2 = ((h : Nat) : Int) := by omega
      obtain ⟨gx, ox, e', _, hcX⟩ := hoA.rows.at (i := m) (by rw [List.length_map]; omega)
      cases e'
      obtain ⟨gy, oy, e', _, hcY⟩ := hoA.rows.at (i := h) (by rw [List.length_map]; omega)
      cases e'
      rw [List.getElem_map] at hcX hcY
      have fX : fid l0 (m) = (l0[m]'(by omega)).id := fid_at (by omega)
      have fY : fid l0 (h) = (l0[h]'(by omega)).id := fid_at (by omega)
      obtain ⟨mX, hmX⟩ : ∃ x9, l0[m]'(by omega) = x9 := ⟨_, rfl⟩
      obtain ⟨mY, hmY⟩ : ∃ x9, l0[h]'(by omega) = x9 := ⟨_, rfl⟩
      rw [hmX] at hcX fX
      rw [hmY] at hcY fY
      (refine Ga ?_)
      try rw [hh1]
      (refine Ga ?_)
      refine W_draw 9 (fun A' => A' = World.drew _) rfl (by kernel_rfl) rfl ?_
      (refine Qa ?_)
      apply Qst_pu
      · apply P_idxm (j := m) (sz := 22)
        focus rfl
        focus rfl
        focus rfl
        focus rfl
        focus rfl
        focus omega
      focus rfl
      (refine Qa ?_)
      apply Qst_loadS (cs := ocs mX) (hc := fun A9 hA9 j u hu => by subst hA9; exact hcX j u hu)
      focus rfl
      focus rfl
      focus rfl
      focus rfl
      focus rfl
      focus rfl
      (refine Qa ?_)
      apply Qst_pu
      · apply P_idxm (j := h) (sz := 22)
        focus rfl
        focus rfl
        focus rfl
        focus rfl
        focus rfl
        focus omega
      focus rfl
      (refine Qa ?_)
      apply Qst_loadS (cs := ocs mY) (hc := fun A9 hA9 j u hu => by subst hA9; exact hcY j u hu)
      focus rfl
      focus rfl
      focus rfl
      focus rfl
      focus rfl
      focus rfl
      (refine Qa ?_)
      rintro _ rfl
      have hoD := own_drew hoA
      have bD := Below.drew bA
      clear hoA bA hcX hcY
      generalize A.drew = D at *
      (refine Ga ?_)
      (apply Lst_call; (focus rfl); (focus rfl))
      refine (c_cmp mX mY D).mono ?_
      rintro v C ⟨rfl, hC⟩
      have hoC : OwnO B C (.slice (some ⟨gv, ov, none⟩) n v3) l0 := own_below hoD hC (Nat.le_refl _)
      have bC : Below B w C := bD.trans (hC.mono (Nat.le_trans hB bD.size))
      cases hlt : lt mX.id mY.id with
      | true =>
        have hcm : cmpId mX.id mY.id = -1 := by unfold cmpId; rw [if_pos hlt]
        rw [hcm]
        have hl : lt (fid l0 (m)) (fid l0 (h)) = true := by rw [fX, fY]; exact hlt
        (refine Ga ?_)
        refine rndQ_n (α := Nat × Nat) (i, h) ⟨hi1, by dsimp only; omega, by dsimp only; omega, hlo, fun c h3 h4 => ?_, hoC, bC⟩ ⟨rfl, rfl, rfl, rfl, rfl, rfl, rfl, trivial⟩ (by dsimp only; omega)
        by_cases hch : c = h
        · rw [hch]; exact hl
        · exact lt_trans hl (h1 h c (by omega) (by dsimp only at h3; omega) h4)
      | false =>
        have hne : mX.id ≠ mY.id := fun e => by
          have := hd (m) (h) (by omega) (by omega) (by rw [fX, fY, e])
          omega
        have hgt := lt_total hlt hne
        have hcm : cmpId mX.id mY.id = 1 := by unfold cmpId; rw [hlt, hgt]; rfl
        rw [hcm]
        have hl : lt (fid l0 (h)) (fid l0 (m)) = true := by rw [fX, fY]; exact hgt
        (refine Ga ?_)
        refine rndQ_n (α := Nat × Nat) (h + 1, j) ⟨by dsimp only; omega, by dsimp only; omega, hjb, fun c h3 h4 => ?_, hhi, hoC, bC⟩ ⟨rfl, rfl, rfl, rfl, rfl, ?_, rfl, trivial⟩ (by dsimp only; omega)
        · by_cases hch : c = h
          · rw [hch]; exact hl
          · exact lt_trans (h1 c h (by omega) (by dsimp only at h4; omega) (by omega)) hl
        · exact congrArg (Value.int .i64) (by dsimp only; omega)
    · obtain rfl : i = j := by omega
      (refine Ga ?_)
      refine W_loop (α := Nat) (fun k => [(0, .slice (some ⟨gv, ov, none⟩) n v3), (1, .int .i64 (a : Int)), (2, .int .i64 (m : Int)), (3, .int .i64 ((m + 1 : Nat) : Int)), (4, .func (.func 32) #[] #[]), (14, .int .i64 (i : Int)), (17, .int .i64 (k : Int))])
        (fun k A => i ≤ k ∧ k ≤ m ∧ ∃ l, OwnO B A (.slice (some ⟨gv, ov, none⟩) n v3) l ∧ Same' l0 l ∧ fid l = dub (fid l0) m k ∧ Below B w A) (fun k _ => k) m ⟨hjb, Nat.le_refl _, l0, hoA, ⟨rfl, fun _ => Iff.rfl, by rw [hl0]; exact hd⟩, (dub_zero _ _).symm, bA⟩ ⟨rfl, rfl, rfl, rfl, rfl, rfl, rfl, trivial⟩ ?_
      clear hoA bA A
      rintro J k A ⟨hak, hki, l, hoA, hsm, hfid, bA⟩
      have hlen := hsm.len.trans hl0
      by_cases hkl : i < k
      · obtain ⟨k, rfl⟩ : ∃ k', k = k' + 1 := ⟨k - 1, by omega⟩
        have hj1 : arith .sub .i64 ((k + 1 : Nat) : Int) 1 = (k : Int) := by
          have : ((k + 1 : Nat) : Int) - 1 = (k : Int) := by omega
          show IntKind.i64.wrap (((k + 1 : Nat) : Int) - 1) = _
          rw [this]
          exact wi64 (by omega) (by omega)
        obtain ⟨g1, cap, l1, e1, _, hgB, kl, hl1, hset⟩ := own_setR0 (w := A.drew) (ls := l.map ocs) (nn := n) (by have h9 := hoA; unfold OwnO at h9; rw [hlen] at h9; exact own_drew h9) (ocs_len _) (by decide) (k := k+1) (by rw [List.length_map]; omega)
        cases e1
        obtain ⟨h1', h2', e', _, hcP⟩ := hoA.rows.at (i := k+1) (by rw [List.length_map]; omega)
        cases e'
        obtain ⟨h1', h2', e', _, hcQ⟩ := hoA.rows.at (i := k) (by rw [List.length_map]; omega)
        cases e'
        rw [List.getElem_map] at hcP hcQ
        have hfs := fid_swap (l := l) (i := k+1) (k := k) (by omega) (by omega)
        have hss := hsm.swap (i := k+1) (k := k) (by omega) (by omega)
        obtain ⟨mP, hmP⟩ : ∃ x9, l[k+1]'(by omega) = x9 := ⟨_, rfl⟩
        obtain ⟨mQ, hmQ⟩ : ∃ x9, l[k]'(by omega) = x9 := ⟨_, rfl⟩
        rw [hmP] at hcP hfs hss
        rw [hmQ] at hcQ hfs hss
        (refine Ga ?_)
        refine W_drawS 18 (fun _ => True) rfl rfl ?_
        have hS := trivial
        refine S_takeV 0 17 rfl (by kernel_rfl) (by repeat (first | exact retQ_p | apply seqQ_p | apply blkQ_p | apply rndQ_p | apply cutQ_p)) hS ?_
        (refine Qb ?_)
        refine S_takeV 1 16 rfl (by kernel_rfl) (by repeat (first | exact retQ_p | apply seqQ_p | apply blkQ_p | apply rndQ_p | apply cutQ_p)) hS ?_
        (refine Qb ?_)
        refine S_takeV 2 15 rfl (by kernel_rfl) (by repeat (first | exact retQ_p | apply seqQ_p | apply blkQ_p | apply rndQ_p | apply cutQ_p)) hS ?_
        (refine Qb ?_)
        refine S_takeV 3 14 rfl (by kernel_rfl) (by repeat (first | exact retQ_p | apply seqQ_p | apply blkQ_p | apply rndQ_p | apply cutQ_p)) hS ?_
        (refine Qb ?_)
        refine S_takeV 4 13 rfl (by kernel_rfl) (by repeat (first | exact retQ_p | apply seqQ_p | apply blkQ_p | apply rndQ_p | apply cutQ_p)) hS ?_
        (refine Qb ?_)
        refine S_takeV 5 12 rfl (by kernel_rfl) (by repeat (first | exact retQ_p | apply seqQ_p | apply blkQ_p | apply rndQ_p | apply cutQ_p)) hS ?_
        (refine Qb ?_)
        refine S_takeV 6 11 rfl (by kernel_rfl) (by repeat (first | exact retQ_p | apply seqQ_p | apply blkQ_p | apply rndQ_p | apply cutQ_p)) hS ?_
        (refine Qb ?_)
        refine S_takeV 7 10 rfl (by kernel_rfl) (by repeat (first | exact retQ_p | apply seqQ_p | apply blkQ_p | apply rndQ_p | apply cutQ_p)) hS ?_
        (refine Qb ?_)
        refine S_takeV 8 9 rfl (by kernel_rfl) (by repeat (first | exact retQ_p | apply seqQ_p | apply blkQ_p | apply rndQ_p | apply cutQ_p)) hS ?_
        apply Qst_pu
        · apply P_idxm (j := k) (sz := 22)
          focus rfl
          focus rfl
          focus rfl
          focus rfl
          focus rfl
          focus omega
        focus rfl
        (refine Qb ?_)
        refine S_takeV 10 8 rfl (by kernel_rfl) (by repeat (first | exact retQ_p | apply seqQ_p | apply blkQ_p | apply rndQ_p | apply cutQ_p)) hS ?_
        (refine Qb ?_)
        refine S_takeV 11 7 rfl (by kernel_rfl) (by repeat (first | exact retQ_p | apply seqQ_p | apply blkQ_p | apply rndQ_p | apply cutQ_p)) hS ?_
        (refine Qb ?_)
        refine S_takeV 12 6 rfl (by kernel_rfl) (by repeat (first | exact retQ_p | apply seqQ_p | apply blkQ_p | apply rndQ_p | apply cutQ_p)) hS ?_
        apply Qst_pu
        · apply P_idxm (j := k+1) (sz := 22)
          focus rfl
          focus rfl
          focus rfl
          focus rfl
          focus rfl
          focus omega
        focus rfl
        (refine Qb ?_)
        refine S_any [9, 13] 5 rfl (by kernel_rfl) (all2 ?_ ?_)
        · skip
          apply Lst_loadS' (cs := ocs mQ)
          focus rfl
          focus rfl
          focus rfl
          focus rfl
          focus rfl
          focus exact hcQ
          focus rfl
          apply Lst_nil
          apply rnQ_n
          refine ⟨trivial, ?_⟩
          refine S_any [13] 4 rfl (by kernel_rfl) (all1 ?_)
          apply Lst_loadS' (cs := ocs mP)
          focus rfl
          focus rfl
          focus rfl
          focus rfl
          focus rfl
          focus exact hcP
          focus rfl
          apply Lst_nil
          apply rnQ_n
          refine ⟨trivial, ?_⟩
          refine S_any [14] 3 rfl (by kernel_rfl) (all1 ?_)
          apply Lst_pu
          · apply P_idxm (j := k+1) (sz := 22)
            focus rfl
            focus rfl
            focus rfl
            focus rfl
            focus rfl
            focus omega
          focus rfl
          apply Lst_nil
          apply rnQ_n
          refine ⟨trivial, ?_⟩
          refine S_any [15] 2 rfl (by kernel_rfl) (all1 ?_)
          apply Lst_storeM (vs := ocs mQ) (hb := kl)
          focus rfl
          focus rfl
          focus rfl
          focus rfl
          focus exact fun u hu => ocs_one [mQ] u (by simpa using hu)
          focus exact hl1
          apply Lst_nil
          apply rnQ_n
          refine ⟨trivial, ?_⟩
          have ho1 := hset (ocs mQ) rfl
          rw [← List.map_set] at ho1
          have hn1 : (l.set (k+1) mQ).length = n := by rw [List.length_set, hlen]
          obtain ⟨g2, cap2, l2, e2, _, _, kl2, hl2, hset2⟩ := own_setR0 ho1 (ocs_len _) (by decide) (k := k) (by rw [List.length_map, hn1]; omega)
          cases e2
          have ho2 := hset2 (ocs mP) rfl
          rw [← List.map_set] at ho2
          have hn2 : ((l.set (k+1) mQ).set (k) mP).length = n := by rw [List.length_set, hn1]
          refine S_any [16] 1 rfl (by kernel_rfl) (all1 ?_)
          apply Lst_pu
          · apply P_idxm (j := k) (sz := 22)
            focus rfl
            focus rfl
            focus rfl
            focus rfl
            focus rfl
            focus omega
          focus rfl
          apply Lst_nil
          apply rnQ_n
          refine ⟨trivial, ?_⟩
          refine S_any [17] 0 rfl (by kernel_rfl) (all1 ?_)
          apply Lst_storeM (vs := ocs mP) (hb := kl2)
          focus rfl
          focus rfl
          focus rfl
          focus rfl
          focus exact fun u hu => ocs_one [mP] u (by simpa using hu)
          focus exact hl2
          apply Lst_nil
          apply rnQ_n
          refine ⟨trivial, ?_⟩
          refine S_done (by kernel_rfl) ?_
          (refine Ga ?_)
          refine rndQ_n (α := Nat) k ⟨by omega, by omega, (l.set (k + 1) mQ).set k mP, (by unfold OwnO; rw [hn2]; exact ho2), hss, by rw [hfs, hfid, dub_step _ hki], (Sx.Below.put (Sx.Below.put (Below.drew bA) hgB _) hgB _)⟩ ⟨rfl, rfl, rfl, rfl, rfl, rfl, ?_, trivial⟩ (by omega)
          try exact congrArg (Value.int .i64) (by omega)
        · skip
          apply Lst_loadS' (cs := ocs mP)
          focus rfl
          focus rfl
          focus rfl
          focus rfl
          focus rfl
          focus exact hcP
          focus rfl
          apply Lst_nil
          apply rnQ_n
          refine ⟨trivial, ?_⟩
          refine S_any [9] 4 rfl (by kernel_rfl) (all1 ?_)
          apply Lst_loadS' (cs := ocs mQ)
          focus rfl
          focus rfl
          focus rfl
          focus rfl
          focus rfl
          focus exact hcQ
          focus rfl
          apply Lst_nil
          apply rnQ_n
          refine ⟨trivial, ?_⟩
          refine S_any [14] 3 rfl (by kernel_rfl) (all1 ?_)
          apply Lst_pu
          · apply P_idxm (j := k+1) (sz := 22)
            focus rfl
            focus rfl
            focus rfl
            focus rfl
            focus rfl
            focus omega
          focus rfl
          apply Lst_nil
          apply rnQ_n
          refine ⟨trivial, ?_⟩
          refine S_any [15] 2 rfl (by kernel_rfl) (all1 ?_)
          apply Lst_storeM (vs := ocs mQ) (hb := kl)
          focus rfl
          focus rfl
          focus rfl
          focus rfl
          focus exact fun u hu => ocs_one [mQ] u (by simpa using hu)
          focus exact hl1
          apply Lst_nil
          apply rnQ_n
          refine ⟨trivial, ?_⟩
          have ho1 := hset (ocs mQ) rfl
          rw [← List.map_set] at ho1
          have hn1 : (l.set (k+1) mQ).length = n := by rw [List.length_set, hlen]
          obtain ⟨g2, cap2, l2, e2, _, _, kl2, hl2, hset2⟩ := own_setR0 ho1 (ocs_len _) (by decide) (k := k) (by rw [List.length_map, hn1]; omega)
          cases e2
          have ho2 := hset2 (ocs mP) rfl
          rw [← List.map_set] at ho2
          have hn2 : ((l.set (k+1) mQ).set (k) mP).length = n := by rw [List.length_set, hn1]
          refine S_any [16] 1 rfl (by kernel_rfl) (all1 ?_)
          apply Lst_pu
          · apply P_idxm (j := k) (sz := 22)
            focus rfl
            focus rfl
            focus rfl
            focus rfl
            focus rfl
            focus omega
          focus rfl
          apply Lst_nil
          apply rnQ_n
          refine ⟨trivial, ?_⟩
          refine S_any [17] 0 rfl (by kernel_rfl) (all1 ?_)
          apply Lst_storeM (vs := ocs mP) (hb := kl2)
          focus rfl
          focus rfl
          focus rfl
          focus rfl
          focus exact fun u hu => ocs_one [mP] u (by simpa using hu)
          focus exact hl2
          apply Lst_nil
          apply rnQ_n
          refine ⟨trivial, ?_⟩
          refine S_done (by kernel_rfl) ?_
          (refine Ga ?_)
          refine rndQ_n (α := Nat) k ⟨by omega, by omega, (l.set (k + 1) mQ).set k mP, (by unfold OwnO; rw [hn2]; exact ho2), hss, by rw [hfs, hfid, dub_step _ hki], (Sx.Below.put (Sx.Below.put (Below.drew bA) hgB _) hgB _)⟩ ⟨rfl, rfl, rfl, rfl, rfl, rfl, ?_, trivial⟩ (by omega)
          try exact congrArg (Value.int .i64) (by omega)
      · obtain rfl : i = k := by omega
        (refine Ga ?_)
        apply retQ0
        refine ⟨rfl, ⟨l, hoA, hsm, ?_⟩, bA⟩
        have hm := mrg_dub (f := fid l0) (a := a) (m := m) (i := i) h1 hi1 hjb hlo hhi
        rw [hfid]
        exact hm
  obtain ⟨mid, hmid⟩ : ∃ h, (a + b) / 2 = h := ⟨_, rfl⟩
  have hmd1 : ((a : Int) + (b : Int)) / 2 = ((mid : Nat) : Int) := by omega
  have hmd2 : a < mid ∧ mid < b := by omega
  (refine Ga ?_)
  rw [hmd1]
  (refine Ga ?_)
  refine Tl.Lst_cut2 (α := Nat × Nat) (fun x => [(0, .slice (some ⟨gv, ov, none⟩) n v3), (1, .int .i64 (a : Int)), (2, .int .i64 (m : Int)), (3, .int .i64 (b : Int)), (4, .func (.func 32) #[] #[]), (18, .int .i64 (mid : Int)), (19, .int .i64 ((mid + m : Nat) : Int)), (20, .int .i64 (x.1 : Int)), (21, .int .i64 (x.2 : Int))]) (fun x A => A = w ∧ a ≤ x.1 ∧ x.1 ≤ x.2 ∧ x.2 ≤ m ∧ x.2 ≤ mid ∧ (x.1 = a ∨ x.1 + b = mid + m) ∧ (x.2 = m ∨ x.2 = mid) ∧ mid + m ≤ x.1 + b) ?_ ?_
  · by_cases hmm : mid < m
    · (refine Ga ?_)
      refine cutQ_n (mid + m - b, mid) ⟨rfl, by dsimp only; omega, by dsimp only; omega, by dsimp only; omega, by dsimp only; omega, by dsimp only; omega, by dsimp only; omega, by dsimp only; omega⟩ ⟨rfl, rfl, rfl, rfl, rfl, rfl, rfl, ?_, rfl, trivial⟩
      exact congrArg (Value.int .i64) (by dsimp only; omega)
    · (refine Ga ?_)
      exact cutQ_n (a, m) ⟨rfl, by dsimp only; omega, by dsimp only; omega, by dsimp only; omega, by dsimp only; omega, by dsimp only; omega, by dsimp only; omega, by dsimp only; omega⟩ ⟨rfl, rfl, rfl, rfl, rfl, rfl, rfl, rfl, rfl, trivial⟩
  rintro J ⟨s0, r0⟩ W ⟨rfl, q1, q2, q3, q4, q5, q6, q7⟩
  dsimp only at q1 q2 q3 q4 q5 q6 q7 ⊢
  (refine Ga ?_)
  refine W_loop (α := Nat × Nat) (fun x => [(0, .slice (some ⟨gv, ov, none⟩) n v3), (1, .int .i64 (a : Int)), (2, .int .i64 (m : Int)), (3, .int .i64 (b : Int)), (4, .func (.func 32) #[] #[]), (18, .int .i64 (mid : Int)), (19, .int .i64 ((mid + m : Nat) : Int)), (20, .int .i64 (x.1 : Int)), (21, .int .i64 (x.2 : Int)), (22, .int .i64 ((mid + m - 1 : Nat) : Int))])
    (fun x A => s0 ≤ x.1 ∧ x.1 ≤ x.2 ∧ x.2 ≤ r0 ∧ (∀ c, s0 ≤ c → c < x.1 → lt (fid l0 c) (fid l0 (mid + m - 1 - c)) = true) ∧ (∀ c, x.2 ≤ c → c < r0 → lt (fid l0 (mid + m - 1 - c)) (fid l0 c) = true) ∧ OwnO B A (.slice (some ⟨gv, ov, none⟩) n v3) l0 ∧ Below B W A) (fun x _ => x.2 - x.1) (s0, r0) ⟨Nat.le_refl _, q2, Nat.le_refl _, fun c h3 h4 => by dsimp only at h4; omega, fun c h3 h4 => by dsimp only at h3; omega, ho, Below.refl _ _⟩ ⟨rfl, rfl, rfl, rfl, rfl, rfl, rfl, rfl, rfl, ?_, trivial⟩ ?_
  · exact congrArg (Value.int .i64) (by omega)
  rintro J ⟨i, j⟩ A ⟨hi1, hij, hjb, hlo, hhi, hoA, bA⟩
  dsimp only at hi1 hij hjb hlo hhi ⊢
  by_cases hlt' : i < j
  · skip
    obtain ⟨h, hh⟩ : ∃ h, (i + j) / 2 = h := ⟨_, rfl⟩
    have hh1 : ((i : Int) + (j : Int)) / 2 = ((h : Nat) : Int) := by omega
    obtain ⟨q, hq⟩ : ∃ q, mid + m - 1 - h = q := ⟨_, rfl⟩
    have hh2 : ((mid + m - 1 : Nat) : Int) - (h : Int) = (q : Int) := by omega
    obtain ⟨gx, ox, e', _, hcX⟩ := hoA.rows.at (i := q) (by rw [List.length_map]; omega)
    cases e'
    obtain ⟨gy, oy, e', _, hcY⟩ := hoA.rows.at (i := h) (by rw [List.length_map]; omega)
    cases e'
    rw [List.getElem_map] at hcX hcY
    have fX : fid l0 (q) = (l0[q]'(by omega)).id := fid_at (by omega)
    have fY : fid l0 (h) = (l0[h]'(by omega)).id := fid_at (by omega)
    obtain ⟨mX, hmX⟩ : ∃ x9, l0[q]'(by omega) = x9 := ⟨_, rfl⟩
    obtain ⟨mY, hmY⟩ : ∃ x9, l0[h]'(by omega) = x9 := ⟨_, rfl⟩
    rw [hmX] at hcX fX
    rw [hmY] at hcY fY
    (refine Ga ?_)
    try rw [hh1]
    (refine Ga ?_)
    refine W_draw 11 (fun A' => A' = World.drew _) rfl (by kernel_rfl) rfl ?_
    (refine Qa ?_)
    rw [hh2]
    apply Qst_pu
    · apply P_idxm (j := q) (sz := 22)
      focus rfl
      focus rfl
      focus rfl
      focus rfl
      focus rfl
      focus omega
    focus rfl
    (refine Qa ?_)
    apply Qst_loadS (cs := ocs mX) (hc := fun A9 hA9 j u hu => by subst hA9; exact hcX j u hu)
    focus rfl
    focus rfl
    focus rfl
    focus rfl
    focus rfl
    focus rfl
    (refine Qa ?_)
    apply Qst_pu
    · apply P_idxm (j := h) (sz := 22)
      focus rfl
      focus rfl
      focus rfl
      focus rfl
      focus rfl
      focus omega
    focus rfl
    (refine Qa ?_)
    apply Qst_loadS (cs := ocs mY) (hc := fun A9 hA9 j u hu => by subst hA9; exact hcY j u hu)
    focus rfl
    focus rfl
    focus rfl
    focus rfl
    focus rfl
    focus rfl
    (refine Qa ?_)
    rintro _ rfl
    have hoD := own_drew hoA
    have bD := Below.drew bA
    clear hoA bA hcX hcY
    generalize A.drew = D at *
    (refine Ga ?_)
    (apply Lst_call; (focus rfl); (focus rfl))
    refine (c_cmp mX mY D).mono ?_
    rintro v C ⟨rfl, hC⟩
    have hoC : OwnO B C (.slice (some ⟨gv, ov, none⟩) n v3) l0 := own_below hoD hC (Nat.le_refl _)
    have bC : Below B W C := bD.trans (hC.mono (Nat.le_trans hB bD.size))
    cases hlt : lt mX.id mY.id with
    | true =>
      have hcm : cmpId mX.id mY.id = -1 := by unfold cmpId; rw [if_pos hlt]
      rw [hcm]
      have hl : lt (fid l0 (q)) (fid l0 (h)) = true := by rw [fX, fY]; exact hlt
      (refine Ga ?_)
      refine rndQ_n (α := Nat × Nat) (i, h) ⟨hi1, by dsimp only; omega, by dsimp only; omega, hlo, fun c h3 h4 => ?_, hoC, bC⟩ ⟨rfl, rfl, rfl, rfl, rfl, rfl, rfl, rfl, rfl, rfl, trivial⟩ (by dsimp only; omega)
      dsimp only at h3
      by_cases hch : c = h
      · rw [hch, hq]; exact hl
      · exact lt_trans (h2 _ q (by omega) (by omega) (by omega)) (lt_trans hl (h1 h c (by omega) (by omega) (by omega)))
    | false =>
      have hne : mX.id ≠ mY.id := fun e => by
        have := hd (q) (h) (by omega) (by omega) (by rw [fX, fY, e])
        omega
      have hgt := lt_total hlt hne
      have hcm : cmpId mX.id mY.id = 1 := by unfold cmpId; rw [hlt, hgt]; rfl
      rw [hcm]
      have hl : lt (fid l0 (h)) (fid l0 (q)) = true := by rw [fX, fY]; exact hgt
      (refine Ga ?_)
      refine rndQ_n (α := Nat × Nat) (h + 1, j) ⟨by dsimp only; omega, by dsimp only; omega, hjb, fun c h3 h4 => ?_, hhi, hoC, bC⟩ ⟨rfl, rfl, rfl, rfl, rfl, rfl, rfl, ?_, rfl, rfl, trivial⟩ (by dsimp only; omega)
      · dsimp only at h4
        by_cases hch : c = h
        · rw [hch, hq]; exact hl
        · exact lt_trans (h1 c h (by omega) (by omega) (by omega)) (lt_trans hl (h2 q _ (by omega) (by omega) (by omega)))
      · exact congrArg (Value.int .i64) (by dsimp only; omega)
  obtain rfl : i = j := by omega
  obtain ⟨e, he⟩ : ∃ e, mid + m - i = e := ⟨_, rfl⟩
  have he1 : ((mid + m : Nat) : Int) - (i : Int) = (e : Int) := by omega
  have hla : a < i → e < b → lt (fid l0 (i - 1)) (fid l0 e) = true := fun h3 h4 => by
    have h5 := hlo (i - 1) (by omega) (by omega)
    rwa [show mid + m - 1 - (i - 1) = e by omega] at h5
  have hra : i < m → m < e → lt (fid l0 (e - 1)) (fid l0 i) = true := fun h3 h4 => by
    have h5 := hhi i (Nat.le_refl _) (by omega)
    rwa [show mid + m - 1 - i = e - 1 by omega] at h5
  obtain ⟨g1, g2, g3, g4, g5, g6, g7⟩ := rot_halves (f := fid l0) (a := a) (m := m) (b := b) (mid := mid) (s := i) (e := e) h1 h2 (by omega) (by omega) (by omega) (by omega) (by omega) (by omega) hla hra
  obtain ⟨g, hg⟩ : ∃ g, rot (fid l0) i m e = g := ⟨_, rfl⟩
  rw [hg] at g1 g2 g3 g4 g5 g6 g7
  have hsm0 : Same' l0 l0 := ⟨rfl, fun _ => Iff.rfl, by rw [hl0]; exact hd⟩
  have hx : a ≤ i ∧ i ≤ m ∧ i ≤ mid ∧ m ≤ e ∧ e ≤ b ∧ i + e = mid + m := by omega
  clear hlo hhi q1 q2 q3 q4 q5 q6 q7 h1 h2 hla hra
  (refine Ga ?_)
  rw [he1]
  refine Tl.Lst_cut2 (α := Unit) (fun _ => [(0, .slice (some ⟨gv, ov, none⟩) n v3), (1, .int .i64 (a : Int)), (2, .int .i64 (m : Int)), (3, .int .i64 (b : Int)), (4, .func (.func 32) #[] #[]), (18, .int .i64 (mid : Int)), (20, .int .i64 (i : Int)), (24, .int .i64 (e : Int))]) (fun _ A => ∃ l, OwnO B A (.slice (some ⟨gv, ov, none⟩) n v3) l ∧ Same' l0 l ∧ fid l = g ∧ Below B W A) ?_ ?_
  · by_cases c1 : i < m
    · by_cases c2 : m < e
      · (refine Ga ?_)
        (apply Lst_call; (focus rfl); (focus rfl))
        refine (c_rotate (some ⟨gv, ov, none⟩) n v3 B hn i m e c1 c2 (by omega) l0 A hoA hl0 hd).mono ?_
        rintro v C ⟨rfl, ⟨l, hoC, hsm, hfid⟩, hC⟩
        (refine Ga ?_)
        exact cutQ_n () ⟨l, hoC, hsm, hfid.trans hg, bA.trans hC⟩ ⟨rfl, rfl, rfl, rfl, rfl, rfl, rfl, rfl, trivial⟩
      · (refine Ga ?_)
        exact cutQ_n () ⟨l0, hoA, hsm0, by rw [← hg]; exact (rot_none _ (.inr (by omega))).symm, bA⟩ ⟨rfl, rfl, rfl, rfl, rfl, rfl, rfl, rfl, trivial⟩
    · (refine Ga ?_)
      exact cutQ_n () ⟨l0, hoA, hsm0, by rw [← hg]; exact (rot_none _ (.inl (by omega))).symm, bA⟩ ⟨rfl, rfl, rfl, rfl, rfl, rfl, rfl, rfl, trivial⟩
  clear hoA bA A
  rintro J _ A ⟨l1, hoA, hsm1, hf1, bA⟩
  have hlen1 := hsm1.len.trans hl0
  have hd1 := hsm1.dis
  rw [hlen1] at hd1
  rw [← hf1] at g1 g2 g3 g4 g5 g6 g7
  clear hf1 hg g
  (refine Ga ?_)
  refine Tl.Lst_cut2 (α := Unit) (fun _ => [(0, .slice (some ⟨gv, ov, none⟩) n v3), (1, .int .i64 (a : Int)), (2, .int .i64 (m : Int)), (3, .int .i64 (b : Int)), (4, .func (.func 32) #[] #[]), (18, .int .i64 (mid : Int)), (20, .int .i64 (i : Int)), (24, .int .i64 (e : Int))]) (fun _ A => ∃ l, OwnO B A (.slice (some ⟨gv, ov, none⟩) n v3) l ∧ Same' l0 l ∧ Mrg (fid l1) (fid l) a mid ∧ Below B W A) ?_ ?_
  · by_cases c1 : a < i
    · by_cases c2 : i < mid
      · (refine Ga ?_)
        (apply Lst_call; (focus rfl); (focus rfl))
        refine (ih a i mid (by omega) c1 c2 (by omega) l1 A hoA (Nat.le_trans hB bA.size) hlen1 hd1 g1 g2).mono ?_
        rintro v C ⟨rfl, ⟨l, hoC, hsm, hm⟩, hC⟩
        (refine Ga ?_)
        exact cutQ_n () ⟨l, hoC, hsm1.trans hsm, hm, bA.trans hC⟩ ⟨rfl, rfl, rfl, rfl, rfl, rfl, rfl, rfl, trivial⟩
      · (refine Ga ?_)
        exact cutQ_n () ⟨l1, hoA, hsm1, Mrg.nop fun p q hp hpq hq => g1 p q hp hpq (by omega), bA⟩ ⟨rfl, rfl, rfl, rfl, rfl, rfl, rfl, rfl, trivial⟩
    · (refine Ga ?_)
      exact cutQ_n () ⟨l1, hoA, hsm1, Mrg.nop fun p q hp hpq hq => g2 p q (by omega) hpq hq, bA⟩ ⟨rfl, rfl, rfl, rfl, rfl, rfl, rfl, rfl, trivial⟩
  clear hoA bA A
  rintro J _ A ⟨l2, hoA, hsm2, hm1, bA⟩
  have hlen2 := hsm2.len.trans hl0
  have hd2 := hsm2.dis
  rw [hlen2] at hd2
  have hr1 : Seg (fid l2) mid e := fun p q hp hpq hq => by
    rw [hm1.out p (.inr hp), hm1.out q (.inr (by omega))]
    exact g3 p q hp hpq hq
  have hr2 : Seg (fid l2) e b := fun p q hp hpq hq => by
    rw [hm1.out p (.inr (by omega)), hm1.out q (.inr (by omega))]
    exact g4 p q hp hpq hq
  have hfin : ∀ l3, Mrg (fid l2) (fid l3) mid b → Mrg (fid l0) (fid l3) a b := fun l3 hm2 => mrg_halves (by omega) (by omega) g6 g7 g5 hm1 hm2
  by_cases c1 : mid < e
  · by_cases c2 : e < b
    · (refine Ga ?_)
      (apply Lst_call; (focus rfl); (focus rfl))
      refine (ih mid e b (by omega) c1 c2 hbn l2 A hoA (Nat.le_trans hB bA.size) hlen2 hd2 hr1 hr2).mono ?_
      rintro v C ⟨rfl, ⟨l, hoC, hsm, hm⟩, hC⟩
      (refine Ga ?_)
      apply retQ0n
      exact ⟨rfl, ⟨l, hoC, hsm2.trans hsm, hfin l hm⟩, bA.trans hC⟩
    · (refine Ga ?_)
      apply retQ0n
      exact ⟨rfl, ⟨l2, hoA, hsm2, hfin l2 (Mrg.nop fun p q hp hpq hq => hr1 p q hp hpq (by omega))⟩, bA⟩
  · (refine Ga ?_)
    apply retQ0n
    exact ⟨rfl, ⟨l2, hoA, hsm2, hfin l2 (Mrg.nop fun p q hp hpq hq => hr2 p q (by omega) hpq hq)⟩, bA⟩
set_option maxHeartbeats 4000000 in
theorem c_stableN (v1 : Option Addr) (n v3 B : Nat) (l0 : List Mo) (hn : n ≤ 60) (w : World) (ho : OwnO B w (.slice v1 n v3) l0) (hB : B ≤ w.heap.size) (hl0 : l0.length = n) (hd : Dis (fid l0) n) :
    Does Tryd.prog 54 #[.slice v1 n v3, .int .i64 (n : Int), .func (.func 32) #[] #[]] w fun v w' => v = .tuple #[] ∧ (∃ l, OwnO B w' (.slice v1 n v3) l ∧ Same' l0 l ∧ Seg (fid l) 0 n) ∧ Below B w w' := by
  refine Does_of (args := [.slice v1 n v3, .int .i64 (n : Int), .func (.func 32) #[] #[]]) Tryd.func54 (by kernel_rfl) rfl rfl rfl rfl rfl ?_
  (refine Ga ?_)
  refine W_loop (α := Nat) (fun x => [(0, .slice v1 n v3), (1, .int .i64 (n : Int)), (2, .func (.func 32) #[] #[]), (6, .int .i64 20), (7, .int .i64 ((20 * x : Nat) : Int)), (8, .int .i64 ((20 * x + 20 : Nat) : Int))])
    (fun x A => 20 * x ≤ n ∧ ∃ l, OwnO B A (.slice v1 n v3) l ∧ Same' l0 l ∧ (∀ y, y < x → Seg (fid l) (20 * y) (20 * y + 20)) ∧ Below B w A) (fun x _ => n - 20 * x) 0 ⟨Nat.zero_le _, l0, ho, ⟨rfl, fun _ => Iff.rfl, by rw [hl0]; exact hd⟩, fun y hy => absurd hy (Nat.not_lt_zero _), Below.refl _ _⟩ ⟨rfl, rfl, rfl, rfl, rfl, rfl, trivial⟩ ?_
  rintro J x A ⟨hx, l, hoA, hsm, hsg, bA⟩
  have hlen := hsm.len.trans hl0
  have hdl := hsm.dis
  rw [hlen] at hdl
  by_cases hxn : 20 * x + 20 ≤ n
  · (refine Ga ?_)
    (apply Lst_call; (focus rfl); (focus rfl))
    refine (c_insert v1 n v3 (20 * x) (20 * x + 20) B l (by omega) hxn (by omega) A hoA (Nat.le_trans hB bA.size) hlen hdl).mono ?_
    rintro v C ⟨rfl, ⟨l', hoC, hsm', hout, hseg⟩, hC⟩
    (refine Ga ?_)
    refine rndQ_n (α := Nat) (x + 1) ⟨by omega, l', hoC, hsm.trans hsm', fun y hy => ?_, bA.trans hC⟩ ⟨rfl, rfl, rfl, rfl, ?_, ?_, trivial⟩ (by omega)
    · by_cases hyx : y = x
      · rw [hyx]; exact hseg
      · intro p q hp hpq hq
        rw [hout p (.inl (by omega)), hout q (.inl (by omega))]
        exact hsg y (by omega) p q hp hpq hq
    · exact congrArg (Value.int .i64) (by omega)
    · exact congrArg (Value.int .i64) (by omega)
  · (refine Ga ?_)
    (apply Lst_call; (focus rfl); (focus rfl))
    refine (c_insert v1 n v3 (20 * x) n B l (by omega) (Nat.le_refl _) hx A hoA (Nat.le_trans hB bA.size) hlen hdl).mono ?_
    rintro v C ⟨rfl, ⟨l', hoC, hsm', hout, hseg⟩, hC⟩
    have hsg' : ∀ y, y < x → Seg (fid l') (20 * y) (20 * y + 20) := fun y hy p q hp hpq hq => by
      rw [hout p (.inl (by omega)), hout q (.inl (by omega))]
      exact hsg y hy p q hp hpq hq
    have hs20 : ∀ y, Seg (fid l') (20 * y) (min (20 * y + 20) n) := fun y p q hp hpq hq => by
      by_cases hyx : y < x
      · exact hsg' y hyx p q hp hpq (by omega)
      · exact hseg p q (by omega) hpq (by omega)
    have bC := bA.trans hC
    have hsC := hsm.trans hsm'
    clear hsg hsg' hout hseg hoA bA hsm hsm' hC hx hxn hdl hlen
    (refine Ga ?_)
    refine W_loop (α := Nat) (fun bs => [(0, .slice v1 n v3), (1, .int .i64 (n : Int)), (2, .func (.func 32) #[] #[]), (6, .int .i64 (bs : Int))])
      (fun bs A => ∃ l, OwnO B A (.slice v1 n v3) l ∧ Same' l0 l ∧ (bs = 20 ∧ (∀ y, Seg (fid l) (20 * y) (min (20 * y + 20) n)) ∨ bs = 40 ∧ Seg (fid l) 0 (min 40 n) ∧ Seg (fid l) 40 n ∨ bs = 80 ∧ Seg (fid l) 0 n) ∧ Below B w A) (fun bs _ => 80 - bs) 20 ⟨l', hoC, hsC, .inl ⟨rfl, hs20⟩, bC⟩ ⟨rfl, rfl, rfl, rfl, trivial⟩ ?_
    clear hoC hsC hs20 bC l' l
    rintro J bs A ⟨l, hoA, hsm, hh, bA⟩
    have hlen := hsm.len.trans hl0
    have hdl := hsm.dis
    rw [hlen] at hdl
    rcases hh with ⟨rfl, hs⟩ | ⟨rfl, hs1, hs2⟩ | ⟨rfl, hs⟩
    · by_cases hbn : 20 < n
      · have t0 := hs 0
        have t1 := hs 1
        have t2 := hs 2
        (refine Ga ?_)
        refine W_loop (α := Nat) (fun r => [(0, .slice v1 n v3), (1, .int .i64 (n : Int)), (2, .func (.func 32) #[] #[]), (6, .int .i64 20), (7, .int .i64 ((40 * r : Nat) : Int)), (8, .int .i64 ((40 * r + 40 : Nat) : Int))])
          (fun r X => r ≤ 1 ∧ ∃ l', OwnO B X (.slice v1 n v3) l' ∧ Same' l0 l' ∧ (r = 0 ∧ l' = l ∨ r = 1 ∧ 40 ≤ n ∧ Seg (fid l') 0 40 ∧ Seg (fid l') 40 n) ∧ Below B w X) (fun r _ => 1 - r) 0 ⟨Nat.zero_le _, l, hoA, hsm, .inl ⟨rfl, rfl⟩, bA⟩ ⟨rfl, rfl, rfl, rfl, rfl, rfl, trivial⟩ ?_
        rintro J r X ⟨hr, l', hoX, hsX, hh, bX⟩
        rcases hh with ⟨rfl, rfl⟩ | ⟨rfl, h40, hs1, hs2⟩
        · by_cases h40 : 40 ≤ n
          · (refine Ga ?_)
            (apply Lst_call; (focus rfl); (focus rfl))
            refine (c_symMerge v1 n v3 B (by omega) n 0 20 40 (by omega) (by omega) (by omega) (by omega) l' X hoX (Nat.le_trans hB bX.size) hlen hdl (fun p q hp hpq hq => t0 p q (by omega) hpq (by omega)) (fun p q hp hpq hq => t1 p q (by omega) hpq (by omega))).mono ?_
            rintro v C ⟨rfl, ⟨l2, hoC, hsC, hm⟩, hC⟩
            (refine Ga ?_)
            refine rndQ_n (α := Nat) 1 ⟨Nat.le_refl _, l2, hoC, hsX.trans hsC, .inr ⟨rfl, h40, hm.seg, fun p q hp hpq hq => ?_⟩, bX.trans hC⟩ ⟨rfl, rfl, rfl, rfl, rfl, rfl, trivial⟩ (by omega)
            rw [hm.out p (.inr hp), hm.out q (.inr (by omega))]
            exact t2 p q (by omega) hpq (by omega)
          · (refine Ga ?_)
            (apply Lst_call; (focus rfl); (focus rfl))
            refine (c_symMerge v1 n v3 B (by omega) n 0 20 n (by omega) (by omega) (by omega) (by omega) l' X hoX (Nat.le_trans hB bX.size) hlen hdl (fun p q hp hpq hq => t0 p q (by omega) hpq (by omega)) (fun p q hp hpq hq => t1 p q (by omega) hpq (by omega))).mono ?_
            rintro v C ⟨rfl, ⟨l2, hoC, hsC, hm⟩, hC⟩
            (refine Ga ?_)
            exact rndQ_n (α := Nat) 40 ⟨l2, hoC, hsX.trans hsC, .inr (.inl ⟨rfl, fun p q hp hpq hq => hm.seg p q hp hpq (by omega), fun p q hp hpq hq => by omega⟩), bX.trans hC⟩ ⟨rfl, rfl, rfl, rfl, trivial⟩ (by omega)
        · (refine Ga ?_)
          exact rndQ_n (α := Nat) 40 ⟨l', hoX, hsX, .inr (.inl ⟨rfl, fun p q hp hpq hq => hs1 p q hp hpq (by omega), hs2⟩), bX⟩ ⟨rfl, rfl, rfl, rfl, trivial⟩ (by omega)
      · (refine Ga ?_)
        apply retQ0n
        exact ⟨rfl, ⟨l, hoA, hsm, fun p q hp hpq hq => hs 0 p q (by omega) hpq (by omega)⟩, bA⟩
    · by_cases hbn : 40 < n
      · (refine Ga ?_)
        refine W_loop (α := Unit) (fun _ => [(0, .slice v1 n v3), (1, .int .i64 (n : Int)), (2, .func (.func 32) #[] #[]), (6, .int .i64 40), (7, .int .i64 0), (8, .int .i64 80)]) (fun _ X => X = A) (fun _ _ => 0) () rfl ⟨rfl, rfl, rfl, rfl, rfl, rfl, trivial⟩ ?_
        rintro J _ X rfl
        (refine Ga ?_)
        (apply Lst_call; (focus rfl); (focus rfl))
        refine (c_symMerge v1 n v3 B (by omega) n 0 40 n (by omega) (by omega) (by omega) (by omega) l X hoA (Nat.le_trans hB bA.size) hlen hdl (fun p q hp hpq hq => hs1 p q hp hpq (by omega)) (hs2)).mono ?_
        rintro v C ⟨rfl, ⟨l2, hoC, hsC, hm⟩, hC⟩
        (refine Ga ?_)
        exact rndQ_n (α := Nat) 80 ⟨l2, hoC, hsm.trans hsC, .inr (.inr ⟨rfl, hm.seg⟩), bA.trans hC⟩ ⟨rfl, rfl, rfl, rfl, trivial⟩ (by omega)
      · (refine Ga ?_)
        apply retQ0n
        exact ⟨rfl, ⟨l, hoA, hsm, fun p q hp hpq hq => hs1 p q hp hpq (by omega)⟩, bA⟩
    · (refine Ga ?_)
      apply retQ0n
      exact ⟨rfl, ⟨l, hoA, hsm, hs⟩, bA⟩
set_option maxHeartbeats 2000000 in
theorem c_SortN (v1 : Option Addr) (n v3 B : Nat) (l0 : List Mo) (hn : n ≤ 60) (w : World) (ho : OwnO B w (.slice v1 n v3) l0) (hB : B ≤ w.heap.size) (hl0 : l0.length = n) (hd : Dis (fid l0) n) :
    Does Tryd.prog 31 #[.slice v1 n v3, .func (.func 32) #[] #[]] w fun v w' => v = .tuple #[] ∧ (∃ l, OwnO B w' (.slice v1 n v3) l ∧ Same' l0 l ∧ Seg (fid l) 0 n) ∧ Below B w w' := by
  refine Does_of (args := [.slice v1 n v3, .func (.func 32) #[] #[]]) Tryd.func31 (by kernel_rfl) rfl rfl rfl rfl rfl ?_
  (refine Ga ?_)
  (apply Lst_call; (focus rfl); (focus rfl))
  refine (c_stableN v1 n v3 B l0 hn w ho hB hl0 hd).mono ?_
  rintro v C ⟨rfl, h, bC⟩
  (refine Ga ?_)
  apply retQ0n
  exact ⟨rfl, h, bC⟩
end
end Op
end Go.Proofs.YtifkedhbelflkaaDoor
