/- MarksOrder's walk. -/
import Derived.Test.YtmgipnckojopcaaGreatPbMkS
import Derived.Test.YtmgipnckojopcaaGreatPbMkQ
namespace Go.Proofs.YtmgipnckojopcaaGreat
set_option maxRecDepth 100000
namespace Mk
open Go Go.RowKit Sx Tl Sq Val
theorem sameO_v {a b : Mo} (h : sameO a b = true) : cmpV a.v b.v = 0 := by
  unfold sameO at h
  simp only [Bool.and_eq_true, decide_eq_true_eq] at h
  exact h.2.2.2.2.2.2.1
theorem cmpI_z {a b : Int} (h : cmpI a b = 0) : a = b := by
  unfold cmpI at h
  split at h
  · cases h
  · split at h
    · cases h
    · omega
theorem cmpV_k {x y : Vl} (h : cmpV x y = 0) : x.k = y.k := by
  rw [cmpV_eq] at h
  split at h
  · rename_i h1
    exact absurd h h1
  · rename_i h1
    exact cmpI_z (Decidable.byContradiction fun h => h1 h)
/-- Marks that have one id are alike, if each is like those ahead of it. -/
theorem tied_of {l : List Mo} (h : ∀ i (hi : i < l.length) k (hk : k < i), l[i].id = (l[k]'(by omega)).id → l[i].k = 3 → (l[k]'(by omega)).k = 3 → sameO l[i] (l[k]'(by omega)) = true) : Tied (l.filter fun o => decide (o.k = 3)) := fun a ha b hb e => by
  obtain ⟨ha, ka⟩ := List.mem_filter.1 ha
  obtain ⟨hb, kb⟩ := List.mem_filter.1 hb
  obtain ⟨i, hi, rfl⟩ := List.getElem_of_mem ha
  obtain ⟨j, hj, rfl⟩ := List.getElem_of_mem hb
  have ka := of_decide_eq_true ka
  have kb := of_decide_eq_true kb
  rcases Nat.lt_trichotomy i j with h1 | rfl | h1
  · have h2 := sameO_v (h j hj i h1 e.symm kb ka)
    have h3 := cmpV_neg (l[j]).v (l[i]).v
    have h4 : cmpV (l[i]).v (l[j]).v = 0 := by omega
    exact ⟨h4, cmpV_k h4⟩
  · exact ⟨cmpV_self _, rfl⟩
  · have h2 := sameO_v (h i hi j h1 e ka kb)
    exact ⟨h2, cmpV_k h2⟩
theorem SRows.cuthiM {w : World} {sz c n : Nat} {a : Option Addr} {ls : List (List Value)} (h : SRows w sz (.slice a ls.length c) ls) (hn : n ≤ ls.length) : SRows w sz (sliced a 0 n c sz) (ls.take n) := by
  obtain ⟨b, off, cap, hf, hr⟩ := h
  have hl : (ls.take n).length = n := by rw [List.length_take]; omega
  rcases hf with hf | ⟨hf, rfl⟩
  · cases hf
    refine ⟨b, off, c - 0, .inl ?_, fun i hi => ?_⟩
    · unfold sliced
      rw [hl]
      split <;> simp [add_none]
    · rw [hl] at hi
      obtain ⟨h1, h2⟩ := hr i (by omega)
      refine ⟨h1, fun j u hu => h2 j u ?_⟩
      rwa [List.getElem_take] at hu
  · cases hf
    obtain rfl : n = 0 := by simpa using hn
    exact ⟨0, 0, 0, .inr ⟨by unfold sliced; simp, rfl⟩, fun i hi => absurd hi (Nat.not_lt_zero _)⟩
/-- Operations of one's own. -/
def OwnO (B : Nat) (w : World) (v : Value) (l : List Mo) : Prop := w.ownsRow B 47 22 v l.length (l.map ocs).flatten
theorem OwnO.nil (B : Nat) (w : World) : OwnO B w (.slice none 0 0) [] := World.ownsRow_nil w B 47 22
theorem OwnO.rows {B : Nat} {w : World} {v : Value} {l : List Mo} (h : OwnO B w v l) : SRows w 22 v (l.map ocs) := by
  have h' : w.ownsRow B 47 22 v (l.map ocs).length (l.map ocs).flatten := by rw [List.length_map]; exact h
  exact SRows.of_own h' (ocs_len l) (by decide)
theorem OwnO.out {B : Nat} {w : World} {v : Value} {l : List Mo} (h : OwnO B w v l) {F : Nat → Prop} (hF : ∀ g, F g → g < B) : Out F v := fun b off sp n c e h0 hf => by
  have h1 := hF b hf
  rcases h.2 with ⟨h2, _⟩ | ⟨g, cap, cur, h2, h3, _⟩
  · rw [h2] at e
    cases e
  · rw [h2] at e
    cases e
    omega
theorem Lst_appendO {rd : Option Nat} {n : Nat} {ops : Array Oper} {Q : Post} {rest : List Oper} {F : Fr} {ds : List Deferred} {w : World} {ty : TypeId} {pos : String} {after : Array Edge} {d B : Nat} {s x : Operand} {v y : Value} {l k : List Mo}
    (hown : OwnO B w v l) (hy : SRows w 22 y (k.map ocs)) (hl : l.length + k.length ≤ 1000000) (hbase : B ≤ w.heap.size) (hs : ev F s = v) (hx : ev F x = y) (hd : Nat.blt d n = true)
    (h : ∀ v' w', OwnO B w' v' (l ++ k) → Below B w w' → Lst Tryz.prog rd n ops Q rest (upd F d v') ds w') :
    Lst Tryz.prog rd n ops Q (⟨some d, .call { callee := .builtin .append, args := #[s, x], argTypes := #[22, 22] }, ty, pos, after, none⟩ :: rest) F ds w := by
  apply Lst_appendR (hown := hown) (hy := hy) (hls := ocs_len k) (hone := ocs_one k) (bytes := 200)
  focus exact hs
  focus exact hx
  focus rfl
  focus rfl
  focus rfl
  focus rfl
  focus rfl
  focus rfl
  focus rfl
  focus (rw [List.length_map]; omega)
  focus (rw [List.length_map]; omega)
  focus exact hbase
  focus exact hd
  intro v' w' ho hg
  refine h v' w' ?_ (Below.own (Below.refl B w) hown hg (Nat.le_refl _) hbase)
  unfold OwnO
  rw [List.length_append, List.map_append, List.flatten_append]
  rw [List.length_map] at ho
  exact ho
/-- Two of them change places: the same ones are there. -/
theorem swap_mem {α : Type} {l : List α} {i k : Nat} (hi : i < l.length) (hk : k < l.length) (x : α) : x ∈ (l.set i l[k]).set k l[i] ↔ x ∈ l := by
  have h1 : ∀ j, ((l.set i l[k]).set k l[i])[j]? = if k = j then some l[i] else if i = j then some l[k] else l[j]? := fun j => by
    rw [set_get (by rw [List.length_set]; exact hk), set_get hi]
  constructor
  · intro h
    obtain ⟨j, hj⟩ := List.mem_iff_getElem?.1 h
    rw [h1] at hj
    split at hj
    · cases hj; exact List.getElem_mem hi
    · split at hj
      · cases hj; exact List.getElem_mem hk
      · exact List.mem_iff_getElem?.2 ⟨j, hj⟩
  · intro h
    obtain ⟨j, hj⟩ := List.mem_iff_getElem?.1 h
    have hjl : j < l.length := (List.getElem?_eq_some_iff.1 hj).1
    by_cases e1 : j = i
    · subst e1
      refine List.mem_iff_getElem?.2 ⟨k, ?_⟩
      rw [h1, if_pos rfl, ← hj, List.getElem?_eq_getElem hjl]
    · by_cases e2 : j = k
      · subst e2
        refine List.mem_iff_getElem?.2 ⟨i, ?_⟩
        rw [h1, if_neg e1, if_pos rfl, ← hj, List.getElem?_eq_getElem hjl]
      · refine List.mem_iff_getElem?.2 ⟨j, ?_⟩
        rw [h1, if_neg (Ne.symm e2), if_neg (Ne.symm e1), hj]
theorem Pl.keepB {p q B : Nat} {F G : Nat → Prop} {t r : Fo} {w0 A A' : World} (h : Pl w0 A p q F G t r) (hB : w0.heap.size ≤ B) (hF : ∀ g, F g → g < B) (hG : ∀ g, G g → g < B) (hk : Below B A A') : Pl w0 A' p q F G t r :=
  ⟨h.sq.kept hk.os hk.tape hk.output hk.size fun g hg => hk.block g (hF g hg), h.ref.kept hk.size fun g hg => hk.block g (hG g hg), h.apart, h.lowF, h.lowG, h.bel.trans (hk.mono hB)⟩
theorem allL_fit {t : Fo} {ls : List Mo} (hf : ∀ o ∈ ls, o.v.Fit) (hl : ls.length ≤ 1000000) : ∀ x ∈ allL t ls, x.length ≤ 1000000 ∧ ∀ q ∈ x, q.2.Fit := fun x hx => by
  obtain ⟨i, _, rfl⟩ := List.mem_map.1 hx
  exact ⟨Nat.le_trans (told_len t _ ls) hl, told_fit hf⟩
theorem All2.sameL {t : Fo} {ls ms : List Mo} (hm : ∀ o, o ∈ ls ↔ o ∈ ms) (ht : Tied (ls.filter fun o => decide (o.k = 3))) : ∀ k (h1 : k < (allL t ls).length) (h2 : k < (allL t ms).length), Mk.sameL (allL t ls)[k] (allL t ms)[k] = true := fun k h1 h2 => by
  rw [allL_at, allL_at]
  exact order_same t _ hm ht
section
attribute [local irreducible] RnS
attribute [local irreducible] W Lst Qst Pu seqQ blkQ rndQ cutQ retQ Does Enters IntKind.wrap bits sb World.alloc World.putObj Blk
set_option maxHeartbeats 4000000 in
theorem c_sameAll {B C : Nat} {xs ys : List (List Mk)} {a b : Option Addr} {c d : Nat} (w : World) (hx : OwnLL B w (.slice a xs.length c) xs) (hy : OwnLL C w (.slice b ys.length d) ys) (hlen : xs.length = ys.length) (hl : xs.length ≤ 1000000) (hs : ∀ k (h1 : k < xs.length) (h2 : k < ys.length), Mk.sameL xs[k] ys[k] = true)
    (fx : ∀ x ∈ xs, x.length ≤ 1000000 ∧ ∀ q ∈ x, q.2.Fit) (fy : ∀ x ∈ ys, ∀ q ∈ x, q.2.Fit) : Does Tryz.prog 16 #[.slice a xs.length c, .slice b ys.length d] w fun v w' => v = .bool true ∧ Below w.heap.size w w' := by
  refine Does_of (args := [.slice a xs.length c, .slice b ys.length d]) Tryz.func16 (by kernel_rfl) rfl rfl rfl rfl rfl ?_
  (refine Ga ?_)
  refine W_loop (α := Nat) (fun k => [(0, .slice a xs.length c), (1, .slice b ys.length d), (5, .int .i64 (k : Int))]) (fun k A => k ≤ xs.length ∧ Below w.heap.size w A) (fun k _ => xs.length - k) 0 ⟨Nat.zero_le _, Bel⟩ ⟨rfl, rfl, rfl, trivial⟩ ?_
  rintro J k A ⟨hk, bA⟩
  by_cases hkl : k < xs.length
  · obtain ⟨g, v1, c1, rfl, hc1, ho1⟩ := (hx.below bA).at hkl
    obtain ⟨g', v2, c2, rfl, hc2, ho2⟩ := (hy.below bA).at (k := k) (by omega)
    have f1 := fx _ (List.getElem_mem hkl)
    have f2 := fy (ys[k]'(by omega)) (List.getElem_mem _)
    have hsk := hs k hkl (by omega)
    have r1 := ho1.rows
    have r2 := ho2.rows
    generalize xs[k] = xk at *
    generalize ys[k]'(by omega) = yk at *
    (refine Ga ?_)
    refine W_drawS 10 (fun Z => Below A.heap.size A Z) rfl rfl ?_
    have hS := Below.drew (Below.refl A.heap.size A)
    generalize A.drew = Z at *
    refine S_takeV 0 9 rfl (by kernel_rfl) (by repeat (first | exact retQ_p | apply seqQ_p | apply blkQ_p | apply rndQ_p | apply cutQ_p)) hS ?_
    (refine Qb ?_)
    refine S_takeV 1 8 rfl (by kernel_rfl) (by repeat (first | exact retQ_p | apply seqQ_p | apply blkQ_p | apply rndQ_p | apply cutQ_p)) hS ?_
    (refine Qb ?_)
    refine S_takeV 2 7 rfl (by kernel_rfl) (by repeat (first | exact retQ_p | apply seqQ_p | apply blkQ_p | apply rndQ_p | apply cutQ_p)) hS ?_
    apply Qst_pu
    · apply P_idx1 (j := k)
      focus rfl
      focus rfl
      focus rfl
      focus rfl
      focus rfl
      focus exact hkl
    focus rfl
    (refine Qb ?_)
    refine S_takeV 3 6 rfl (by kernel_rfl) (by repeat (first | exact retQ_p | apply seqQ_p | apply blkQ_p | apply rndQ_p | apply cutQ_p)) hS ?_
    apply Qst_loadc
    focus rfl
    focus rfl
    focus rfl
    focus exact fun A9 hA9 => cell_below hA9 hc1
    focus rfl
    (refine Qb ?_)
    refine S_takeV 4 5 rfl (by kernel_rfl) (by repeat (first | exact retQ_p | apply seqQ_p | apply blkQ_p | apply rndQ_p | apply cutQ_p)) hS ?_
    (refine Qb ?_)
    refine S_takeV 5 4 rfl (by kernel_rfl) (by repeat (first | exact retQ_p | apply seqQ_p | apply blkQ_p | apply rndQ_p | apply cutQ_p)) hS ?_
    (refine Qb ?_)
    refine S_takeV 6 3 rfl (by kernel_rfl) (by repeat (first | exact retQ_p | apply seqQ_p | apply blkQ_p | apply rndQ_p | apply cutQ_p)) hS ?_
    apply Qst_pu
    · apply P_idx1 (j := k)
      focus rfl
      focus rfl
      focus rfl
      focus rfl
      focus rfl
      focus omega
    focus rfl
    (refine Qb ?_)
    refine S_takeV 7 2 rfl (by kernel_rfl) (by repeat (first | exact retQ_p | apply seqQ_p | apply blkQ_p | apply rndQ_p | apply cutQ_p)) hS ?_
    apply Qst_loadc
    focus rfl
    focus rfl
    focus rfl
    focus exact fun A9 hA9 => cell_below hA9 hc2
    focus rfl
    (refine Qb ?_)
    refine S_any [8] 1 rfl (by kernel_rfl) (all1 ?_)
    (apply Lst_call; (focus rfl); (focus rfl))
    refine (r_Same xk yk v1 v2 c1 c2 f1.1 f1.2 f2 Z (SRows.below r1 hS (Nat.le_refl _)) (SRows.below r2 hS (Nat.le_refl _))).mono ?_
    rintro v V ⟨rfl, hV⟩
    rw [hsk]
    apply Lst_nil
    apply rnQ_n
    have hS2 := hS.trans (hV.mono hS.size)
    refine ⟨hS2, ?_⟩
    clear hS hV
    have hS := hS2
    refine S_takeV 9 0 rfl (by kernel_rfl) (by repeat (first | exact retQ_p | apply seqQ_p | apply blkQ_p | apply rndQ_p | apply cutQ_p)) hS ?_
    (refine Qb ?_)
    refine S_done (by kernel_rfl) ?_
    (refine Ga ?_)
    refine rndQ_n (α := Nat) (k + 1) ⟨hkl, bA.trans (hS.mono bA.size)⟩ ⟨rfl, rfl, ?_, trivial⟩ (by omega)
    exact congrArg (Value.int .i64) (by omega)
  · (refine Ga ?_)
    (apply retQ1; (focus rfl))
    exact ⟨rfl, bA⟩
set_option maxHeartbeats 4000000 in
theorem law_MarksOrder (n turn : Int) (ls : List Mo) (a : Option Addr) (c : Nat) (hlc : ls.length ≤ c) (hl : ls.length ≤ 281474976710656) (hf : ∀ o ∈ ls, o.v.Fit) (w : World) (hr : SRows w 22 (.slice a ls.length c) (ls.map ocs)) :
    Does Tryz.prog 4 #[.int .i64 n, .slice a ls.length c, .int .i64 turn] w fun v w' => v = .bool true ∧ Below w.heap.size w w' := by
  refine Does_of (args := [.int .i64 n, .slice a ls.length c, .int .i64 turn]) Tryz.func4 (by kernel_rfl) rfl rfl rfl rfl rfl ?_
  (refine Ga ?_)
  (apply Lst_call; (focus rfl); (focus rfl))
  refine (c_known w).mono ?_
  rintro v w1 ⟨rfl, hb1⟩
  have hr1 := SRows.below hr hb1 (Nat.le_refl _)
  (refine Ga ?_)
  (apply Lst_call; (focus rfl); (focus rfl))
  refine (c_light ls a c hl w1 hr1).mono ?_
  rintro v w2 ⟨b, rfl, hli, hb2⟩
  have bw2 := hb1.trans (hb2.mono hb1.size)
  cases b with
  | false =>
    (refine Ga ?_)
    (apply retQ1; (focus rfl))
    exact ⟨rfl, bw2⟩
  | true =>
    obtain ⟨h40, hsz⟩ := hli rfl
    clear hr1 hb1 hb2 hli
    (refine Ga ?_)
    refine W_loop (α := Nat) (fun i => [(0, .int .i64 n), (1, .slice a ls.length c), (2, .int .i64 turn), (7, .int .i64 (i : Int))])
      (fun i A => i ≤ ls.length ∧ (∀ x (hx : x < ls.length), x < i → ∀ y (hy : y < x), ls[x].id = (ls[y]'(by omega)).id → ls[x].k = 3 → (ls[y]'(by omega)).k = 3 → sameO ls[x] (ls[y]'(by omega)) = true) ∧ Below w.heap.size w A) (fun i _ => ls.length - i) 0 ⟨Nat.zero_le _, fun x _ h => absurd h (Nat.not_lt_zero _), bw2⟩ ⟨rfl, rfl, rfl, rfl, trivial⟩ ?_
    clear bw2
    rintro J i A0 ⟨hi, hall, bA0⟩
    by_cases hil : i < ls.length
    · (refine Ga ?_)
      refine W_loop (α := Nat) (fun k => [(0, .int .i64 n), (1, .slice a ls.length c), (2, .int .i64 turn), (7, .int .i64 (i : Int)), (8, .int .i64 (k : Int))])
        (fun k A => k ≤ i ∧ (∀ j (hj : j < i), j < k → ls[i].id = (ls[j]'(by omega)).id → ls[i].k = 3 → (ls[j]'(by omega)).k = 3 → sameO ls[i] (ls[j]'(by omega)) = true) ∧ Below w.heap.size w A) (fun k _ => i - k) 0 ⟨Nat.zero_le _, fun x _ h => absurd h (Nat.not_lt_zero _), bA0⟩ ⟨rfl, rfl, rfl, rfl, rfl, trivial⟩ ?_
      clear bA0 A0
      rintro J k A ⟨hk, hok, bA⟩
      by_cases hkl : k < i
      · (refine Ga ?_)
        have hrA := SRows.below hr bA (Nat.le_refl _)
        obtain ⟨g, off, rfl, _, hci⟩ := hrA.at (i := i) (by rw [List.length_map]; exact hil)
        obtain ⟨g', off', e', _, hck⟩ := hrA.at (i := k) (by rw [List.length_map]; omega)
        cases e'
        rw [List.getElem_map] at hci hck
        have fi := hf ls[i] (List.getElem_mem hil)
        have fk := hf (ls[k]'(by omega)) (List.getElem_mem _)
        have hki' : k + 1 ≤ i := hkl
        generalize hoi : ls[i] = oi at *
        generalize hokk : ls[k]'(by omega) = ok at *
        have hdi : ∀ (j : Nat) (v : Value), [Value.int .u64 (oi.id.1 : Int), .int .u64 (oi.id.2 : Int)][j]? = some v → A.cell? ⟨g, off + i * 22 + j, none⟩ = some v := fun j v hj => by
          rcases j with _ | _ | j
          · exact hci 0 v hj
          · exact hci 1 v hj
          · cases hj
        have hdk : ∀ (j : Nat) (v : Value), [Value.int .u64 (ok.id.1 : Int), .int .u64 (ok.id.2 : Int)][j]? = some v → A.cell? ⟨g, off + k * 22 + j, none⟩ = some v := fun j v hj => by
          rcases j with _ | _ | j
          · exact hck 0 v hj
          · exact hck 1 v hj
          · cases hj
        have hki := hci 2 (.int .i64 oi.k) rfl
        have hkk := hck 2 (.int .i64 ok.k) rfl
        by_cases e1 : oi.id = ok.id
        · by_cases e2 : oi.k = 3
          · by_cases e3 : ok.k = 3
            · skip
              refine W_drawS 39 (fun Z => Below A.heap.size A Z) rfl rfl ?_
              have hS := Below.drew (Below.refl A.heap.size A)
              generalize A.drew = Z at *
              refine S_takeV 0 38 rfl (by kernel_rfl) (by repeat (first | exact retQ_p | apply seqQ_p | apply blkQ_p | apply rndQ_p | apply cutQ_p)) hS ?_
              (refine Qb ?_)
              refine S_takeV 1 37 rfl (by kernel_rfl) (by repeat (first | exact retQ_p | apply seqQ_p | apply blkQ_p | apply rndQ_p | apply cutQ_p)) hS ?_
              (refine Qb ?_)
              refine S_takeV 2 36 rfl (by kernel_rfl) (by repeat (first | exact retQ_p | apply seqQ_p | apply blkQ_p | apply rndQ_p | apply cutQ_p)) hS ?_
              apply Qst_pu
              · apply P_idxm (j := i) (sz := 22)
                focus rfl
                focus rfl
                focus rfl
                focus rfl
                focus rfl
                focus omega
              focus rfl
              (refine Qb ?_)
              refine S_takeV 3 35 rfl (by kernel_rfl) (by repeat (first | exact retQ_p | apply seqQ_p | apply blkQ_p | apply rndQ_p | apply cutQ_p)) hS ?_
              (refine Qb ?_)
              refine S_takeV 4 34 rfl (by kernel_rfl) (by repeat (first | exact retQ_p | apply seqQ_p | apply blkQ_p | apply rndQ_p | apply cutQ_p)) hS ?_
              apply Qst_loadS (cs := [.int .u64 (oi.id.1 : Int), .int .u64 (oi.id.2 : Int)])
              focus rfl
              focus rfl
              focus rfl
              focus rfl
              focus rfl
              focus exact fun A9 hA9 j v hj => cell_below hA9 (hdi j v hj)
              focus rfl
              (refine Qb ?_)
              refine S_takeV 5 33 rfl (by kernel_rfl) (by repeat (first | exact retQ_p | apply seqQ_p | apply blkQ_p | apply rndQ_p | apply cutQ_p)) hS ?_
              (refine Qb ?_)
              refine S_takeV 6 32 rfl (by kernel_rfl) (by repeat (first | exact retQ_p | apply seqQ_p | apply blkQ_p | apply rndQ_p | apply cutQ_p)) hS ?_
              (refine Qb ?_)
              refine S_takeV 7 31 rfl (by kernel_rfl) (by repeat (first | exact retQ_p | apply seqQ_p | apply blkQ_p | apply rndQ_p | apply cutQ_p)) hS ?_
              apply Qst_pu
              · apply P_idxm (j := k) (sz := 22)
                focus rfl
                focus rfl
                focus rfl
                focus rfl
                focus rfl
                focus omega
              focus rfl
              (refine Qb ?_)
              refine S_takeV 8 30 rfl (by kernel_rfl) (by repeat (first | exact retQ_p | apply seqQ_p | apply blkQ_p | apply rndQ_p | apply cutQ_p)) hS ?_
              (refine Qb ?_)
              refine S_takeV 9 29 rfl (by kernel_rfl) (by repeat (first | exact retQ_p | apply seqQ_p | apply blkQ_p | apply rndQ_p | apply cutQ_p)) hS ?_
              apply Qst_loadS (cs := [.int .u64 (ok.id.1 : Int), .int .u64 (ok.id.2 : Int)])
              focus rfl
              focus rfl
              focus rfl
              focus rfl
              focus rfl
              focus exact fun A9 hA9 j v hj => cell_below hA9 (hdk j v hj)
              focus rfl
              (refine Qb ?_)
              refine S_takeV 10 28 rfl (by kernel_rfl) (by repeat (first | exact retQ_p | apply seqQ_p | apply blkQ_p | apply rndQ_p | apply cutQ_p)) hS ?_
              apply Qst_pu
              · apply P_eqA
                focus rfl
                focus rfl
                focus kernel_rfl
                focus exact (by have := id_eq oi.id ok.id; rw [decide_eq_true e1] at this; exact this)
                focus rfl
              focus rfl
              (refine Qb ?_)
              refine S_takeV 11 27 rfl (by kernel_rfl) (by repeat (first | exact retQ_p | apply seqQ_p | apply blkQ_p | apply rndQ_p | apply cutQ_p)) hS ?_
              (refine Qb ?_)
              refine S_takeV 12 26 rfl (by kernel_rfl) (by repeat (first | exact retQ_p | apply seqQ_p | apply blkQ_p | apply rndQ_p | apply cutQ_p)) hS ?_
              (refine Qb ?_)
              refine S_takeV 13 25 rfl (by kernel_rfl) (by repeat (first | exact retQ_p | apply seqQ_p | apply blkQ_p | apply rndQ_p | apply cutQ_p)) hS ?_
              (refine Qb ?_)
              refine S_takeV 14 24 rfl (by kernel_rfl) (by repeat (first | exact retQ_p | apply seqQ_p | apply blkQ_p | apply rndQ_p | apply cutQ_p)) hS ?_
              apply Qst_guard_t
              focus rfl
              focus rfl
              apply Qst_pu
              · apply P_idxm (j := i) (sz := 22)
                focus rfl
                focus rfl
                focus rfl
                focus rfl
                focus rfl
                focus omega
              focus rfl
              (refine Qb ?_)
              refine S_takeV 15 23 rfl (by kernel_rfl) (by repeat (first | exact retQ_p | apply seqQ_p | apply blkQ_p | apply rndQ_p | apply cutQ_p)) hS ?_
              (refine Qb ?_)
              refine S_takeV 16 22 rfl (by kernel_rfl) (by repeat (first | exact retQ_p | apply seqQ_p | apply blkQ_p | apply rndQ_p | apply cutQ_p)) hS ?_
              apply Qst_guard_t
              focus rfl
              focus rfl
              apply Qst_loadc
              focus rfl
              focus rfl
              focus rfl
              focus exact fun A9 hA9 => cell_below hA9 hki
              focus rfl
              (refine Qb ?_)
              refine S_takeV 17 21 rfl (by kernel_rfl) (by repeat (first | exact retQ_p | apply seqQ_p | apply blkQ_p | apply rndQ_p | apply cutQ_p)) hS ?_
              (refine Qb ?_)
              refine S_takeV 18 20 rfl (by kernel_rfl) (by repeat (first | exact retQ_p | apply seqQ_p | apply blkQ_p | apply rndQ_p | apply cutQ_p)) hS ?_
              (refine Qb ?_)
              refine S_takeV 19 19 rfl (by kernel_rfl) (by repeat (first | exact retQ_p | apply seqQ_p | apply blkQ_p | apply rndQ_p | apply cutQ_p)) hS ?_
              (refine Qb ?_)
              refine S_takeV 20 18 rfl (by kernel_rfl) (by repeat (first | exact retQ_p | apply seqQ_p | apply blkQ_p | apply rndQ_p | apply cutQ_p)) hS ?_
              (refine Qb ?_)
              refine S_takeV 21 17 rfl (by kernel_rfl) (by repeat (first | exact retQ_p | apply seqQ_p | apply blkQ_p | apply rndQ_p | apply cutQ_p)) hS ?_
              (refine Qb ?_)
              refine S_takeV 22 16 rfl (by kernel_rfl) (by repeat (first | exact retQ_p | apply seqQ_p | apply blkQ_p | apply rndQ_p | apply cutQ_p)) hS ?_
              apply Qst_guard_t
              focus rfl
              focus rfl
              apply Qst_pu
              · apply P_idxm (j := k) (sz := 22)
                focus rfl
                focus rfl
                focus rfl
                focus rfl
                focus rfl
                focus omega
              focus rfl
              (refine Qb ?_)
              refine S_takeV 23 15 rfl (by kernel_rfl) (by repeat (first | exact retQ_p | apply seqQ_p | apply blkQ_p | apply rndQ_p | apply cutQ_p)) hS ?_
              (refine Qb ?_)
              refine S_takeV 24 14 rfl (by kernel_rfl) (by repeat (first | exact retQ_p | apply seqQ_p | apply blkQ_p | apply rndQ_p | apply cutQ_p)) hS ?_
              apply Qst_guard_t
              focus rfl
              focus rfl
              apply Qst_loadc
              focus rfl
              focus rfl
              focus rfl
              focus exact fun A9 hA9 => cell_below hA9 hkk
              focus rfl
              (refine Qb ?_)
              refine S_takeV 25 13 rfl (by kernel_rfl) (by repeat (first | exact retQ_p | apply seqQ_p | apply blkQ_p | apply rndQ_p | apply cutQ_p)) hS ?_
              (refine Qb ?_)
              refine S_takeV 26 12 rfl (by kernel_rfl) (by repeat (first | exact retQ_p | apply seqQ_p | apply blkQ_p | apply rndQ_p | apply cutQ_p)) hS ?_
              (refine Qb ?_)
              refine S_takeV 27 11 rfl (by kernel_rfl) (by repeat (first | exact retQ_p | apply seqQ_p | apply blkQ_p | apply rndQ_p | apply cutQ_p)) hS ?_
              (refine Qb ?_)
              refine S_takeV 28 10 rfl (by kernel_rfl) (by repeat (first | exact retQ_p | apply seqQ_p | apply blkQ_p | apply rndQ_p | apply cutQ_p)) hS ?_
              (refine Qb ?_)
              refine S_takeV 29 9 rfl (by kernel_rfl) (by repeat (first | exact retQ_p | apply seqQ_p | apply blkQ_p | apply rndQ_p | apply cutQ_p)) hS ?_
              (refine Qb ?_)
              refine S_takeV 30 8 rfl (by kernel_rfl) (by repeat (first | exact retQ_p | apply seqQ_p | apply blkQ_p | apply rndQ_p | apply cutQ_p)) hS ?_
              apply Qst_guard_t
              focus rfl
              focus rfl
              apply Qst_pu
              · apply P_idxm (j := i) (sz := 22)
                focus rfl
                focus rfl
                focus rfl
                focus rfl
                focus rfl
                focus omega
              focus rfl
              (refine Qb ?_)
              refine S_takeV 31 7 rfl (by kernel_rfl) (by repeat (first | exact retQ_p | apply seqQ_p | apply blkQ_p | apply rndQ_p | apply cutQ_p)) hS ?_
              apply Qst_guard_t
              focus rfl
              focus rfl
              apply Qst_loadS (cs := ocs oi)
              focus rfl
              focus rfl
              focus rfl
              focus rfl
              focus rfl
              focus exact fun A9 hA9 j v hj => cell_below hA9 (hci j v hj)
              focus rfl
              (refine Qb ?_)
              refine S_takeV 32 6 rfl (by kernel_rfl) (by repeat (first | exact retQ_p | apply seqQ_p | apply blkQ_p | apply rndQ_p | apply cutQ_p)) hS ?_
              (refine Qb ?_)
              refine S_takeV 33 5 rfl (by kernel_rfl) (by repeat (first | exact retQ_p | apply seqQ_p | apply blkQ_p | apply rndQ_p | apply cutQ_p)) hS ?_
              (refine Qb ?_)
              refine S_takeV 34 4 rfl (by kernel_rfl) (by repeat (first | exact retQ_p | apply seqQ_p | apply blkQ_p | apply rndQ_p | apply cutQ_p)) hS ?_
              apply Qst_guard_t
              focus rfl
              focus rfl
              apply Qst_pu
              · apply P_idxm (j := k) (sz := 22)
                focus rfl
                focus rfl
                focus rfl
                focus rfl
                focus rfl
                focus omega
              focus rfl
              (refine Qb ?_)
              refine S_takeV 35 3 rfl (by kernel_rfl) (by repeat (first | exact retQ_p | apply seqQ_p | apply blkQ_p | apply rndQ_p | apply cutQ_p)) hS ?_
              apply Qst_guard_t
              focus rfl
              focus rfl
              apply Qst_loadS (cs := ocs ok)
              focus rfl
              focus rfl
              focus rfl
              focus rfl
              focus rfl
              focus exact fun A9 hA9 j v hj => cell_below hA9 (hck j v hj)
              focus rfl
              (refine Qb ?_)
              refine S_any [36] 2 rfl (by kernel_rfl) (all1 ?_)
              apply Lst_guard_t
              focus rfl
              focus rfl
              (apply Lst_call; (focus rfl); (focus rfl))
              refine (o_Same oi ok fi fk Z).mono ?_
              rintro v V ⟨rfl, hV⟩
              apply Lst_nil
              apply rnQ_n
              have hS2 := hS.trans (hV.mono hS.size)
              refine ⟨hS2, ?_⟩
              clear hS hV
              have hS := hS2
              refine S_takeV 37 1 rfl (by kernel_rfl) (by repeat (first | exact retQ_p | apply seqQ_p | apply blkQ_p | apply rndQ_p | apply cutQ_p)) hS ?_
              (refine Qb ?_)
              refine S_takeV 38 0 rfl (by kernel_rfl) (by repeat (first | exact retQ_p | apply seqQ_p | apply blkQ_p | apply rndQ_p | apply cutQ_p)) hS ?_
              (refine Qb ?_)
              refine S_done (by kernel_rfl) ?_
              cases hso : sameO oi ok with
              | true =>
                (refine Ga ?_)
                refine rndQ_n (α := Nat) (k + 1) ⟨hki', fun j hj hjk => ?_, bA.trans (hS.mono bA.size)⟩ ⟨rfl, rfl, rfl, rfl, ?_, trivial⟩ (by omega)
                · rcases Nat.lt_succ_iff_lt_or_eq.1 hjk with h | rfl
                  · exact hok j hj h
                  · rw [hokk]; exact fun _ _ _ => hso
                · exact congrArg (Value.int .i64) (by omega)
              | false =>
                (refine Ga ?_)
                (apply retQ1; (focus rfl))
                exact ⟨rfl, bA.trans (hS.mono bA.size)⟩
            · skip
              refine W_drawS 39 (fun Z => Below A.heap.size A Z) rfl rfl ?_
              have hS := Below.drew (Below.refl A.heap.size A)
              generalize A.drew = Z at *
              refine S_takeV 0 38 rfl (by kernel_rfl) (by repeat (first | exact retQ_p | apply seqQ_p | apply blkQ_p | apply rndQ_p | apply cutQ_p)) hS ?_
              (refine Qb ?_)
              refine S_takeV 1 37 rfl (by kernel_rfl) (by repeat (first | exact retQ_p | apply seqQ_p | apply blkQ_p | apply rndQ_p | apply cutQ_p)) hS ?_
              (refine Qb ?_)
              refine S_takeV 2 36 rfl (by kernel_rfl) (by repeat (first | exact retQ_p | apply seqQ_p | apply blkQ_p | apply rndQ_p | apply cutQ_p)) hS ?_
              apply Qst_pu
              · apply P_idxm (j := i) (sz := 22)
                focus rfl
                focus rfl
                focus rfl
                focus rfl
                focus rfl
                focus omega
              focus rfl
              (refine Qb ?_)
              refine S_takeV 3 35 rfl (by kernel_rfl) (by repeat (first | exact retQ_p | apply seqQ_p | apply blkQ_p | apply rndQ_p | apply cutQ_p)) hS ?_
              (refine Qb ?_)
              refine S_takeV 4 34 rfl (by kernel_rfl) (by repeat (first | exact retQ_p | apply seqQ_p | apply blkQ_p | apply rndQ_p | apply cutQ_p)) hS ?_
              apply Qst_loadS (cs := [.int .u64 (oi.id.1 : Int), .int .u64 (oi.id.2 : Int)])
              focus rfl
              focus rfl
              focus rfl
              focus rfl
              focus rfl
              focus exact fun A9 hA9 j v hj => cell_below hA9 (hdi j v hj)
              focus rfl
              (refine Qb ?_)
              refine S_takeV 5 33 rfl (by kernel_rfl) (by repeat (first | exact retQ_p | apply seqQ_p | apply blkQ_p | apply rndQ_p | apply cutQ_p)) hS ?_
              (refine Qb ?_)
              refine S_takeV 6 32 rfl (by kernel_rfl) (by repeat (first | exact retQ_p | apply seqQ_p | apply blkQ_p | apply rndQ_p | apply cutQ_p)) hS ?_
              (refine Qb ?_)
              refine S_takeV 7 31 rfl (by kernel_rfl) (by repeat (first | exact retQ_p | apply seqQ_p | apply blkQ_p | apply rndQ_p | apply cutQ_p)) hS ?_
              apply Qst_pu
              · apply P_idxm (j := k) (sz := 22)
                focus rfl
                focus rfl
                focus rfl
                focus rfl
                focus rfl
                focus omega
              focus rfl
              (refine Qb ?_)
              refine S_takeV 8 30 rfl (by kernel_rfl) (by repeat (first | exact retQ_p | apply seqQ_p | apply blkQ_p | apply rndQ_p | apply cutQ_p)) hS ?_
              (refine Qb ?_)
              refine S_takeV 9 29 rfl (by kernel_rfl) (by repeat (first | exact retQ_p | apply seqQ_p | apply blkQ_p | apply rndQ_p | apply cutQ_p)) hS ?_
              apply Qst_loadS (cs := [.int .u64 (ok.id.1 : Int), .int .u64 (ok.id.2 : Int)])
              focus rfl
              focus rfl
              focus rfl
              focus rfl
              focus rfl
              focus exact fun A9 hA9 j v hj => cell_below hA9 (hdk j v hj)
              focus rfl
              (refine Qb ?_)
              refine S_takeV 10 28 rfl (by kernel_rfl) (by repeat (first | exact retQ_p | apply seqQ_p | apply blkQ_p | apply rndQ_p | apply cutQ_p)) hS ?_
              apply Qst_pu
              · apply P_eqA
                focus rfl
                focus rfl
                focus kernel_rfl
                focus exact (by have := id_eq oi.id ok.id; rw [decide_eq_true e1] at this; exact this)
                focus rfl
              focus rfl
              (refine Qb ?_)
              refine S_takeV 11 27 rfl (by kernel_rfl) (by repeat (first | exact retQ_p | apply seqQ_p | apply blkQ_p | apply rndQ_p | apply cutQ_p)) hS ?_
              (refine Qb ?_)
              refine S_takeV 12 26 rfl (by kernel_rfl) (by repeat (first | exact retQ_p | apply seqQ_p | apply blkQ_p | apply rndQ_p | apply cutQ_p)) hS ?_
              (refine Qb ?_)
              refine S_takeV 13 25 rfl (by kernel_rfl) (by repeat (first | exact retQ_p | apply seqQ_p | apply blkQ_p | apply rndQ_p | apply cutQ_p)) hS ?_
              (refine Qb ?_)
              refine S_takeV 14 24 rfl (by kernel_rfl) (by repeat (first | exact retQ_p | apply seqQ_p | apply blkQ_p | apply rndQ_p | apply cutQ_p)) hS ?_
              apply Qst_guard_t
              focus rfl
              focus rfl
              apply Qst_pu
              · apply P_idxm (j := i) (sz := 22)
                focus rfl
                focus rfl
                focus rfl
                focus rfl
                focus rfl
                focus omega
              focus rfl
              (refine Qb ?_)
              refine S_takeV 15 23 rfl (by kernel_rfl) (by repeat (first | exact retQ_p | apply seqQ_p | apply blkQ_p | apply rndQ_p | apply cutQ_p)) hS ?_
              (refine Qb ?_)
              refine S_takeV 16 22 rfl (by kernel_rfl) (by repeat (first | exact retQ_p | apply seqQ_p | apply blkQ_p | apply rndQ_p | apply cutQ_p)) hS ?_
              apply Qst_guard_t
              focus rfl
              focus rfl
              apply Qst_loadc
              focus rfl
              focus rfl
              focus rfl
              focus exact fun A9 hA9 => cell_below hA9 hki
              focus rfl
              (refine Qb ?_)
              refine S_takeV 17 21 rfl (by kernel_rfl) (by repeat (first | exact retQ_p | apply seqQ_p | apply blkQ_p | apply rndQ_p | apply cutQ_p)) hS ?_
              (refine Qb ?_)
              refine S_takeV 18 20 rfl (by kernel_rfl) (by repeat (first | exact retQ_p | apply seqQ_p | apply blkQ_p | apply rndQ_p | apply cutQ_p)) hS ?_
              (refine Qb ?_)
              refine S_takeV 19 19 rfl (by kernel_rfl) (by repeat (first | exact retQ_p | apply seqQ_p | apply blkQ_p | apply rndQ_p | apply cutQ_p)) hS ?_
              (refine Qb ?_)
              refine S_takeV 20 18 rfl (by kernel_rfl) (by repeat (first | exact retQ_p | apply seqQ_p | apply blkQ_p | apply rndQ_p | apply cutQ_p)) hS ?_
              (refine Qb ?_)
              refine S_takeV 21 17 rfl (by kernel_rfl) (by repeat (first | exact retQ_p | apply seqQ_p | apply blkQ_p | apply rndQ_p | apply cutQ_p)) hS ?_
              (refine Qb ?_)
              refine S_takeV 22 16 rfl (by kernel_rfl) (by repeat (first | exact retQ_p | apply seqQ_p | apply blkQ_p | apply rndQ_p | apply cutQ_p)) hS ?_
              apply Qst_guard_t
              focus rfl
              focus rfl
              apply Qst_pu
              · apply P_idxm (j := k) (sz := 22)
                focus rfl
                focus rfl
                focus rfl
                focus rfl
                focus rfl
                focus omega
              focus rfl
              (refine Qb ?_)
              refine S_takeV 23 15 rfl (by kernel_rfl) (by repeat (first | exact retQ_p | apply seqQ_p | apply blkQ_p | apply rndQ_p | apply cutQ_p)) hS ?_
              (refine Qb ?_)
              refine S_takeV 24 14 rfl (by kernel_rfl) (by repeat (first | exact retQ_p | apply seqQ_p | apply blkQ_p | apply rndQ_p | apply cutQ_p)) hS ?_
              apply Qst_guard_t
              focus rfl
              focus rfl
              apply Qst_loadc
              focus rfl
              focus rfl
              focus rfl
              focus exact fun A9 hA9 => cell_below hA9 hkk
              focus rfl
              (refine Qb ?_)
              refine S_takeV 25 13 rfl (by kernel_rfl) (by repeat (first | exact retQ_p | apply seqQ_p | apply blkQ_p | apply rndQ_p | apply cutQ_p)) hS ?_
              (refine Qb ?_)
              refine S_takeV 26 12 rfl (by kernel_rfl) (by repeat (first | exact retQ_p | apply seqQ_p | apply blkQ_p | apply rndQ_p | apply cutQ_p)) hS ?_
              (refine Qb ?_)
              refine S_takeV 27 11 rfl (by kernel_rfl) (by repeat (first | exact retQ_p | apply seqQ_p | apply blkQ_p | apply rndQ_p | apply cutQ_p)) hS ?_
              (refine Qb ?_)
              refine S_takeV 28 10 rfl (by kernel_rfl) (by repeat (first | exact retQ_p | apply seqQ_p | apply blkQ_p | apply rndQ_p | apply cutQ_p)) hS ?_
              (refine Qb ?_)
              refine S_takeV 29 9 rfl (by kernel_rfl) (by repeat (first | exact retQ_p | apply seqQ_p | apply blkQ_p | apply rndQ_p | apply cutQ_p)) hS ?_
              (refine Qb ?_)
              refine S_takeV 30 8 rfl (by kernel_rfl) (by repeat (first | exact retQ_p | apply seqQ_p | apply blkQ_p | apply rndQ_p | apply cutQ_p)) hS ?_
              (refine Qb ?_)
              refine S_takeV 31 7 rfl (by kernel_rfl) (by repeat (first | exact retQ_p | apply seqQ_p | apply blkQ_p | apply rndQ_p | apply cutQ_p)) hS ?_
              (refine Qb ?_)
              refine S_takeV 32 6 rfl (by kernel_rfl) (by repeat (first | exact retQ_p | apply seqQ_p | apply blkQ_p | apply rndQ_p | apply cutQ_p)) hS ?_
              (refine Qb ?_)
              refine S_takeV 33 5 rfl (by kernel_rfl) (by repeat (first | exact retQ_p | apply seqQ_p | apply blkQ_p | apply rndQ_p | apply cutQ_p)) hS ?_
              (refine Qb ?_)
              refine S_takeV 34 4 rfl (by kernel_rfl) (by repeat (first | exact retQ_p | apply seqQ_p | apply blkQ_p | apply rndQ_p | apply cutQ_p)) hS ?_
              (refine Qb ?_)
              refine S_takeV 35 3 rfl (by kernel_rfl) (by repeat (first | exact retQ_p | apply seqQ_p | apply blkQ_p | apply rndQ_p | apply cutQ_p)) hS ?_
              (refine Qb ?_)
              refine S_any [36] 2 rfl (by kernel_rfl) (all1 ?_)
              (refine Gf ?_)
              apply rnQ_n
              refine ⟨hS, ?_⟩
              refine S_takeV 37 1 rfl (by kernel_rfl) (by repeat (first | exact retQ_p | apply seqQ_p | apply blkQ_p | apply rndQ_p | apply cutQ_p)) hS ?_
              (refine Qb ?_)
              refine S_takeV 38 0 rfl (by kernel_rfl) (by repeat (first | exact retQ_p | apply seqQ_p | apply blkQ_p | apply rndQ_p | apply cutQ_p)) hS ?_
              (refine Qb ?_)
              refine S_done (by kernel_rfl) ?_
              (refine Ga ?_)
              refine rndQ_n (α := Nat) (k + 1) ⟨hki', fun j hj hjk => ?_, bA.trans (hS.mono bA.size)⟩ ⟨rfl, rfl, rfl, rfl, ?_, trivial⟩ (by omega)
              · rcases Nat.lt_succ_iff_lt_or_eq.1 hjk with h | rfl
                · exact hok j hj h
                · rw [hokk]; exact fun _ _ h => absurd h e3
              · exact congrArg (Value.int .i64) (by omega)
          · skip
            refine W_drawS 39 (fun Z => Below A.heap.size A Z) rfl rfl ?_
            have hS := Below.drew (Below.refl A.heap.size A)
            generalize A.drew = Z at *
            refine S_takeV 0 38 rfl (by kernel_rfl) (by repeat (first | exact retQ_p | apply seqQ_p | apply blkQ_p | apply rndQ_p | apply cutQ_p)) hS ?_
            (refine Qb ?_)
            refine S_takeV 1 37 rfl (by kernel_rfl) (by repeat (first | exact retQ_p | apply seqQ_p | apply blkQ_p | apply rndQ_p | apply cutQ_p)) hS ?_
            (refine Qb ?_)
            refine S_takeV 2 36 rfl (by kernel_rfl) (by repeat (first | exact retQ_p | apply seqQ_p | apply blkQ_p | apply rndQ_p | apply cutQ_p)) hS ?_
            apply Qst_pu
            · apply P_idxm (j := i) (sz := 22)
              focus rfl
              focus rfl
              focus rfl
              focus rfl
              focus rfl
              focus omega
            focus rfl
            (refine Qb ?_)
            refine S_takeV 3 35 rfl (by kernel_rfl) (by repeat (first | exact retQ_p | apply seqQ_p | apply blkQ_p | apply rndQ_p | apply cutQ_p)) hS ?_
            (refine Qb ?_)
            refine S_takeV 4 34 rfl (by kernel_rfl) (by repeat (first | exact retQ_p | apply seqQ_p | apply blkQ_p | apply rndQ_p | apply cutQ_p)) hS ?_
            apply Qst_loadS (cs := [.int .u64 (oi.id.1 : Int), .int .u64 (oi.id.2 : Int)])
            focus rfl
            focus rfl
            focus rfl
            focus rfl
            focus rfl
            focus exact fun A9 hA9 j v hj => cell_below hA9 (hdi j v hj)
            focus rfl
            (refine Qb ?_)
            refine S_takeV 5 33 rfl (by kernel_rfl) (by repeat (first | exact retQ_p | apply seqQ_p | apply blkQ_p | apply rndQ_p | apply cutQ_p)) hS ?_
            (refine Qb ?_)
            refine S_takeV 6 32 rfl (by kernel_rfl) (by repeat (first | exact retQ_p | apply seqQ_p | apply blkQ_p | apply rndQ_p | apply cutQ_p)) hS ?_
            (refine Qb ?_)
            refine S_takeV 7 31 rfl (by kernel_rfl) (by repeat (first | exact retQ_p | apply seqQ_p | apply blkQ_p | apply rndQ_p | apply cutQ_p)) hS ?_
            apply Qst_pu
            · apply P_idxm (j := k) (sz := 22)
              focus rfl
              focus rfl
              focus rfl
              focus rfl
              focus rfl
              focus omega
            focus rfl
            (refine Qb ?_)
            refine S_takeV 8 30 rfl (by kernel_rfl) (by repeat (first | exact retQ_p | apply seqQ_p | apply blkQ_p | apply rndQ_p | apply cutQ_p)) hS ?_
            (refine Qb ?_)
            refine S_takeV 9 29 rfl (by kernel_rfl) (by repeat (first | exact retQ_p | apply seqQ_p | apply blkQ_p | apply rndQ_p | apply cutQ_p)) hS ?_
            apply Qst_loadS (cs := [.int .u64 (ok.id.1 : Int), .int .u64 (ok.id.2 : Int)])
            focus rfl
            focus rfl
            focus rfl
            focus rfl
            focus rfl
            focus exact fun A9 hA9 j v hj => cell_below hA9 (hdk j v hj)
            focus rfl
            (refine Qb ?_)
            refine S_takeV 10 28 rfl (by kernel_rfl) (by repeat (first | exact retQ_p | apply seqQ_p | apply blkQ_p | apply rndQ_p | apply cutQ_p)) hS ?_
            apply Qst_pu
            · apply P_eqA
              focus rfl
              focus rfl
              focus kernel_rfl
              focus exact (by have := id_eq oi.id ok.id; rw [decide_eq_true e1] at this; exact this)
              focus rfl
            focus rfl
            (refine Qb ?_)
            refine S_takeV 11 27 rfl (by kernel_rfl) (by repeat (first | exact retQ_p | apply seqQ_p | apply blkQ_p | apply rndQ_p | apply cutQ_p)) hS ?_
            (refine Qb ?_)
            refine S_takeV 12 26 rfl (by kernel_rfl) (by repeat (first | exact retQ_p | apply seqQ_p | apply blkQ_p | apply rndQ_p | apply cutQ_p)) hS ?_
            (refine Qb ?_)
            refine S_takeV 13 25 rfl (by kernel_rfl) (by repeat (first | exact retQ_p | apply seqQ_p | apply blkQ_p | apply rndQ_p | apply cutQ_p)) hS ?_
            (refine Qb ?_)
            refine S_takeV 14 24 rfl (by kernel_rfl) (by repeat (first | exact retQ_p | apply seqQ_p | apply blkQ_p | apply rndQ_p | apply cutQ_p)) hS ?_
            apply Qst_guard_t
            focus rfl
            focus rfl
            apply Qst_pu
            · apply P_idxm (j := i) (sz := 22)
              focus rfl
              focus rfl
              focus rfl
              focus rfl
              focus rfl
              focus omega
            focus rfl
            (refine Qb ?_)
            refine S_takeV 15 23 rfl (by kernel_rfl) (by repeat (first | exact retQ_p | apply seqQ_p | apply blkQ_p | apply rndQ_p | apply cutQ_p)) hS ?_
            (refine Qb ?_)
            refine S_takeV 16 22 rfl (by kernel_rfl) (by repeat (first | exact retQ_p | apply seqQ_p | apply blkQ_p | apply rndQ_p | apply cutQ_p)) hS ?_
            apply Qst_guard_t
            focus rfl
            focus rfl
            apply Qst_loadc
            focus rfl
            focus rfl
            focus rfl
            focus exact fun A9 hA9 => cell_below hA9 hki
            focus rfl
            (refine Qb ?_)
            refine S_takeV 17 21 rfl (by kernel_rfl) (by repeat (first | exact retQ_p | apply seqQ_p | apply blkQ_p | apply rndQ_p | apply cutQ_p)) hS ?_
            (refine Qb ?_)
            refine S_takeV 18 20 rfl (by kernel_rfl) (by repeat (first | exact retQ_p | apply seqQ_p | apply blkQ_p | apply rndQ_p | apply cutQ_p)) hS ?_
            (refine Qb ?_)
            refine S_takeV 19 19 rfl (by kernel_rfl) (by repeat (first | exact retQ_p | apply seqQ_p | apply blkQ_p | apply rndQ_p | apply cutQ_p)) hS ?_
            (refine Qb ?_)
            refine S_takeV 20 18 rfl (by kernel_rfl) (by repeat (first | exact retQ_p | apply seqQ_p | apply blkQ_p | apply rndQ_p | apply cutQ_p)) hS ?_
            (refine Qb ?_)
            refine S_takeV 21 17 rfl (by kernel_rfl) (by repeat (first | exact retQ_p | apply seqQ_p | apply blkQ_p | apply rndQ_p | apply cutQ_p)) hS ?_
            (refine Qb ?_)
            refine S_takeV 22 16 rfl (by kernel_rfl) (by repeat (first | exact retQ_p | apply seqQ_p | apply blkQ_p | apply rndQ_p | apply cutQ_p)) hS ?_
            (refine Qb ?_)
            refine S_takeV 23 15 rfl (by kernel_rfl) (by repeat (first | exact retQ_p | apply seqQ_p | apply blkQ_p | apply rndQ_p | apply cutQ_p)) hS ?_
            (refine Qb ?_)
            refine S_takeV 24 14 rfl (by kernel_rfl) (by repeat (first | exact retQ_p | apply seqQ_p | apply blkQ_p | apply rndQ_p | apply cutQ_p)) hS ?_
            (refine Qb ?_)
            refine S_takeV 25 13 rfl (by kernel_rfl) (by repeat (first | exact retQ_p | apply seqQ_p | apply blkQ_p | apply rndQ_p | apply cutQ_p)) hS ?_
            (refine Qb ?_)
            refine S_takeV 26 12 rfl (by kernel_rfl) (by repeat (first | exact retQ_p | apply seqQ_p | apply blkQ_p | apply rndQ_p | apply cutQ_p)) hS ?_
            (refine Qb ?_)
            refine S_takeV 27 11 rfl (by kernel_rfl) (by repeat (first | exact retQ_p | apply seqQ_p | apply blkQ_p | apply rndQ_p | apply cutQ_p)) hS ?_
            (refine Qb ?_)
            refine S_takeV 28 10 rfl (by kernel_rfl) (by repeat (first | exact retQ_p | apply seqQ_p | apply blkQ_p | apply rndQ_p | apply cutQ_p)) hS ?_
            (refine Qb ?_)
            refine S_takeV 29 9 rfl (by kernel_rfl) (by repeat (first | exact retQ_p | apply seqQ_p | apply blkQ_p | apply rndQ_p | apply cutQ_p)) hS ?_
            (refine Qb ?_)
            refine S_takeV 30 8 rfl (by kernel_rfl) (by repeat (first | exact retQ_p | apply seqQ_p | apply blkQ_p | apply rndQ_p | apply cutQ_p)) hS ?_
            (refine Qb ?_)
            refine S_takeV 31 7 rfl (by kernel_rfl) (by repeat (first | exact retQ_p | apply seqQ_p | apply blkQ_p | apply rndQ_p | apply cutQ_p)) hS ?_
            (refine Qb ?_)
            refine S_takeV 32 6 rfl (by kernel_rfl) (by repeat (first | exact retQ_p | apply seqQ_p | apply blkQ_p | apply rndQ_p | apply cutQ_p)) hS ?_
            (refine Qb ?_)
            refine S_takeV 33 5 rfl (by kernel_rfl) (by repeat (first | exact retQ_p | apply seqQ_p | apply blkQ_p | apply rndQ_p | apply cutQ_p)) hS ?_
            (refine Qb ?_)
            refine S_takeV 34 4 rfl (by kernel_rfl) (by repeat (first | exact retQ_p | apply seqQ_p | apply blkQ_p | apply rndQ_p | apply cutQ_p)) hS ?_
            (refine Qb ?_)
            refine S_takeV 35 3 rfl (by kernel_rfl) (by repeat (first | exact retQ_p | apply seqQ_p | apply blkQ_p | apply rndQ_p | apply cutQ_p)) hS ?_
            (refine Qb ?_)
            refine S_any [36] 2 rfl (by kernel_rfl) (all1 ?_)
            (refine Gf ?_)
            apply rnQ_n
            refine ⟨hS, ?_⟩
            refine S_takeV 37 1 rfl (by kernel_rfl) (by repeat (first | exact retQ_p | apply seqQ_p | apply blkQ_p | apply rndQ_p | apply cutQ_p)) hS ?_
            (refine Qb ?_)
            refine S_takeV 38 0 rfl (by kernel_rfl) (by repeat (first | exact retQ_p | apply seqQ_p | apply blkQ_p | apply rndQ_p | apply cutQ_p)) hS ?_
            (refine Qb ?_)
            refine S_done (by kernel_rfl) ?_
            (refine Ga ?_)
            refine rndQ_n (α := Nat) (k + 1) ⟨hki', fun j hj hjk => ?_, bA.trans (hS.mono bA.size)⟩ ⟨rfl, rfl, rfl, rfl, ?_, trivial⟩ (by omega)
            · rcases Nat.lt_succ_iff_lt_or_eq.1 hjk with h | rfl
              · exact hok j hj h
              · exact fun _ h => absurd h e2
            · exact congrArg (Value.int .i64) (by omega)
        · skip
          refine W_drawS 39 (fun Z => Below A.heap.size A Z) rfl rfl ?_
          have hS := Below.drew (Below.refl A.heap.size A)
          generalize A.drew = Z at *
          refine S_takeV 0 38 rfl (by kernel_rfl) (by repeat (first | exact retQ_p | apply seqQ_p | apply blkQ_p | apply rndQ_p | apply cutQ_p)) hS ?_
          (refine Qb ?_)
          refine S_takeV 1 37 rfl (by kernel_rfl) (by repeat (first | exact retQ_p | apply seqQ_p | apply blkQ_p | apply rndQ_p | apply cutQ_p)) hS ?_
          (refine Qb ?_)
          refine S_takeV 2 36 rfl (by kernel_rfl) (by repeat (first | exact retQ_p | apply seqQ_p | apply blkQ_p | apply rndQ_p | apply cutQ_p)) hS ?_
          apply Qst_pu
          · apply P_idxm (j := i) (sz := 22)
            focus rfl
            focus rfl
            focus rfl
            focus rfl
            focus rfl
            focus omega
          focus rfl
          (refine Qb ?_)
          refine S_takeV 3 35 rfl (by kernel_rfl) (by repeat (first | exact retQ_p | apply seqQ_p | apply blkQ_p | apply rndQ_p | apply cutQ_p)) hS ?_
          (refine Qb ?_)
          refine S_takeV 4 34 rfl (by kernel_rfl) (by repeat (first | exact retQ_p | apply seqQ_p | apply blkQ_p | apply rndQ_p | apply cutQ_p)) hS ?_
          apply Qst_loadS (cs := [.int .u64 (oi.id.1 : Int), .int .u64 (oi.id.2 : Int)])
          focus rfl
          focus rfl
          focus rfl
          focus rfl
          focus rfl
          focus exact fun A9 hA9 j v hj => cell_below hA9 (hdi j v hj)
          focus rfl
          (refine Qb ?_)
          refine S_takeV 5 33 rfl (by kernel_rfl) (by repeat (first | exact retQ_p | apply seqQ_p | apply blkQ_p | apply rndQ_p | apply cutQ_p)) hS ?_
          (refine Qb ?_)
          refine S_takeV 6 32 rfl (by kernel_rfl) (by repeat (first | exact retQ_p | apply seqQ_p | apply blkQ_p | apply rndQ_p | apply cutQ_p)) hS ?_
          (refine Qb ?_)
          refine S_takeV 7 31 rfl (by kernel_rfl) (by repeat (first | exact retQ_p | apply seqQ_p | apply blkQ_p | apply rndQ_p | apply cutQ_p)) hS ?_
          apply Qst_pu
          · apply P_idxm (j := k) (sz := 22)
            focus rfl
            focus rfl
            focus rfl
            focus rfl
            focus rfl
            focus omega
          focus rfl
          (refine Qb ?_)
          refine S_takeV 8 30 rfl (by kernel_rfl) (by repeat (first | exact retQ_p | apply seqQ_p | apply blkQ_p | apply rndQ_p | apply cutQ_p)) hS ?_
          (refine Qb ?_)
          refine S_takeV 9 29 rfl (by kernel_rfl) (by repeat (first | exact retQ_p | apply seqQ_p | apply blkQ_p | apply rndQ_p | apply cutQ_p)) hS ?_
          apply Qst_loadS (cs := [.int .u64 (ok.id.1 : Int), .int .u64 (ok.id.2 : Int)])
          focus rfl
          focus rfl
          focus rfl
          focus rfl
          focus rfl
          focus exact fun A9 hA9 j v hj => cell_below hA9 (hdk j v hj)
          focus rfl
          (refine Qb ?_)
          refine S_takeV 10 28 rfl (by kernel_rfl) (by repeat (first | exact retQ_p | apply seqQ_p | apply blkQ_p | apply rndQ_p | apply cutQ_p)) hS ?_
          apply Qst_pu
          · apply P_eqA
            focus rfl
            focus rfl
            focus kernel_rfl
            focus exact (by have := id_eq oi.id ok.id; rw [decide_eq_false e1] at this; exact this)
            focus rfl
          focus rfl
          (refine Qb ?_)
          refine S_takeV 11 27 rfl (by kernel_rfl) (by repeat (first | exact retQ_p | apply seqQ_p | apply blkQ_p | apply rndQ_p | apply cutQ_p)) hS ?_
          (refine Qb ?_)
          refine S_takeV 12 26 rfl (by kernel_rfl) (by repeat (first | exact retQ_p | apply seqQ_p | apply blkQ_p | apply rndQ_p | apply cutQ_p)) hS ?_
          (refine Qb ?_)
          refine S_takeV 13 25 rfl (by kernel_rfl) (by repeat (first | exact retQ_p | apply seqQ_p | apply blkQ_p | apply rndQ_p | apply cutQ_p)) hS ?_
          (refine Qb ?_)
          refine S_takeV 14 24 rfl (by kernel_rfl) (by repeat (first | exact retQ_p | apply seqQ_p | apply blkQ_p | apply rndQ_p | apply cutQ_p)) hS ?_
          (refine Qb ?_)
          refine S_takeV 15 23 rfl (by kernel_rfl) (by repeat (first | exact retQ_p | apply seqQ_p | apply blkQ_p | apply rndQ_p | apply cutQ_p)) hS ?_
          (refine Qb ?_)
          refine S_takeV 16 22 rfl (by kernel_rfl) (by repeat (first | exact retQ_p | apply seqQ_p | apply blkQ_p | apply rndQ_p | apply cutQ_p)) hS ?_
          (refine Qb ?_)
          refine S_takeV 17 21 rfl (by kernel_rfl) (by repeat (first | exact retQ_p | apply seqQ_p | apply blkQ_p | apply rndQ_p | apply cutQ_p)) hS ?_
          (refine Qb ?_)
          refine S_takeV 18 20 rfl (by kernel_rfl) (by repeat (first | exact retQ_p | apply seqQ_p | apply blkQ_p | apply rndQ_p | apply cutQ_p)) hS ?_
          (refine Qb ?_)
          refine S_takeV 19 19 rfl (by kernel_rfl) (by repeat (first | exact retQ_p | apply seqQ_p | apply blkQ_p | apply rndQ_p | apply cutQ_p)) hS ?_
          (refine Qb ?_)
          refine S_takeV 20 18 rfl (by kernel_rfl) (by repeat (first | exact retQ_p | apply seqQ_p | apply blkQ_p | apply rndQ_p | apply cutQ_p)) hS ?_
          (refine Qb ?_)
          refine S_takeV 21 17 rfl (by kernel_rfl) (by repeat (first | exact retQ_p | apply seqQ_p | apply blkQ_p | apply rndQ_p | apply cutQ_p)) hS ?_
          (refine Qb ?_)
          refine S_takeV 22 16 rfl (by kernel_rfl) (by repeat (first | exact retQ_p | apply seqQ_p | apply blkQ_p | apply rndQ_p | apply cutQ_p)) hS ?_
          (refine Qb ?_)
          refine S_takeV 23 15 rfl (by kernel_rfl) (by repeat (first | exact retQ_p | apply seqQ_p | apply blkQ_p | apply rndQ_p | apply cutQ_p)) hS ?_
          (refine Qb ?_)
          refine S_takeV 24 14 rfl (by kernel_rfl) (by repeat (first | exact retQ_p | apply seqQ_p | apply blkQ_p | apply rndQ_p | apply cutQ_p)) hS ?_
          (refine Qb ?_)
          refine S_takeV 25 13 rfl (by kernel_rfl) (by repeat (first | exact retQ_p | apply seqQ_p | apply blkQ_p | apply rndQ_p | apply cutQ_p)) hS ?_
          (refine Qb ?_)
          refine S_takeV 26 12 rfl (by kernel_rfl) (by repeat (first | exact retQ_p | apply seqQ_p | apply blkQ_p | apply rndQ_p | apply cutQ_p)) hS ?_
          (refine Qb ?_)
          refine S_takeV 27 11 rfl (by kernel_rfl) (by repeat (first | exact retQ_p | apply seqQ_p | apply blkQ_p | apply rndQ_p | apply cutQ_p)) hS ?_
          (refine Qb ?_)
          refine S_takeV 28 10 rfl (by kernel_rfl) (by repeat (first | exact retQ_p | apply seqQ_p | apply blkQ_p | apply rndQ_p | apply cutQ_p)) hS ?_
          (refine Qb ?_)
          refine S_takeV 29 9 rfl (by kernel_rfl) (by repeat (first | exact retQ_p | apply seqQ_p | apply blkQ_p | apply rndQ_p | apply cutQ_p)) hS ?_
          (refine Qb ?_)
          refine S_takeV 30 8 rfl (by kernel_rfl) (by repeat (first | exact retQ_p | apply seqQ_p | apply blkQ_p | apply rndQ_p | apply cutQ_p)) hS ?_
          (refine Qb ?_)
          refine S_takeV 31 7 rfl (by kernel_rfl) (by repeat (first | exact retQ_p | apply seqQ_p | apply blkQ_p | apply rndQ_p | apply cutQ_p)) hS ?_
          (refine Qb ?_)
          refine S_takeV 32 6 rfl (by kernel_rfl) (by repeat (first | exact retQ_p | apply seqQ_p | apply blkQ_p | apply rndQ_p | apply cutQ_p)) hS ?_
          (refine Qb ?_)
          refine S_takeV 33 5 rfl (by kernel_rfl) (by repeat (first | exact retQ_p | apply seqQ_p | apply blkQ_p | apply rndQ_p | apply cutQ_p)) hS ?_
          (refine Qb ?_)
          refine S_takeV 34 4 rfl (by kernel_rfl) (by repeat (first | exact retQ_p | apply seqQ_p | apply blkQ_p | apply rndQ_p | apply cutQ_p)) hS ?_
          (refine Qb ?_)
          refine S_takeV 35 3 rfl (by kernel_rfl) (by repeat (first | exact retQ_p | apply seqQ_p | apply blkQ_p | apply rndQ_p | apply cutQ_p)) hS ?_
          (refine Qb ?_)
          refine S_any [36] 2 rfl (by kernel_rfl) (all1 ?_)
          (refine Gf ?_)
          apply rnQ_n
          refine ⟨hS, ?_⟩
          refine S_takeV 37 1 rfl (by kernel_rfl) (by repeat (first | exact retQ_p | apply seqQ_p | apply blkQ_p | apply rndQ_p | apply cutQ_p)) hS ?_
          (refine Qb ?_)
          refine S_takeV 38 0 rfl (by kernel_rfl) (by repeat (first | exact retQ_p | apply seqQ_p | apply blkQ_p | apply rndQ_p | apply cutQ_p)) hS ?_
          (refine Qb ?_)
          refine S_done (by kernel_rfl) ?_
          (refine Ga ?_)
          refine rndQ_n (α := Nat) (k + 1) ⟨hki', fun j hj hjk => ?_, bA.trans (hS.mono bA.size)⟩ ⟨rfl, rfl, rfl, rfl, ?_, trivial⟩ (by omega)
          · rcases Nat.lt_succ_iff_lt_or_eq.1 hjk with h | rfl
            · exact hok j hj h
            · rw [hokk]; exact fun h => absurd h e1
          · exact congrArg (Value.int .i64) (by omega)
      · obtain rfl : k = i := by omega
        (refine Ga ?_)
        refine rndQ_n (α := Nat) (k + 1) ⟨hil, fun x hx hxi => ?_, bA⟩ ⟨rfl, rfl, rfl, ?_, trivial⟩ (by omega)
        · rcases Nat.lt_succ_iff_lt_or_eq.1 hxi with h | rfl
          · exact hall x hx h
          · exact fun y hy => hok y hy hy
        · exact congrArg (Value.int .i64) (by omega)
    · have htied : Tied (ls.filter fun o => decide (o.k = 3)) := tied_of fun x hx y hy => hall x hx (by omega) y hy
      clear hall
      (refine Ga ?_)
      (apply Lst_call; (focus rfl); (focus rfl))
      refine (Wire.h_Place n 20 A0 (by omega) (by omega)).mono ?_
      rintro v w' ⟨rfl, rfl⟩
      obtain ⟨m, hm⟩ : ∃ m : Nat, n % 20 = (m : Int) := ⟨(n % 20).toNat, by omega⟩
      rw [hm]
      (refine Ga ?_)
      (apply Lst_call; (focus rfl); (focus rfl))
      refine (c_units m (by omega) A0).mono ?_
      rintro v w3 ⟨p, q, F, G, t, rfl, hP, htz⟩
      have bw3 := bA0.trans (hP.bel.mono bA0.size)
      have hr3 := SRows.below hr bw3 (Nat.le_refl _)
      have hout : Out F (.slice a ls.length c) := fun b off sp n c e h0 => by
        cases e
        obtain ⟨b', o', e, hlt, _⟩ := hr.at (i := 0) (by rw [List.length_map]; exact h0)
        cases e
        exact fun hf => by have := hP.lowF _ hf; have := bA0.size; omega
      have hkey : ∀ o ∈ ls, o.key.size ≤ maxLen := fun o ho => Nat.le_trans (hsz o ho).2 (by decide)
      have hFl : ∀ g, F g → g < w3.heap.size := fun g hg => hP.sq.lt hg
      have hGl : ∀ g, G g → g < w3.heap.size := fun g hg => hP.ref.lt hg
      have h0w := hP.bel.size
      have hcut := SRows.cuthiM (n := ls.length / 2) (ls := ls.map ocs) (by rw [List.length_map]; exact hr3) (by rw [List.length_map]; omega)
      rw [← List.map_take] at hcut
      have hq2 : IntKind.i64.wrap ((ls.length : Int).tdiv 2) = ((ls.length / 2 : Nat) : Int) := by
        show IntKind.i64.wrap ((ls.length / 2 : Nat) : Int) = _
        exact wi64 (by omega) (by omega)
      (refine Ga ?_)
      refine Tl.W_cutS (α := Value) (fun v => [(1, .slice a ls.length c), (2, .int .i64 turn), (9, .pointer (some ⟨p, 0, none⟩)), (11, v)]) (fun v Z => OwnO w3.heap.size Z v (ls ++ ls.take (ls.length / 2)) ∧ Below w3.heap.size w3 Z) ?_ ?_
      · refine W_drawS 9 (fun _ => True) rfl rfl ?_
        have hS := trivial
        have hrd : Below w3.heap.size w3 w3.drew := Below.drew (Below.refl _ _)
        have szd : w3.drew.heap.size = w3.heap.size := rfl
        refine S_takeV 0 8 rfl (by kernel_rfl) (by repeat (first | exact retQ_p | apply seqQ_p | apply blkQ_p | apply rndQ_p | apply cutQ_p)) hS ?_
        (refine Qb ?_)
        refine S_takeV 2 7 rfl (by kernel_rfl) (by repeat (first | exact retQ_p | apply seqQ_p | apply blkQ_p | apply rndQ_p | apply cutQ_p)) hS ?_
        (refine Qb ?_)
        refine S_takeV 3 6 rfl (by kernel_rfl) (by repeat (first | exact retQ_p | apply seqQ_p | apply blkQ_p | apply rndQ_p | apply cutQ_p)) hS ?_
        (refine Qb ?_)
        refine S_any [1, 4] 5 rfl (by kernel_rfl) (all2 ?_ ?_)
        · skip
          apply Lst_appendO (hown := OwnO.nil w3.heap.size w3.drew) (hy := SRows.below hr3 hrd (Nat.le_refl _))
          focus (simp only [List.length_nil]; omega)
          focus exact Nat.le_refl _
          focus rfl
          focus rfl
          focus rfl
          intro v1 B1 hoB1 hbB1
          apply Lst_nil
          apply rnQ_n
          refine ⟨trivial, ?_⟩
          rw [List.nil_append] at hoB1
          refine S_any [4] 4 rfl (by kernel_rfl) (all1 ?_)
          (refine Ga ?_)
          apply rnQ_n
          refine ⟨trivial, ?_⟩
          refine S_takeV 5 3 rfl (by kernel_rfl) (by repeat (first | exact retQ_p | apply seqQ_p | apply blkQ_p | apply rndQ_p | apply cutQ_p)) hS ?_
          apply Qst_pu
          · apply P_quo (r := ((ls.length / 2 : Nat) : Int))
            focus rfl
            focus rfl
            focus omega
            focus exact hq2
          focus rfl
          (refine Qb ?_)
          refine S_takeV 6 2 rfl (by kernel_rfl) (by repeat (first | exact retQ_p | apply seqQ_p | apply blkQ_p | apply rndQ_p | apply cutQ_p)) hS ?_
          apply Qst_pu
          · apply P_lslice_hi (sz := 22) (m' := ((ls.length / 2 : Nat) : Int))
            focus rfl
            focus rfl
            focus rfl
            focus rfl
            focus rfl
            focus omega
            focus omega
          focus rfl
          (refine Qb ?_)
          refine S_any [7] 1 rfl (by kernel_rfl) (all1 ?_)
          have bB1 := hrd.trans (hbB1.mono (Nat.le_refl _))
          apply Lst_appendO (hown := hoB1) (hy := SRows.below hcut bB1 (Nat.le_refl _))
          focus (simp only [List.length_take]; omega)
          focus exact bB1.size
          focus rfl
          focus rfl
          focus rfl
          intro v2 B2 hoB2 hbB2
          apply Lst_nil
          apply rnQ_n
          refine ⟨trivial, ?_⟩
          refine S_takeV 8 0 rfl (by kernel_rfl) (by repeat (first | exact retQ_p | apply seqQ_p | apply blkQ_p | apply rndQ_p | apply cutQ_p)) hS ?_
          (refine Qb ?_)
          refine S_done (by kernel_rfl) ?_
          exact cutQ_n v2 ⟨hoB2, bB1.trans (hbB2.mono (Nat.le_refl _))⟩ ⟨rfl, rfl, rfl, rfl, trivial⟩
        · skip
          (refine Ga ?_)
          apply rnQ_n
          refine ⟨trivial, ?_⟩
          refine S_takeV 5 4 rfl (by kernel_rfl) (by repeat (first | exact retQ_p | apply seqQ_p | apply blkQ_p | apply rndQ_p | apply cutQ_p)) hS ?_
          apply Qst_pu
          · apply P_quo (r := ((ls.length / 2 : Nat) : Int))
            focus rfl
            focus rfl
            focus omega
            focus exact hq2
          focus rfl
          (refine Qb ?_)
          refine S_takeV 6 3 rfl (by kernel_rfl) (by repeat (first | exact retQ_p | apply seqQ_p | apply blkQ_p | apply rndQ_p | apply cutQ_p)) hS ?_
          apply Qst_pu
          · apply P_lslice_hi (sz := 22) (m' := ((ls.length / 2 : Nat) : Int))
            focus rfl
            focus rfl
            focus rfl
            focus rfl
            focus rfl
            focus omega
            focus omega
          focus rfl
          (refine Qb ?_)
          refine S_any [1] 2 rfl (by kernel_rfl) (all1 ?_)
          apply Lst_appendO (hown := OwnO.nil w3.heap.size w3.drew) (hy := SRows.below hr3 hrd (Nat.le_refl _))
          focus (simp only [List.length_nil]; omega)
          focus exact Nat.le_refl _
          focus rfl
          focus rfl
          focus rfl
          intro v1 B1 hoB1 hbB1
          apply Lst_nil
          apply rnQ_n
          refine ⟨trivial, ?_⟩
          rw [List.nil_append] at hoB1
          refine S_any [7] 1 rfl (by kernel_rfl) (all1 ?_)
          have bB1 := hrd.trans (hbB1.mono (Nat.le_refl _))
          apply Lst_appendO (hown := hoB1) (hy := SRows.below hcut bB1 (Nat.le_refl _))
          focus (simp only [List.length_take]; omega)
          focus exact bB1.size
          focus rfl
          focus rfl
          focus rfl
          intro v2 B2 hoB2 hbB2
          apply Lst_nil
          apply rnQ_n
          refine ⟨trivial, ?_⟩
          refine S_takeV 8 0 rfl (by kernel_rfl) (by repeat (first | exact retQ_p | apply seqQ_p | apply blkQ_p | apply rndQ_p | apply cutQ_p)) hS ?_
          (refine Qb ?_)
          refine S_done (by kernel_rfl) ?_
          exact cutQ_n v2 ⟨hoB2, bB1.trans (hbB2.mono (Nat.le_refl _))⟩ ⟨rfl, rfl, rfl, rfl, trivial⟩
      · rintro J v Z ⟨hoZ, bZ⟩
        obtain ⟨v1, v3, rfl, _⟩ := own_form hoZ
        obtain ⟨N, hN⟩ : ∃ N, (ls ++ ls.take (ls.length / 2)).length = N := ⟨_, rfl⟩
        have hNl : N ≤ 60 := by rw [← hN, List.length_append, List.length_take]; omega
        rw [hN]
        (refine Ga ?_)
        (apply Lst_call; (focus rfl); (focus rfl))
        refine (Wire.h_Place turn 1000 Z (by omega) (by omega)).mono ?_
        rintro v w' ⟨rfl, rfl⟩
        obtain ⟨u, hu⟩ : ∃ u : Nat, turn % 1000 = (u : Int) := ⟨(turn % 1000).toNat, by omega⟩
        rw [hu]
        have hu2 : u < 1000 := by omega
        (refine Ga ?_)
        refine W_loop (α := Nat) (fun i => [(1, .slice a ls.length c), (2, .int .i64 (u : Int)), (9, .pointer (some ⟨p, 0, none⟩)), (11, .slice v1 N v3), (12, .int .i64 (i : Int))])
          (fun i A => i ≤ N ∧ ∃ ms : List Mo, OwnO w3.heap.size A (.slice v1 N v3) ms ∧ ms.length = N ∧ (∀ o, o ∈ ls ↔ o ∈ ms) ∧ Below w3.heap.size w3 A) (fun i _ => N - i) 0 ⟨Nat.zero_le _, _, by rw [← hN]; exact hoZ, hN, fun o => ?_, bZ⟩ ⟨rfl, rfl, rfl, rfl, rfl, trivial⟩ ?_
        · rw [List.mem_append]
          exact ⟨.inl, fun h => h.elim id List.mem_of_mem_take⟩
        clear hoZ bZ Z
        rintro J i A ⟨hi, ms, hoA, hlen, hmem, bA⟩
        by_cases hil : i < N
        · obtain ⟨k, hk⟩ : ∃ k, (u + 7 * i) % N = k := ⟨_, rfl⟩
          have hkN : k < N := by rw [← hk]; exact Nat.mod_lt _ (by omega)
          have hk' : ((u : Int) + 7 * (i : Int)).tmod (N : Int) = (k : Int) := by rw [← hk]; rfl
          obtain ⟨g1, cap, l1, e1, _, hgB, kl, hl1, hset⟩ := own_setR0 (w := A.drew) (ls := ms.map ocs) (nn := N) (by unfold OwnO at hoA; rw [hlen] at hoA; exact own_drew hoA) (ocs_len _) (by decide) (k := i) (by rw [List.length_map]; omega)
          cases e1
          have hrow := hoA.rows
          obtain ⟨g', off', e', _, hci⟩ := hrow.at (i := i) (by rw [List.length_map]; omega)
          cases e'
          obtain ⟨g', off', e', _, hck⟩ := hrow.at (i := k) (by rw [List.length_map]; omega)
          cases e'
          rw [List.getElem_map] at hci hck
          obtain ⟨mi, hmi⟩ : ∃ m, ms[i]'(by omega) = m := ⟨_, rfl⟩
          obtain ⟨mk, hmk⟩ : ∃ m, ms[k]'(by omega) = m := ⟨_, rfl⟩
          rw [hmi] at hci
          rw [hmk] at hck
          (refine Ga ?_)
          rw [hk']
          refine W_drawS 16 (fun _ => True) rfl rfl ?_
          have hS := trivial
          refine S_takeV 0 15 rfl (by kernel_rfl) (by repeat (first | exact retQ_p | apply seqQ_p | apply blkQ_p | apply rndQ_p | apply cutQ_p)) hS ?_
          (refine Qb ?_)
          refine S_takeV 1 14 rfl (by kernel_rfl) (by repeat (first | exact retQ_p | apply seqQ_p | apply blkQ_p | apply rndQ_p | apply cutQ_p)) hS ?_
          (refine Qb ?_)
          refine S_takeV 2 13 rfl (by kernel_rfl) (by repeat (first | exact retQ_p | apply seqQ_p | apply blkQ_p | apply rndQ_p | apply cutQ_p)) hS ?_
          (refine Qb ?_)
          refine S_takeV 3 12 rfl (by kernel_rfl) (by repeat (first | exact retQ_p | apply seqQ_p | apply blkQ_p | apply rndQ_p | apply cutQ_p)) hS ?_
          (refine Qb ?_)
          refine S_takeV 4 11 rfl (by kernel_rfl) (by repeat (first | exact retQ_p | apply seqQ_p | apply blkQ_p | apply rndQ_p | apply cutQ_p)) hS ?_
          (refine Qb ?_)
          refine S_takeV 5 10 rfl (by kernel_rfl) (by repeat (first | exact retQ_p | apply seqQ_p | apply blkQ_p | apply rndQ_p | apply cutQ_p)) hS ?_
          (refine Qb ?_)
          refine S_takeV 6 9 rfl (by kernel_rfl) (by repeat (first | exact retQ_p | apply seqQ_p | apply blkQ_p | apply rndQ_p | apply cutQ_p)) hS ?_
          apply Qst_pu
          · apply P_idxm (j := k) (sz := 22)
            focus rfl
            focus rfl
            focus rfl
            focus rfl
            focus rfl
            focus omega
          focus rfl
          (refine Qb ?_)
          refine S_takeV 8 8 rfl (by kernel_rfl) (by repeat (first | exact retQ_p | apply seqQ_p | apply blkQ_p | apply rndQ_p | apply cutQ_p)) hS ?_
          (refine Qb ?_)
          refine S_takeV 9 7 rfl (by kernel_rfl) (by repeat (first | exact retQ_p | apply seqQ_p | apply blkQ_p | apply rndQ_p | apply cutQ_p)) hS ?_
          (refine Qb ?_)
          refine S_takeV 10 6 rfl (by kernel_rfl) (by repeat (first | exact retQ_p | apply seqQ_p | apply blkQ_p | apply rndQ_p | apply cutQ_p)) hS ?_
          apply Qst_pu
          · apply P_idxm (j := i) (sz := 22)
            focus rfl
            focus rfl
            focus rfl
            focus rfl
            focus rfl
            focus omega
          focus rfl
          (refine Qb ?_)
          refine S_any [7, 11] 5 rfl (by kernel_rfl) (all2 ?_ ?_)
          · skip
            apply Lst_loadS' (cs := ocs mk)
            focus rfl
            focus rfl
            focus rfl
            focus rfl
            focus rfl
            focus exact hck
            focus rfl
            apply Lst_nil
            apply rnQ_n
            refine ⟨trivial, ?_⟩
            refine S_any [11] 4 rfl (by kernel_rfl) (all1 ?_)
            apply Lst_loadS' (cs := ocs mi)
            focus rfl
            focus rfl
            focus rfl
            focus rfl
            focus rfl
            focus exact hci
            focus rfl
            apply Lst_nil
            apply rnQ_n
            refine ⟨trivial, ?_⟩
            refine S_any [12] 3 rfl (by kernel_rfl) (all1 ?_)
            apply Lst_pu
            · apply P_idxm (j := i) (sz := 22)
              focus rfl
              focus rfl
              focus rfl
              focus rfl
              focus rfl
              focus omega
            focus rfl
            apply Lst_nil
            apply rnQ_n
            refine ⟨trivial, ?_⟩
            refine S_any [13] 2 rfl (by kernel_rfl) (all1 ?_)
            apply Lst_storeM (vs := ocs mk) (hb := kl)
            focus rfl
            focus rfl
            focus rfl
            focus rfl
            focus exact fun u hu => ocs_one [mk] u (by simpa using hu)
            focus exact hl1
            apply Lst_nil
            apply rnQ_n
            refine ⟨trivial, ?_⟩
            have ho1 := hset (ocs mk) rfl
            rw [← List.map_set] at ho1
            have hn1 : (ms.set i mk).length = N := by rw [List.length_set, hlen]
            obtain ⟨g2, cap2, l2, e2, _, _, kl2, hl2, hset2⟩ := own_setR0 ho1 (ocs_len _) (by decide) (k := k) (by rw [List.length_map, hn1]; exact hkN)
            cases e2
            have ho2 := hset2 (ocs mi) rfl
            rw [← List.map_set] at ho2
            have hn2 : ((ms.set i mk).set k mi).length = N := by rw [List.length_set, hn1]
            refine S_any [14] 1 rfl (by kernel_rfl) (all1 ?_)
            apply Lst_pu
            · apply P_idxm (j := k) (sz := 22)
              focus rfl
              focus rfl
              focus rfl
              focus rfl
              focus rfl
              focus omega
            focus rfl
            apply Lst_nil
            apply rnQ_n
            refine ⟨trivial, ?_⟩
            refine S_any [15] 0 rfl (by kernel_rfl) (all1 ?_)
            apply Lst_storeM (vs := ocs mi) (hb := kl2)
            focus rfl
            focus rfl
            focus rfl
            focus rfl
            focus exact fun u hu => ocs_one [mi] u (by simpa using hu)
            focus exact hl2
            apply Lst_nil
            apply rnQ_n
            refine ⟨trivial, ?_⟩
            refine S_done (by kernel_rfl) ?_
            (refine Ga ?_)
            refine rndQ_n (α := Nat) (i + 1) ⟨hil, (ms.set i mk).set k mi, by unfold OwnO; rw [hn2]; exact ho2, hn2, fun o => ?_, Sx.Below.put (Sx.Below.put (Below.drew bA) hgB _) hgB _⟩ ⟨rfl, rfl, rfl, rfl, ?_, trivial⟩ (by omega)
            · rw [← hmi, ← hmk, swap_mem (by omega) (by omega)]
              exact hmem o
            · exact congrArg (Value.int .i64) (by omega)
          · skip
            apply Lst_loadS' (cs := ocs mi)
            focus rfl
            focus rfl
            focus rfl
            focus rfl
            focus rfl
            focus exact hci
            focus rfl
            apply Lst_nil
            apply rnQ_n
            refine ⟨trivial, ?_⟩
            refine S_any [7] 4 rfl (by kernel_rfl) (all1 ?_)
            apply Lst_loadS' (cs := ocs mk)
            focus rfl
            focus rfl
            focus rfl
            focus rfl
            focus rfl
            focus exact hck
            focus rfl
            apply Lst_nil
            apply rnQ_n
            refine ⟨trivial, ?_⟩
            refine S_any [12] 3 rfl (by kernel_rfl) (all1 ?_)
            apply Lst_pu
            · apply P_idxm (j := i) (sz := 22)
              focus rfl
              focus rfl
              focus rfl
              focus rfl
              focus rfl
              focus omega
            focus rfl
            apply Lst_nil
            apply rnQ_n
            refine ⟨trivial, ?_⟩
            refine S_any [13] 2 rfl (by kernel_rfl) (all1 ?_)
            apply Lst_storeM (vs := ocs mk) (hb := kl)
            focus rfl
            focus rfl
            focus rfl
            focus rfl
            focus exact fun u hu => ocs_one [mk] u (by simpa using hu)
            focus exact hl1
            apply Lst_nil
            apply rnQ_n
            refine ⟨trivial, ?_⟩
            have ho1 := hset (ocs mk) rfl
            rw [← List.map_set] at ho1
            have hn1 : (ms.set i mk).length = N := by rw [List.length_set, hlen]
            obtain ⟨g2, cap2, l2, e2, _, _, kl2, hl2, hset2⟩ := own_setR0 ho1 (ocs_len _) (by decide) (k := k) (by rw [List.length_map, hn1]; exact hkN)
            cases e2
            have ho2 := hset2 (ocs mi) rfl
            rw [← List.map_set] at ho2
            have hn2 : ((ms.set i mk).set k mi).length = N := by rw [List.length_set, hn1]
            refine S_any [14] 1 rfl (by kernel_rfl) (all1 ?_)
            apply Lst_pu
            · apply P_idxm (j := k) (sz := 22)
              focus rfl
              focus rfl
              focus rfl
              focus rfl
              focus rfl
              focus omega
            focus rfl
            apply Lst_nil
            apply rnQ_n
            refine ⟨trivial, ?_⟩
            refine S_any [15] 0 rfl (by kernel_rfl) (all1 ?_)
            apply Lst_storeM (vs := ocs mi) (hb := kl2)
            focus rfl
            focus rfl
            focus rfl
            focus rfl
            focus exact fun u hu => ocs_one [mi] u (by simpa using hu)
            focus exact hl2
            apply Lst_nil
            apply rnQ_n
            refine ⟨trivial, ?_⟩
            refine S_done (by kernel_rfl) ?_
            (refine Ga ?_)
            refine rndQ_n (α := Nat) (i + 1) ⟨hil, (ms.set i mk).set k mi, by unfold OwnO; rw [hn2]; exact ho2, hn2, fun o => ?_, Sx.Below.put (Sx.Below.put (Below.drew bA) hgB _) hgB _⟩ ⟨rfl, rfl, rfl, rfl, ?_, trivial⟩ (by omega)
            · rw [← hmi, ← hmk, swap_mem (by omega) (by omega)]
              exact hmem o
            · exact congrArg (Value.int .i64) (by omega)
        · have hPA := hP.keepB h0w hFl hGl bA
          have hrA := SRows.below hr3 bA (Nat.le_refl _)
          have bwA := bw3.trans (bA.mono bw3.size)
          (refine Ga ?_)
          (apply Lst_call; (focus rfl); (focus rfl))
          refine (c_All ls a c (by omega) (by omega) hkey hout hrA hPA.sq).mono ?_
          rintro v A1 ⟨hx1, hS1, hT1⟩
          have hP1 := hPA.turnF hS1 hT1
          have hoA1 : OwnO w3.heap.size A1 (.slice v1 N v3) ms := own_turn hoA hT1 hFl
          have hout2 := hoA1.out hFl
          have hrA1 := hoA1.rows
          rw [← hlen] at hout2 hrA1 ⊢
          (refine Ga ?_)
          (apply Lst_call; (focus rfl); (focus rfl))
          refine (c_All ms v1 v3 (by omega) (by omega) (fun o ho => hkey o ((hmem o).2 ho)) hout2 hrA1 hP1.sq).mono ?_
          rintro v A2 ⟨hx2, hS2, hT2⟩
          have hP2 := hP1.turnF hS2 hT2
          have hx1' := hx1.turn hT2 fun g hg => Nat.lt_of_lt_of_le (hFl g hg) bA.size
          obtain ⟨xa, xc, rfl⟩ := hx1'.form
          obtain ⟨ya, yc, rfl⟩ := hx2.form
          (refine Ga ?_)
          (apply Lst_call; (focus rfl); (focus rfl))
          refine (c_sameAll A2 hx1' hx2 (by rw [allL_len, allL_len]) (by rw [allL_len]; omega) (All2.sameL hmem htied) (allL_fit hf (by omega)) fun x hx => (allL_fit (fun o ho => hf o ((hmem o).2 ho)) (by omega) x hx).2).mono ?_
          rintro v A3 ⟨rfl, hb3⟩
          (refine Ga ?_)
          (apply retQ1; (focus rfl))
          exact ⟨rfl, bA0.trans ((hP2.bel.trans (hb3.mono hP2.bel.size)).mono bA0.size)⟩
end
end Mk
end Go.Proofs.YtmgipnckojopcaaGreat
