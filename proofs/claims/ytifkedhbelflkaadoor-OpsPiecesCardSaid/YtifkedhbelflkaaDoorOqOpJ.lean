/- Package ops: Join where all go on, one behind the other. -/
import Derived.Test.YtifkedhbelflkaaDoorOqOpI
import Derived.Test.YtifkedhbelflkaaDoorOqOpQ
namespace Go.Proofs.YtifkedhbelflkaaDoor
set_option maxRecDepth 100000
namespace Op
open Go Go.RowKit Sx Tl Val
open Utf (rs tl Tabs cutS)
abbrev Up (l : List Mo) : Prop := l.Pairwise fun a b => lt a.id b.id = true
theorem lt_irr (a : Id) : lt a a = false := by rw [lt_no]; omega
theorem up_ext : ∀ {l m : List Mo}, Up l → Up m → (∀ o, o ∈ l ↔ o ∈ m) → l = m
  | [], [], _, _, _ => rfl
  | [], b :: m, _, _, h => absurd ((h b).2 List.mem_cons_self) (by simp)
  | a :: l, [], _, _, h => absurd ((h a).1 List.mem_cons_self) (by simp)
  | a :: l, b :: m, hl, hm, h => by
    obtain ⟨l1, l2⟩ := List.pairwise_cons.1 hl
    obtain ⟨m1, m2⟩ := List.pairwise_cons.1 hm
    have e : a = b := by
      rcases List.mem_cons.1 ((h a).1 List.mem_cons_self) with e | h1
      · exact e
      · rcases List.mem_cons.1 ((h b).2 List.mem_cons_self) with e | h2
        · exact e.symm
        · have := lt_trans (m1 a h1) (l1 b h2)
          rw [lt_irr] at this
          cases this
    subst e
    congr 1
    refine up_ext l2 m2 fun o => ⟨fun ho => ?_, fun ho => ?_⟩
    · rcases List.mem_cons.1 ((h o).1 (List.mem_cons_of_mem _ ho)) with rfl | h1
      · have := l1 _ ho
        rw [lt_irr] at this
        cases this
      · exact h1
    · rcases List.mem_cons.1 ((h o).2 (List.mem_cons_of_mem _ ho)) with rfl | h1
      · have := m1 _ ho
        rw [lt_irr] at this
        cases this
      · exact h1
theorem up_of_seg {l : List Mo} (h : Seg (fid l) 0 l.length) : Up l := List.pairwise_iff_getElem.2 fun i j hi hj hij => by
  have := h i j (Nat.zero_le _) hij hj
  rwa [fid_at hi, fid_at hj] at this
/-- Texts that go on, one behind the other. -/
structure Chain (S : List Mo) : Prop where
  ok : ∀ o ∈ S, OkT o
  fol : ∀ i (h : i + 1 < S.length), folO (S[i]'(by omega)) S[i + 1] = true
theorem fol_lt {a b : Mo} (ha : OkT a) (h : folO a b = true) : lt a.id b.id = true := by
  unfold folO at h
  simp only [Bool.and_eq_true, decide_eq_true_eq] at h
  obtain ⟨h1, _, h3, h4, _, _⟩ := h
  have hn := ha.n1
  unfold len at h4
  rw [if_pos h1] at h4
  rw [lt_iff]
  omega
theorem Chain.up {S : List Mo} (h : Chain S) : Up S := by
  refine List.pairwise_iff_getElem.2 fun i j hi hj hij => ?_
  obtain ⟨d, rfl⟩ : ∃ d, j = i + 1 + d := ⟨j - (i + 1), by omega⟩
  clear hij
  induction d with
  | zero => exact fol_lt (h.ok _ (List.getElem_mem hi)) (h.fol i hj)
  | succ d ih =>
    have h1 := ih (by omega)
    exact lt_trans h1 (fol_lt (h.ok _ (List.getElem_mem _)) (h.fol (i + 1 + d) hj))
/-- The runes of them all. -/
def runesS (S : List Mo) : List Int := S.flatMap fun o => rs (tl o.tx)
def catS (S : List Mo) : ByteArray := ⟨(Lib.join ((S.map Mo.tx).map (·.data.toList)) []).toArray⟩
theorem join_nil_cons (x : List UInt8) (r : List (List UInt8)) : Lib.join (x :: r) [] = x ++ Lib.join r [] := by
  cases r with
  | nil => rw [Lib.join_one, Lib.join_nil, List.append_nil]
  | cons y r =>
    rw [Lib.join_cons, Lib.join_cons]
    unfold Lib.joinTail
    simp
theorem cat_rs : ∀ {S : List Mo}, (∀ o ∈ S, OkT o) → Lib.validD (tl (catS S)) = true ∧ rs (tl (catS S)) = runesS S
  | [], _ => ⟨rfl, rfl⟩
  | o :: S, h => by
    obtain ⟨h1, h2⟩ := cat_rs (S := S) fun x hx => h x (List.mem_cons_of_mem _ hx)
    have e : tl (catS (o :: S)) = tl o.tx ++ tl (catS S) := by
      show (Lib.join (o.tx.data.toList :: (S.map Mo.tx).map (·.data.toList)) []).toArray.toList = _
      rw [join_nil_cons]
      rfl
    rw [e]
    obtain ⟨h3, h4⟩ := Utf.rs_append (h o List.mem_cons_self).val h1
    exact ⟨h3, by rw [h4, h2]; rfl⟩
theorem str_row {w : World} {b : Nat} {s : ByteArray} (h : Blk w b [.string s] 9) : SRows w 1 (.slice (some ⟨b, 0, none⟩) 1 1) [[.string s]] := by
  refine SRows.of_own (base := 0) (e := 9) (nn := 1) ⟨rfl, .inr ⟨b, 1, #[.string s], rfl, Nat.zero_le _, h, Nat.le_refl _, by decide, rfl, rfl⟩⟩ (fun x hx => by rw [List.mem_singleton.1 hx]; rfl) (by decide)
theorem str_one (s : ByteArray) : ∀ u ∈ [[Value.string s]].flatten, u.oneCell' = true := fun u hu => by
  simp at hu
  rw [hu]
  rfl
theorem str_own {w : World} {b B : Nat} {s : ByteArray} (hB : B ≤ b) (h : Blk w b [.string s] 9) : w.ownsRow B 9 1 (.slice (some ⟨b, 0, none⟩) 1 1) 1 [.string s] :=
  ⟨rfl, .inr ⟨b, 1, #[.string s], rfl, hB, h, Nat.le_refl _, by decide, rfl, rfl⟩⟩
section
attribute [local irreducible] RnS
attribute [local irreducible] W Lst Qst Pu seqQ blkQ rndQ cutQ retQ Does Enters IntKind.wrap bits sb World.alloc World.putObj Blk
set_option maxHeartbeats 4000000 in
theorem c_Join (L S : List Mo) (a : Option Addr) (c : Nat) (hn : L.length ≤ 60) (h1 : 1 ≤ S.length) (hSL : S.length = L.length) (hmem : ∀ o, o ∈ S ↔ o ∈ L) (hd : Dis (fid L) L.length) (hch : Chain S) (hsz : ∀ o ∈ S, o.tx.size ≤ 1000000) (hall : (catS S).size ≤ 1000000) (hclk : (S[0]'(by omega)).id.2 + (runesS S).length ≤ 9007199254740992)
    (w : World) (hT : Tabs w) (hr : SRows w 22 (.slice a L.length c) (L.map ocs)) :
    Does Tryd.prog 11 #[.slice a L.length c] w fun v w' => OwnO w.heap.size w' v (chunks (runesS S).length (S[0]'(by omega)) (runesS S)) ∧ Below w.heap.size w w' := by
  refine Does_of (args := [.slice a L.length c]) Tryd.func11 (by kernel_rfl) rfl rfl rfl rfl rfl ?_
  have hokL : ∀ o ∈ L, OkT o ∧ o.tx.size ≤ 1000000 := fun o ho => ⟨hch.ok o ((hmem o).2 ho), hsz o ((hmem o).2 ho)⟩
  (refine Ga ?_)
  (apply Lst_call; (focus rfl); (focus rfl))
  refine (c_CloneO L a c (by omega) w hr).mono ?_
  rintro v A ⟨hoA, bA⟩
  obtain ⟨v1, v3, rfl, hv13⟩ := own_form hoA
  (refine Ga ?_)
  (apply Lst_call; (focus rfl); (focus rfl))
  refine (c_Delete L v1 v3 (by omega) hokL A (hT.below bA) hoA.rows).mono ?_
  rintro v B ⟨rfl, hB⟩
  have bB := bA.trans (hB.mono bA.size)
  have hoB : OwnO w.heap.size B (.slice v1 L.length v3) L := own_below hoA hB (Nat.le_refl _)
  (refine Ga ?_)
  (apply Lst_call; (focus rfl); (focus rfl))
  refine (c_SortN v1 L.length v3 w.heap.size L hn B hoB bB.size rfl hd).mono ?_
  rintro v C ⟨rfl, ⟨l, hoC, hsm, hseg⟩, hC⟩
  have bC := bB.trans hC
  have hlS : l = S := up_ext (up_of_seg (by rw [hsm.len]; exact hseg)) hch.up fun o => by rw [hsm.mem, hmem]
  subst hlS
  have hdl := hsm.dis
  rw [← hSL] at hoC ⊢
  (refine Ga ?_)
  (apply Lst_call; (focus rfl); (focus rfl))
  refine (c_Compact l v1 v3 (by omega) hdl C hoC.rows).mono ?_
  rintro v D ⟨rfl, hD⟩
  have bD := bC.trans (hD.mono bC.size)
  have hoD : OwnO w.heap.size D (.slice v1 l.length v3) l := own_below hoC hD (Nat.le_refl _)
  clear hoA hB hoB hC hoC hD bB bC hsm hseg bA
  have hrow := hoD.rows
  (refine Ga ?_)
  refine W_loop (α := Nat × Value × World) (fun x => [(3, .slice v1 l.length v3), (4, x.2.1), (5, .int .i64 (x.1 : Int))])
    (fun x A => A = x.2.2 ∧ ((x.1 = 0 ∧ x.2.1 = .slice none 0 0 ∧ A = D) ∨ (x.1 = l.length ∧ OwnO w.heap.size A x.2.1 (chunks (runesS l).length (l[0]'(by omega)) (runesS l)) ∧ Below w.heap.size w A))) (fun x _ => l.length - x.1) (0, .slice none 0 0, D) ⟨rfl, .inl ⟨rfl, rfl, rfl⟩⟩ ⟨rfl, rfl, rfl, trivial⟩ ?_
  rintro J ⟨i, ov, A0⟩ A ⟨rfl, hh⟩
  dsimp only at hh ⊢
  rcases hh with ⟨rfl, rfl, rfl⟩ | ⟨rfl, hov, bov⟩
  · obtain ⟨g, off, rfl, _, hc⟩ := hrow.at (i := 0) (by rw [List.length_map]; omega)
    rw [List.getElem_map] at hc
    obtain ⟨o0, ho0⟩ : ∃ o, l[0]'(by omega) = o := ⟨_, rfl⟩
    rw [ho0] at hc hclk ⊢
    have hctx := hc 8 (.string o0.tx) rfl
    (refine Ga ?_)
    apply Lst_pu
    · apply P_idxm (j := 0) (sz := 22)
      focus rfl
      focus rfl
      focus rfl
      focus rfl
      focus rfl
      focus omega
    focus rfl
    (refine Ga ?_)
    (apply Lst_slit; (focus rfl); (focus rfl); (focus rfl); (focus rfl); (focus rfl); (focus rfl); (focus rfl); (focus rfl); (focus rfl); (focus (repeat (first | apply FillO.nil | (apply FillO.cons; (focus constructor); (focus rfl); (focus rfl); (focus (repeat constructor)))))); (focus ((try simp only [Sx.sizes]); first | done | rfl)); (focus rfl))
    refine Lst_abs (fun E => Below A.heap.size A E ∧ Blk E A.heap.size [.string o0.tx] 9) ⟨Bel, (by (repeat (first | assumption | (apply Blk.below (hb := hb1); rotate_left; (focus ((try simp only [Sx.sizes]); omega)); rotate_right) | (apply Blk.below (hb := hb2); rotate_left; (focus ((try simp only [Sx.sizes]); omega)); rotate_right) | (apply Blk.below (hb := hb3); rotate_left; (focus ((try simp only [Sx.sizes]); omega)); rotate_right) | (apply Blk.below (hb := hb4); rotate_left; (focus ((try simp only [Sx.sizes]); omega)); rotate_right) | (apply Blk.below (hb := hb5); rotate_left; (focus ((try simp only [Sx.sizes]); omega)); rotate_right) | (apply Blk.below (hb := hb6); rotate_left; (focus ((try simp only [Sx.sizes]); omega)); rotate_right) | (apply Blk.below (hb := hb7); rotate_left; (focus ((try simp only [Sx.sizes]); omega)); rotate_right) | (apply Blk.below (hb := hb8); rotate_left; (focus ((try simp only [Sx.sizes]); omega)); rotate_right) | (apply Blk.below (hb := hb9); rotate_left; (focus ((try simp only [Sx.sizes]); omega)); rotate_right) | exact Blk.newE (by first | rfl | ((try simp only [Sx.sizes]); first | done | omega)) _ _ | exact Blk.put_same (by (try simp only [Sx.sizes]); first | done | omega) _ _ | (apply Blk.put_ne; (focus omega)) | apply Blk.alloc | apply Blk.drew)); done)⟩ ?_
    rintro E ⟨hE, kE⟩
    (refine Ga ?_)
    refine W_loop (α := Nat × Value) (fun x => [(3, .slice (some ⟨g, off, none⟩) l.length v3), (4, .slice none 0 0), (5, .int .i64 0), (6, .int .i64 ((x.1 + 1 : Nat) : Int)), (7, x.2)])
      (fun x X => x.1 + 1 ≤ l.length ∧ X.ownsRow A.heap.size 9 1 x.2 (x.1 + 1) (((l.take (x.1 + 1)).map Mo.tx).map Value.string) ∧ Below A.heap.size A X) (fun x _ => l.length - x.1) (0, .slice (some ⟨A.heap.size, 0, none⟩) 1 1) ⟨h1, ?_, hE⟩ ⟨rfl, rfl, rfl, rfl, rfl, trivial⟩ ?_
    · have e : ((l.take (0 + 1)).map Mo.tx).map Value.string = [.string o0.tx] := by
        rw [Nat.zero_add, List.take_succ_eq_append_getElem (by omega), List.take_zero, ho0]
        rfl
      dsimp only
      rw [e]
      exact str_own (Nat.le_refl _) kE
    rintro J ⟨kp, tv⟩ X ⟨hkp, hoT, bX⟩
    dsimp only at hkp hoT bX ⊢
    have bwX := bD.trans (bX.mono bD.size)
    have hoX : OwnO w.heap.size X (.slice (some ⟨g, off, none⟩) l.length v3) l := own_below hoD bX (Nat.le_refl _)
    have hrX := hoX.rows
    obtain ⟨t1, t3, rfl, _⟩ := own_form hoT
    by_cases hkl : kp + 1 < l.length
    · have hj1 : arith .sub .i64 ((kp + 1 : Nat) : Int) 1 = (kp : Int) := by
        have : ((kp + 1 : Nat) : Int) - 1 = (kp : Int) := by omega
        show IntKind.i64.wrap (((kp + 1 : Nat) : Int) - 1) = _
        rw [this]
        exact wi64 (by omega) (by omega)
      obtain ⟨g', off', e', _, hca9⟩ := hrX.at (i := kp) (by rw [List.length_map]; omega)
      cases e'
      obtain ⟨g', off', e', _, hcb9⟩ := hrX.at (i := kp + 1) (by rw [List.length_map]; omega)
      cases e'
      rw [List.getElem_map] at hca9 hcb9
      have hfo := hch.fol kp hkl
      have hoka := hch.ok (l[kp]'(by omega)) (List.getElem_mem _)
      have hta := hsz (l[kp]'(by omega)) (List.getElem_mem _)
      have htk : l.take (kp + 1 + 1) = l.take (kp + 1) ++ [l[kp + 1]] := List.take_succ_eq_append_getElem hkl
      generalize l[kp]'(by omega) = oa at *
      generalize l[kp + 1] = ob at *
      have hca : 1 ≤ oa.id.2 := (right_hi hoka.id).2.1
      have hcb : oa.id.2 + len oa ≤ 9007199254740992 := by
        have := hoka.hi
        unfold len
        rw [if_pos hoka.k]
        exact this
      (refine Ga ?_)
      refine W_drawS 16 (fun Z => Below X.heap.size X Z) rfl rfl ?_
      have hS := Below.drew (Below.refl X.heap.size X)
      generalize X.drew = Z at *
      refine S_takeV 0 15 rfl (by kernel_rfl) (by repeat (first | exact retQ_p | apply seqQ_p | apply blkQ_p | apply rndQ_p | apply cutQ_p)) hS ?_
      (refine Qb ?_)
      refine S_takeV 1 14 rfl (by kernel_rfl) (by repeat (first | exact retQ_p | apply seqQ_p | apply blkQ_p | apply rndQ_p | apply cutQ_p)) hS ?_
      (refine Qb ?_)
      refine S_any [2] 13 rfl (by kernel_rfl) (all1 ?_)
      (refine Ga ?_)
      apply rnQ_n
      refine ⟨hS, ?_⟩
      refine S_takeV 3 12 rfl (by kernel_rfl) (by repeat (first | exact retQ_p | apply seqQ_p | apply blkQ_p | apply rndQ_p | apply cutQ_p)) hS ?_
      (refine Qb ?_)
      refine S_takeV 4 11 rfl (by kernel_rfl) (by repeat (first | exact retQ_p | apply seqQ_p | apply blkQ_p | apply rndQ_p | apply cutQ_p)) hS ?_
      (refine Qb ?_)
      refine S_takeV 5 10 rfl (by kernel_rfl) (by repeat (first | exact retQ_p | apply seqQ_p | apply blkQ_p | apply rndQ_p | apply cutQ_p)) hS ?_
      (refine Qb ?_)
      refine S_takeV 6 9 rfl (by kernel_rfl) (by repeat (first | exact retQ_p | apply seqQ_p | apply blkQ_p | apply rndQ_p | apply cutQ_p)) hS ?_
      (refine Qb ?_)
      refine S_takeV 7 8 rfl (by kernel_rfl) (by repeat (first | exact retQ_p | apply seqQ_p | apply blkQ_p | apply rndQ_p | apply cutQ_p)) hS ?_
      (refine Qb ?_)
      refine S_takeV 8 7 rfl (by kernel_rfl) (by repeat (first | exact retQ_p | apply seqQ_p | apply blkQ_p | apply rndQ_p | apply cutQ_p)) hS ?_
      apply Qst_guard_t
      focus rfl
      focus rfl
      apply Qst_pu
      · apply P_idxm (j := kp) (sz := 22)
        focus rfl
        focus rfl
        focus rfl
        focus rfl
        focus rfl
        focus omega
      focus rfl
      (refine Qb ?_)
      refine S_takeV 9 6 rfl (by kernel_rfl) (by repeat (first | exact retQ_p | apply seqQ_p | apply blkQ_p | apply rndQ_p | apply cutQ_p)) hS ?_
      apply Qst_guard_t
      focus rfl
      focus rfl
      apply Qst_loadS (cs := ocs oa)
      focus rfl
      focus rfl
      focus rfl
      focus rfl
      focus rfl
      focus exact fun A9 hA9 j v hj => cell_below hA9 (hca9 j v hj)
      focus rfl
      (refine Qb ?_)
      refine S_takeV 10 5 rfl (by kernel_rfl) (by repeat (first | exact retQ_p | apply seqQ_p | apply blkQ_p | apply rndQ_p | apply cutQ_p)) hS ?_
      (refine Qb ?_)
      refine S_takeV 11 4 rfl (by kernel_rfl) (by repeat (first | exact retQ_p | apply seqQ_p | apply blkQ_p | apply rndQ_p | apply cutQ_p)) hS ?_
      (refine Qb ?_)
      refine S_takeV 12 3 rfl (by kernel_rfl) (by repeat (first | exact retQ_p | apply seqQ_p | apply blkQ_p | apply rndQ_p | apply cutQ_p)) hS ?_
      apply Qst_guard_t
      focus rfl
      focus rfl
      apply Qst_pu
      · apply P_idxm (j := kp+1) (sz := 22)
        focus rfl
        focus rfl
        focus rfl
        focus rfl
        focus rfl
        focus omega
      focus rfl
      (refine Qb ?_)
      refine S_takeV 13 2 rfl (by kernel_rfl) (by repeat (first | exact retQ_p | apply seqQ_p | apply blkQ_p | apply rndQ_p | apply cutQ_p)) hS ?_
      apply Qst_guard_t
      focus rfl
      focus rfl
      apply Qst_loadS (cs := ocs ob)
      focus rfl
      focus rfl
      focus rfl
      focus rfl
      focus rfl
      focus exact fun A9 hA9 j v hj => cell_below hA9 (hcb9 j v hj)
      focus rfl
      (refine Qb ?_)
      refine S_any [14] 1 rfl (by kernel_rfl) (all1 ?_)
      apply Lst_guard_t
      focus rfl
      focus rfl
      (apply Lst_call; (focus rfl); (focus rfl))
      refine (c_follows oa ob hta hca hcb Z (hT.below (bwX.trans (hS.mono bwX.size)))).mono ?_
      rintro v V ⟨rfl, hV⟩
      rw [hfo]
      apply Lst_nil
      apply rnQ_n
      have hS2 := hS.trans (hV.mono hS.size)
      refine ⟨hS2, ?_⟩
      clear hS hV
      have hS := hS2
      refine S_takeV 15 0 rfl (by kernel_rfl) (by repeat (first | exact retQ_p | apply seqQ_p | apply blkQ_p | apply rndQ_p | apply cutQ_p)) hS ?_
      (refine Qb ?_)
      refine S_done (by kernel_rfl) ?_
      have hoY : OwnO w.heap.size V (.slice (some ⟨g, off, none⟩) l.length v3) l := own_below hoX hS (Nat.le_refl _)
      have hoU : V.ownsRow A.heap.size 9 1 (.slice t1 (kp + 1) t3) (kp + 1) (((l.take (kp + 1)).map Mo.tx).map Value.string) := own_below hoT hS (Nat.le_refl _)
      have bY := bX.trans (hS.mono bX.size)
      have hctb := cell_below hS (hcb9 8 (.string ob.tx) rfl)
      (refine Ga ?_)
      apply Lst_pu
      · apply P_idxm (j := kp+1) (sz := 22)
        focus rfl
        focus rfl
        focus rfl
        focus rfl
        focus rfl
        focus omega
      focus rfl
      (refine Ga ?_)
      (apply Lst_slit; (focus rfl); (focus rfl); (focus rfl); (focus rfl); (focus rfl); (focus rfl); (focus rfl); (focus rfl); (focus rfl); (focus (repeat (first | apply FillO.nil | (apply FillO.cons; (focus constructor); (focus rfl); (focus rfl); (focus (repeat constructor)))))); (focus ((try simp only [Sx.sizes]); first | done | rfl)); (focus rfl))
      refine Lst_abs (fun E => Below V.heap.size V E ∧ Blk E V.heap.size [.string ob.tx] 9) ⟨Bel, (by (repeat (first | assumption | (apply Blk.below (hb := hb1); rotate_left; (focus ((try simp only [Sx.sizes]); omega)); rotate_right) | (apply Blk.below (hb := hb2); rotate_left; (focus ((try simp only [Sx.sizes]); omega)); rotate_right) | (apply Blk.below (hb := hb3); rotate_left; (focus ((try simp only [Sx.sizes]); omega)); rotate_right) | (apply Blk.below (hb := hb4); rotate_left; (focus ((try simp only [Sx.sizes]); omega)); rotate_right) | (apply Blk.below (hb := hb5); rotate_left; (focus ((try simp only [Sx.sizes]); omega)); rotate_right) | (apply Blk.below (hb := hb6); rotate_left; (focus ((try simp only [Sx.sizes]); omega)); rotate_right) | (apply Blk.below (hb := hb7); rotate_left; (focus ((try simp only [Sx.sizes]); omega)); rotate_right) | (apply Blk.below (hb := hb8); rotate_left; (focus ((try simp only [Sx.sizes]); omega)); rotate_right) | (apply Blk.below (hb := hb9); rotate_left; (focus ((try simp only [Sx.sizes]); omega)); rotate_right) | exact Blk.newE (by first | rfl | ((try simp only [Sx.sizes]); first | done | omega)) _ _ | exact Blk.put_same (by (try simp only [Sx.sizes]); first | done | omega) _ _ | (apply Blk.put_ne; (focus omega)) | apply Blk.alloc | apply Blk.drew)); done)⟩ ?_
      rintro E2 ⟨hE2, kE2⟩
      have hoU2 : E2.ownsRow A.heap.size 9 1 (.slice t1 (kp + 1) t3) (kp + 1) (((l.take (kp + 1)).map Mo.tx).map Value.string) := own_below hoU hE2 (Nat.le_refl _)
      apply Lst_appendR (hown := hoU2) (hy := str_row kE2) (hls := fun x hx => by rw [List.mem_singleton.1 hx]; rfl) (hone := str_one ob.tx) (bytes := 16)
      focus rfl
      focus rfl
      focus rfl
      focus rfl
      focus rfl
      focus rfl
      focus rfl
      focus rfl
      focus rfl
      focus (simp only [List.length_singleton]; omega)
      focus (simp only [List.length_singleton]; omega)
      focus exact Nat.le_trans bY.size hE2.size
      focus rfl
      intro v9 E3 ho9 hg9
      have hE3 := Below.own (Below.refl A.heap.size E2) hoU2 hg9 (Nat.le_refl _) (Nat.le_trans bY.size hE2.size)
      have bE3 := (bY.trans (hE2.mono bY.size)).trans hE3
      obtain ⟨u1, u2, u3, rfl⟩ := own_slice ho9
      (refine Ga ?_)
      refine rndQ_n (α := Nat × Value) (kp + 1, .slice u1 u2 u3) ⟨hkl, ?_, bE3⟩ ⟨rfl, rfl, rfl, ?_, rfl, trivial⟩ (by dsimp only; omega)
      · dsimp only
        rw [htk, List.map_append, List.map_append]
        exact ho9
      · exact congrArg (Value.int .i64) (by dsimp only; omega)
    · obtain hkn : kp + 1 = l.length := by omega
      (refine Ga ?_)
      refine W_drawS 16 (fun Z => Below X.heap.size X Z) rfl rfl ?_
      have hS := Below.drew (Below.refl X.heap.size X)
      generalize X.drew = Z at *
      refine S_takeV 0 15 rfl (by kernel_rfl) (by repeat (first | exact retQ_p | apply seqQ_p | apply blkQ_p | apply rndQ_p | apply cutQ_p)) hS ?_
      (refine Qb ?_)
      refine S_takeV 1 14 rfl (by kernel_rfl) (by repeat (first | exact retQ_p | apply seqQ_p | apply blkQ_p | apply rndQ_p | apply cutQ_p)) hS ?_
      (refine Qb ?_)
      refine S_any [2] 13 rfl (by kernel_rfl) (all1 ?_)
      (refine Ga ?_)
      apply rnQ_n
      refine ⟨hS, ?_⟩
      refine S_takeV 3 12 rfl (by kernel_rfl) (by repeat (first | exact retQ_p | apply seqQ_p | apply blkQ_p | apply rndQ_p | apply cutQ_p)) hS ?_
      (refine Qb ?_)
      refine S_takeV 4 11 rfl (by kernel_rfl) (by repeat (first | exact retQ_p | apply seqQ_p | apply blkQ_p | apply rndQ_p | apply cutQ_p)) hS ?_
      (refine Qb ?_)
      refine S_takeV 5 10 rfl (by kernel_rfl) (by repeat (first | exact retQ_p | apply seqQ_p | apply blkQ_p | apply rndQ_p | apply cutQ_p)) hS ?_
      (refine Qb ?_)
      refine S_takeV 6 9 rfl (by kernel_rfl) (by repeat (first | exact retQ_p | apply seqQ_p | apply blkQ_p | apply rndQ_p | apply cutQ_p)) hS ?_
      (refine Qb ?_)
      refine S_takeV 7 8 rfl (by kernel_rfl) (by repeat (first | exact retQ_p | apply seqQ_p | apply blkQ_p | apply rndQ_p | apply cutQ_p)) hS ?_
      (refine Qb ?_)
      refine S_takeV 8 7 rfl (by kernel_rfl) (by repeat (first | exact retQ_p | apply seqQ_p | apply blkQ_p | apply rndQ_p | apply cutQ_p)) hS ?_
      (refine Qb ?_)
      refine S_takeV 9 6 rfl (by kernel_rfl) (by repeat (first | exact retQ_p | apply seqQ_p | apply blkQ_p | apply rndQ_p | apply cutQ_p)) hS ?_
      (refine Qb ?_)
      refine S_takeV 10 5 rfl (by kernel_rfl) (by repeat (first | exact retQ_p | apply seqQ_p | apply blkQ_p | apply rndQ_p | apply cutQ_p)) hS ?_
      (refine Qb ?_)
      refine S_takeV 11 4 rfl (by kernel_rfl) (by repeat (first | exact retQ_p | apply seqQ_p | apply blkQ_p | apply rndQ_p | apply cutQ_p)) hS ?_
      (refine Qb ?_)
      refine S_takeV 12 3 rfl (by kernel_rfl) (by repeat (first | exact retQ_p | apply seqQ_p | apply blkQ_p | apply rndQ_p | apply cutQ_p)) hS ?_
      (refine Qb ?_)
      refine S_takeV 13 2 rfl (by kernel_rfl) (by repeat (first | exact retQ_p | apply seqQ_p | apply blkQ_p | apply rndQ_p | apply cutQ_p)) hS ?_
      (refine Qb ?_)
      refine S_any [14] 1 rfl (by kernel_rfl) (all1 ?_)
      (refine Gf ?_)
      apply rnQ_n
      refine ⟨hS, ?_⟩
      refine S_takeV 15 0 rfl (by kernel_rfl) (by repeat (first | exact retQ_p | apply seqQ_p | apply blkQ_p | apply rndQ_p | apply cutQ_p)) hS ?_
      (refine Qb ?_)
      refine S_done (by kernel_rfl) ?_
      have hoZ : OwnO w.heap.size Z (.slice (some ⟨g, off, none⟩) l.length v3) l := own_below hoX hS (Nat.le_refl _)
      have hoV : Z.ownsRow A.heap.size 9 1 (.slice t1 (kp + 1) t3) (kp + 1) (((l.take (kp + 1)).map Mo.tx).map Value.string) := own_below hoT hS (Nat.le_refl _)
      rw [hkn, List.take_length] at hoV
      rw [hkn]
      have bwZ := bwX.trans (hS.mono bwX.size)
      obtain ⟨g', off', e', _, hc0⟩ := hoZ.rows.at (i := 0) (by rw [List.length_map]; omega)
      cases e'
      rw [List.getElem_map, ho0] at hc0
      obtain ⟨hval, hrs⟩ := cat_rs hch.ok
      have hok0 : OkT o0 := by rw [← ho0]; exact hch.ok _ (List.getElem_mem _)
      (refine Ga ?_)
      apply Lst_pu
      · apply P_idxm (j := 0) (sz := 22)
        focus rfl
        focus rfl
        focus rfl
        focus rfl
        focus rfl
        focus omega
      focus rfl
      (refine Ga ?_)
      apply Lst_loadS' (cs := ocs o0)
      focus rfl
      focus rfl
      focus rfl
      focus rfl
      focus rfl
      focus exact hc0
      focus rfl
      (refine Ga ?_)
      (apply Lst_call; (focus rfl); (focus rfl))
      refine (c_pieces o0 hok0.k _ (l.map Mo.tx) (catS l) rfl (by rw [List.length_map]; omega) (fun e => by rw [List.map_eq_nil_iff] at e; rw [e] at h1; exact absurd h1 (by decide)) hall hval (by rw [hrs]; exact hclk) (right_hi hok0.id).2.1 Z ⟨A.heap.size, by rw [List.length_map]; exact hoV⟩).mono ?_
      rintro v Y ⟨hov, hY⟩
      rw [hrs] at hov
      (refine Ga ?_)
      exact rndQ_n (α := Nat × Value × World) (l.length, v, Y) ⟨rfl, .inr ⟨rfl, by exact own_low' hov bwZ.size, bwZ.trans (hY.mono bwZ.size)⟩⟩ ⟨rfl, rfl, rfl, trivial⟩ (by dsimp only; omega)
  · obtain ⟨y1, y2, y3, rfl⟩ := own_slice hov
    (refine Ga ?_)
    (apply retQ1; (focus rfl))
    exact ⟨hov, bov⟩
end
end Op
end Go.Proofs.YtifkedhbelflkaaDoor
