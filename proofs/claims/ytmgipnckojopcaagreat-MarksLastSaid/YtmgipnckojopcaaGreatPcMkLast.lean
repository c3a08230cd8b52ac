/- MarksLast's walk. -/
import Derived.Test.YtmgipnckojopcaaGreatPcMkOrder
namespace Go.Proofs.YtmgipnckojopcaaGreat
set_option maxRecDepth 100000
namespace Mk
open Go Go.RowKit Sx Tl Sq Val
def k1 : ByteArray := ⟨#[107, 49]⟩
/-- The last mark. -/
def oL (T : Nat) (x y : Id) (v : Vl) : Mo := { mkO 900000 (T + 1) k1 77 ⟨x, false⟩ ⟨y, true⟩ with v := v }
theorem Lst_appendMg {rd : Option Nat} {n : Nat} {ops : Array Oper} {Q : Post} {rest : List Oper} {F : Fr} {ds : List Deferred} {w : World} {ty : TypeId} {pos : String} {after : Array Edge} {d B : Nat} {s x : Operand} {v y : Value} {l k : List Mk}
    (hown : OwnM B w v l) (hy : SRows w 5 y (k.map mcs)) (hl : l.length + k.length ≤ 1000000) (hbase : B ≤ w.heap.size) (hs : ev F s = v) (hx : ev F x = y) (hd : Nat.blt d n = true)
    (h : ∀ v' w', OwnM B w' v' (l ++ k) → Below B w w' → w.grownBy w' v.ownBlock → Lst Tryz.prog rd n ops Q rest (upd F d v') ds w') :
    Lst Tryz.prog rd n ops Q (⟨some d, .call { callee := .builtin .append, args := #[s, x], argTypes := #[33, 33] }, ty, pos, after, none⟩ :: rest) F ds w := by
  apply Lst_appendR (bytes := 56) (hown := hown) (hy := hy) (hls := mcs_len k) (hone := fun u hu => by
    obtain ⟨r, hr, hu⟩ := List.mem_flatten.1 hu
    obtain ⟨o, _, rfl⟩ := List.mem_map.1 hr
    unfold mcs at hu
    simp only [List.mem_cons, List.not_mem_nil, or_false] at hu
    rcases hu with rfl | rfl | rfl | rfl | rfl <;> rfl)
  focus exact hs
  focus exact hx
  focus rfl
  focus rfl
  focus rfl
  focus rfl
  focus rfl
  focus rfl
  focus rfl
  focus (rw [List.length_map]; omega)
  focus (rw [List.length_map]; omega)
  focus exact hbase
  focus exact hd
  intro v' w' ho hg
  refine h v' w' ?_ (Below.own (Below.refl B w) hown hg (Nat.le_refl _) hbase) hg
  unfold OwnM
  rw [List.length_append, List.map_append, List.flatten_append]
  rw [List.length_map] at ho
  exact ho
theorem Lst_appendM {rd : Option Nat} {n : Nat} {ops : Array Oper} {Q : Post} {rest : List Oper} {F : Fr} {ds : List Deferred} {w : World} {ty : TypeId} {pos : String} {after : Array Edge} {d B : Nat} {s x : Operand} {v y : Value} {l k : List Mk}
    (hown : OwnM B w v l) (hy : SRows w 5 y (k.map mcs)) (hl : l.length + k.length ≤ 1000000) (hbase : B ≤ w.heap.size) (hs : ev F s = v) (hx : ev F x = y) (hd : Nat.blt d n = true)
    (h : ∀ v' w', OwnM B w' v' (l ++ k) → Below B w w' → Lst Tryz.prog rd n ops Q rest (upd F d v') ds w') :
    Lst Tryz.prog rd n ops Q (⟨some d, .call { callee := .builtin .append, args := #[s, x], argTypes := #[33, 33] }, ty, pos, after, none⟩ :: rest) F ds w :=
  Lst_appendMg hown hy hl hbase hs hx hd fun v' w' h1 h2 _ => h v' w' h1 h2
theorem want_nil (inn : Bool) (k1 : ByteArray) (v : Vl) (done : Bool) : wantL inn k1 v done [] = if done then [] else [(k1, v)] := rfl
theorem want_cons (inn : Bool) (k1 : ByteArray) (v : Vl) (done : Bool) (m : Mk) (r : List Mk) : wantL inn k1 v done (m :: r) = if inn = true ∧ m.1 = k1 then wantL inn k1 v done r
    else if done = false ∧ cmpS k1 m.1 < 0 then (k1, v) :: m :: wantL inn k1 v true r else m :: wantL inn k1 v done r := rfl
theorem pl_mod (k : Int) {n : Nat} (h : 0 < n) : ∃ u : Nat, k % (n : Int) = (u : Int) ∧ u < n :=
  ⟨(k % (n : Int)).toNat, by have := Int.emod_nonneg k (show (n : Int) ≠ 0 by omega); have := Int.emod_lt_of_pos k (show (0 : Int) < n by omega); omega, by have := Int.emod_nonneg k (show (n : Int) ≠ 0 by omega); have := Int.emod_lt_of_pos k (show (0 : Int) < n by omega); omega⟩
theorem OwnLL.low {w : World} {B C : Nat} {v : Value} {l : List (List Mk)} (h : OwnLL B w v l) (hC : C ≤ B) : OwnLL C w v l := by
  obtain ⟨xs, h1, h2⟩ := h
  exact ⟨xs, own_lowM h1 hC, All2.map2 (fun _ _ h => own_lowM h hC) h2⟩
section
attribute [local irreducible] RnS
attribute [local irreducible] W Lst Qst Pu seqQ blkQ rndQ cutQ retQ Does Enters IntKind.wrap bits sb World.alloc World.putObj Blk
set_option maxHeartbeats 4000000 in
theorem law_MarksLast (n from' to' : Int) (wipe : Bool) (ls : List Mo) (a : Option Addr) (c : Nat) (hl : ls.length ≤ 281474976710656) (hf : ∀ o ∈ ls, o.v.Fit) (w : World) (hr : SRows w 22 (.slice a ls.length c) (ls.map ocs)) :
    Does Tryz.prog 5 #[.int .i64 n, .slice a ls.length c, .int .i64 from', .int .i64 to', .bool wipe] w fun v w' => v = .bool true ∧ Below w.heap.size w w' := by
  refine Does_of (args := [.int .i64 n, .slice a ls.length c, .int .i64 from', .int .i64 to', .bool wipe]) Tryz.func5 (by kernel_rfl) rfl rfl rfl rfl rfl ?_
  (refine Ga ?_)
  (apply Lst_call; (focus rfl); (focus rfl))
  refine (c_known w).mono ?_
  rintro v w1 ⟨rfl, hb1⟩
  have hr1 := SRows.below hr hb1 (Nat.le_refl _)
  (refine Ga ?_)
  (apply Lst_call; (focus rfl); (focus rfl))
  refine (c_light ls a c hl w1 hr1).mono ?_
  rintro v w2 ⟨b, rfl, hli, hb2⟩
  have bw2 := hb1.trans (hb2.mono hb1.size)
  cases b with
  | false =>
    (refine Ga ?_)
    (apply retQ1; (focus rfl))
    exact ⟨rfl, bw2⟩
  | true =>
    obtain ⟨h40, hsz⟩ := hli rfl
    clear hr1 hb1 hb2 hli
    (refine Ga ?_)
    (apply Lst_call; (focus rfl); (focus rfl))
    refine (Wire.h_Place n 20 w2 (by omega) (by omega)).mono ?_
    rintro v w' ⟨rfl, rfl⟩
    obtain ⟨m, hm⟩ : ∃ m : Nat, (1 : Int) + n % 20 = (m : Int) := ⟨(1 + n % 20).toNat, by omega⟩
    have hm1 : 1 ≤ m := by omega
    (refine Ga ?_)
    rw [hm]
    (apply Lst_call; (focus rfl); (focus rfl))
    refine (c_units m (by omega) w2).mono ?_
    rintro v w3 ⟨p, q, F, G, t, rfl, hP, htz, hmz⟩
    have bw3 := bw2.trans (hP.bel.mono bw2.size)
    have hr3 := SRows.below hr bw3 (Nat.le_refl _)
    have hout : Out F (.slice a ls.length c) := fun b off sp n c e h0 => by
      cases e
      obtain ⟨b', o', e, hlt, _⟩ := hr.at (i := 0) (by rw [List.length_map]; exact h0)
      cases e
      exact fun hf => by have := hP.lowF _ hf; have := bw2.size; omega
    have hkey : ∀ o ∈ ls, o.key.size ≤ maxLen := fun o ho => Nat.le_trans (hsz o ho).2 (by decide)
    (refine Ga ?_)
    refine W_loop (α := Nat × Nat) (fun x => [(1, .slice a ls.length c), (2, .int .i64 from'), (3, .int .i64 to'), (4, .bool wipe), (11, .pointer (some ⟨p, 0, none⟩)), (12, .pointer (some ⟨q, 0, none⟩)), (13, .int .u64 (x.2 : Int)), (14, .int .i64 (x.1 : Int))])
      (fun x A => x.1 ≤ ls.length ∧ (∀ j (hj : j < ls.length), j < x.1 → ls[j].st ≤ x.2) ∧ A = w3) (fun x _ => ls.length - x.1) (0, 0) ⟨Nat.zero_le _, fun j _ h => absurd h (Nat.not_lt_zero _), rfl⟩ ⟨rfl, rfl, rfl, rfl, rfl, rfl, rfl, rfl, trivial⟩ ?_
    rintro J ⟨i, T⟩ A ⟨hi, hT, rfl⟩
    dsimp only at hi hT ⊢
    by_cases hil : i < ls.length
    · obtain ⟨g, off, rfl, _, hc⟩ := hr3.at (i := i) (by rw [List.length_map]; exact hil)
      rw [List.getElem_map] at hc
      have hc3 := hc 3 (.int .u64 ls[i].st) rfl
      (refine Ga ?_)
      apply Lst_pu
      · apply P_idxm (j := i) (sz := 22)
        focus rfl
        focus rfl
        focus rfl
        focus rfl
        focus rfl
        focus omega
      focus rfl
      (refine Ga ?_)
      refine rndQ_n (α := Nat × Nat) (i + 1, max T ls[i].st) ⟨hil, fun j hj hji => ?_, rfl⟩ ⟨rfl, rfl, rfl, rfl, rfl, rfl, ?_, ?_, trivial⟩ (by dsimp only; omega)
      · rcases Nat.lt_succ_iff_lt_or_eq.1 hji with h | rfl
        · exact Nat.le_trans (hT j hj h) (Nat.le_max_left _ _)
        · exact Nat.le_max_right _ _
      · exact congrArg (Value.int .u64) (by dsimp only; omega)
      · exact congrArg (Value.int .i64) (by dsimp only; omega)
    · have hst : ∀ o ∈ ls, o.st < T + 1 := fun o ho => by
        obtain ⟨j, hj, rfl⟩ := List.getElem_of_mem ho
        exact Nat.lt_succ_of_le (hT j hj (by omega))
      clear hT
      by_cases hTm : T < 9007199254740991
      · have h0z : 0 < t.sz := by omega
        (refine Ga ?_)
        (apply Lst_call; (focus rfl); (focus rfl))
        refine (r_Len hP.ref).mono ?_
        rintro v w' ⟨rfl, rfl⟩
        (refine Ga ?_)
        (apply Lst_call; (focus rfl); (focus rfl))
        refine (Wire.h_Place from' t.sz A (by omega) (by omega)).mono ?_
        rintro v w' ⟨rfl, rfl⟩
        obtain ⟨a1, ha1, ha1z⟩ := pl_mod from' h0z
        rw [ha1]
        (refine Ga ?_)
        (apply Lst_call; (focus rfl); (focus rfl))
        refine (r_Len hP.ref).mono ?_
        rintro v w' ⟨rfl, rfl⟩
        (refine Ga ?_)
        (apply Lst_call; (focus rfl); (focus rfl))
        refine (Wire.h_Place to' t.sz A (by omega) (by omega)).mono ?_
        rintro v w' ⟨rfl, rfl⟩
        obtain ⟨b1, hb1, hb1z⟩ := pl_mod to' h0z
        rw [hb1]
        (refine Ga ?_)
        refine Lst_cut2 (α := Nat × Nat) (fun x => [(1, .slice a ls.length c), (4, .bool wipe), (11, .pointer (some ⟨p, 0, none⟩)), (12, .pointer (some ⟨q, 0, none⟩)), (13, .int .u64 (T : Int)), (15, .int .i64 (x.1 : Int)), (16, .int .i64 (x.2 : Int))])
          (fun x Z => x.1 ≤ x.2 ∧ x.2 < t.sz ∧ Z = A) ?_ ?_
        · by_cases hab : a1 ≤ b1
          · (refine Ga ?_)
            exact cutQ_n (a1, b1) ⟨hab, hb1z, rfl⟩ ⟨rfl, rfl, rfl, rfl, rfl, rfl, rfl, trivial⟩
          · (refine Ga ?_)
            exact cutQ_n (b1, a1) ⟨by dsimp only; omega, ha1z, rfl⟩ ⟨rfl, rfl, rfl, rfl, rfl, rfl, rfl, trivial⟩
        clear ha1 hb1 ha1z hb1z a1 b1
        rintro J ⟨a1, b1⟩ A' ⟨hab, hbz, rfl⟩
        dsimp only at hab hbz ⊢
        (refine Ga ?_)
        (apply Lst_call; (focus rfl); (focus rfl))
        refine (r_At (a1 : Int) hP.ref).mono ?_
        rintro v B1 ⟨rfl, hbB1⟩
        rw [if_pos ⟨by omega, by omega⟩, Int.toNat_natCast]
        obtain ⟨ua, hua⟩ : ∃ u, t.flat.getD a1 default = u := ⟨_, rfl⟩
        rw [hua]
        have hP1 := hP.below hbB1
        unfold ucs
        (refine Ga ?_)
        refine Lst_abs (fun C => Below B1.heap.size B1 C ∧ Blk C B1.heap.size (ucs ua) 52) ⟨Bel, (by (repeat (first | assumption | (apply Blk.below (hb := hb1); rotate_left; (focus ((try simp only [Sx.sizes]); omega)); rotate_right) | (apply Blk.below (hb := hb2); rotate_left; (focus ((try simp only [Sx.sizes]); omega)); rotate_right) | (apply Blk.below (hb := hb3); rotate_left; (focus ((try simp only [Sx.sizes]); omega)); rotate_right) | (apply Blk.below (hb := hb4); rotate_left; (focus ((try simp only [Sx.sizes]); omega)); rotate_right) | (apply Blk.below (hb := hb5); rotate_left; (focus ((try simp only [Sx.sizes]); omega)); rotate_right) | (apply Blk.below (hb := hb6); rotate_left; (focus ((try simp only [Sx.sizes]); omega)); rotate_right) | (apply Blk.below (hb := hb7); rotate_left; (focus ((try simp only [Sx.sizes]); omega)); rotate_right) | (apply Blk.below (hb := hb8); rotate_left; (focus ((try simp only [Sx.sizes]); omega)); rotate_right) | (apply Blk.below (hb := hb9); rotate_left; (focus ((try simp only [Sx.sizes]); omega)); rotate_right) | exact Blk.newE (by first | rfl | ((try simp only [Sx.sizes]); first | done | omega)) _ _ | exact Blk.put_same (by (try simp only [Sx.sizes]); first | done | omega) _ _ | (apply Blk.put_ne; (focus omega)) | apply Blk.alloc | apply Blk.drew)); done)⟩ ?_
        rintro C1 ⟨hbC1, kx⟩
        have hPC := hP1.below hbC1
        have lx := kx.lt
        generalize B1.heap.size = bx at *
        (apply Lst_call; (focus rfl); (focus rfl))
        refine (r_At (b1 : Int) hPC.ref).mono ?_
        rintro v B2 ⟨rfl, hbB2⟩
        rw [if_pos ⟨by omega, by omega⟩, Int.toNat_natCast]
        obtain ⟨ub, hub⟩ : ∃ u, t.flat.getD b1 default = u := ⟨_, rfl⟩
        rw [hub]
        have hP2 := hPC.below hbB2
        have kx2 := kx.below hbB2 lx
        have lx2 := kx2.lt
        unfold ucs at kx2 ⊢
        (refine Ga ?_)
        refine Lst_abs (fun C => Below B2.heap.size B2 C) Bel ?_
        rintro C2 hbC2
        have hPD := hP2.below hbC2
        (apply Lst_call; (focus rfl); (focus rfl))
        refine (c_mark 900000 (T + 1) k1 77 ⟨ua.id, false⟩ ⟨ub.id, true⟩ C2).mono ?_
        rintro v D ⟨rfl, hbD⟩
        have hPE := hPD.below hbD
        have hFD : ∀ g, F g → g < D.heap.size := fun g hg => hPE.sq.lt hg
        unfold ocs mkO
        (refine Ga ?_)
        refine Tl.W_cutS (α := Vl) (fun _ => [(1, .slice a ls.length c), (4, .bool wipe), (11, .pointer (some ⟨p, 0, none⟩)), (12, .pointer (some ⟨q, 0, none⟩)), (15, .int .i64 (a1 : Int)), (16, .int .i64 (b1 : Int)), (21, .pointer (some ⟨D.heap.size, 0, none⟩))])
          (fun v Z => wipe = decide (v.k = 0) ∧ v.Fit ∧ Pl w2 Z p q F G t t ∧ Blk Z D.heap.size (ocs (oL T ua.id ub.id v)) 47) ?_ ?_
        · cases wipe with
          | true =>
            (refine Ga ?_)
            refine cutQ_n ⟨0, 0, 0, ⟨#[]⟩⟩ ⟨rfl, ⟨by dsimp only; omega, by dsimp only; omega, by dsimp only; omega, by dsimp only; omega, by dsimp only; omega, by decide⟩, hPE.below Bel, ?_⟩ ⟨rfl, rfl, rfl, rfl, rfl, rfl, rfl, trivial⟩
            exact (by (repeat (first | assumption | (apply Blk.below (hb := hb1); rotate_left; (focus ((try simp only [Sx.sizes]); omega)); rotate_right) | (apply Blk.below (hb := hb2); rotate_left; (focus ((try simp only [Sx.sizes]); omega)); rotate_right) | (apply Blk.below (hb := hb3); rotate_left; (focus ((try simp only [Sx.sizes]); omega)); rotate_right) | (apply Blk.below (hb := hb4); rotate_left; (focus ((try simp only [Sx.sizes]); omega)); rotate_right) | (apply Blk.below (hb := hb5); rotate_left; (focus ((try simp only [Sx.sizes]); omega)); rotate_right) | (apply Blk.below (hb := hb6); rotate_left; (focus ((try simp only [Sx.sizes]); omega)); rotate_right) | (apply Blk.below (hb := hb7); rotate_left; (focus ((try simp only [Sx.sizes]); omega)); rotate_right) | (apply Blk.below (hb := hb8); rotate_left; (focus ((try simp only [Sx.sizes]); omega)); rotate_right) | (apply Blk.below (hb := hb9); rotate_left; (focus ((try simp only [Sx.sizes]); omega)); rotate_right) | exact Blk.newE (by first | rfl | ((try simp only [Sx.sizes]); first | done | omega)) _ _ | exact Blk.put_same (by (try simp only [Sx.sizes]); first | done | omega) _ _ | (apply Blk.put_ne; (focus omega)) | apply Blk.alloc | apply Blk.drew)); done)
          | false =>
            (refine Ga ?_)
            refine cutQ_n ⟨2, 77, 0, ⟨#[]⟩⟩ ⟨rfl, ⟨by dsimp only; omega, by dsimp only; omega, by dsimp only; omega, by dsimp only; omega, by dsimp only; omega, by decide⟩, hPE.below Bel, ?_⟩ ⟨rfl, rfl, rfl, rfl, rfl, rfl, rfl, trivial⟩
            exact (by (repeat (first | assumption | (apply Blk.below (hb := hb1); rotate_left; (focus ((try simp only [Sx.sizes]); omega)); rotate_right) | (apply Blk.below (hb := hb2); rotate_left; (focus ((try simp only [Sx.sizes]); omega)); rotate_right) | (apply Blk.below (hb := hb3); rotate_left; (focus ((try simp only [Sx.sizes]); omega)); rotate_right) | (apply Blk.below (hb := hb4); rotate_left; (focus ((try simp only [Sx.sizes]); omega)); rotate_right) | (apply Blk.below (hb := hb5); rotate_left; (focus ((try simp only [Sx.sizes]); omega)); rotate_right) | (apply Blk.below (hb := hb6); rotate_left; (focus ((try simp only [Sx.sizes]); omega)); rotate_right) | (apply Blk.below (hb := hb7); rotate_left; (focus ((try simp only [Sx.sizes]); omega)); rotate_right) | (apply Blk.below (hb := hb8); rotate_left; (focus ((try simp only [Sx.sizes]); omega)); rotate_right) | (apply Blk.below (hb := hb9); rotate_left; (focus ((try simp only [Sx.sizes]); omega)); rotate_right) | exact Blk.newE (by first | rfl | ((try simp only [Sx.sizes]); first | done | omega)) _ _ | exact Blk.put_same (by (try simp only [Sx.sizes]); first | done | omega) _ _ | (apply Blk.put_ne; (focus omega)) | apply Blk.alloc | apply Blk.drew)); done)
        generalize D.heap.size = bo at *
        clear hP hP1 hPC hP2 hPD hPE hbB1 hbC1 hbB2 hbC2 hbD kx kx2 lx lx2
        rintro J ov Z ⟨hw, hvf, hPZ, kbZ⟩
        obtain ⟨o, ho⟩ : ∃ o, oL T ua.id ub.id ov = o := ⟨_, rfl⟩
        rw [ho] at kbZ
        have hnb : ¬ F bo := fun h => Nat.lt_irrefl _ (hFD bo h)
        have hF0 : ∀ g, F g → g < Z.heap.size := fun g hg => hPZ.sq.lt hg
        have hkey2 : ∀ o' ∈ ls ++ [o], o'.key.size ≤ maxLen := fun o' h' => by
          rcases List.mem_append.1 h' with h' | h'
          · exact hkey o' h'
          · rw [List.mem_singleton.1 h', ← ho]
            exact (show k1.size ≤ maxLen by decide)
        have hln : (ls ++ [o]).length = ls.length + 1 := by simp
        (refine Ga ?_)
        refine Tl.W_cutS (α := (Option Addr × Nat) × (Option Addr × Nat)) (fun x => [(4, .bool wipe), (12, .pointer (some ⟨q, 0, none⟩)), (15, .int .i64 (a1 : Int)), (16, .int .i64 (b1 : Int)), (21, .pointer (some ⟨bo, 0, none⟩)), (22, .slice x.1.1 t.sz x.1.2), (23, .slice x.2.1 t.sz x.2.2)])
          (fun x Y => Pl w2 Y p q F G t t ∧ Blk Y bo (ocs o) 47 ∧ OwnLL Z.heap.size Y (.slice x.1.1 t.sz x.1.2) (allL t ls) ∧ OwnLL Z.heap.size Y (.slice x.2.1 t.sz x.2.2) (allL t (ls ++ [o]))) ?_ ?_
        · skip
          refine W_drawS 12 (fun Y => Blk Y bo (ocs o) 47) rfl rfl ?_
          have hS := Blk.drew kbZ
          have hbd : Below Z.heap.size Z Z.drew := Below.drew (Below.refl _ _)
          have hPX0 := hPZ.below hbd
          have kbX0 := hS
          have sX0 : Z.heap.size ≤ Z.drew.heap.size := Nat.le_refl _
          generalize Z.drew = X0 at *
          refine S_takeV 0 11 rfl (by kernel_rfl) (by repeat (first | exact retQ_p | apply seqQ_p | apply blkQ_p | apply rndQ_p | apply cutQ_p)) hS ?_
          (refine Qb ?_)
          refine S_takeV 1 10 rfl (by kernel_rfl) (by repeat (first | exact retQ_p | apply seqQ_p | apply blkQ_p | apply rndQ_p | apply cutQ_p)) hS ?_
          (refine Qb ?_)
          refine S_takeV 3 9 rfl (by kernel_rfl) (by repeat (first | exact retQ_p | apply seqQ_p | apply blkQ_p | apply rndQ_p | apply cutQ_p)) hS ?_
          (refine Qb ?_)
          refine S_takeV 4 8 rfl (by kernel_rfl) (by repeat (first | exact retQ_p | apply seqQ_p | apply blkQ_p | apply rndQ_p | apply cutQ_p)) hS ?_
          (refine Qb ?_)
          refine S_takeV 6 7 rfl (by kernel_rfl) (by repeat (first | exact retQ_p | apply seqQ_p | apply blkQ_p | apply rndQ_p | apply cutQ_p)) hS ?_
          apply Qst_loadS (cs := ocs o)
          focus rfl
          focus rfl
          focus rfl
          focus rfl
          focus rfl
          focus exact fun A9 hA9 j v hj => by rw [Nat.zero_add]; exact (Blk.cell hA9 j).trans hj
          focus rfl
          (refine Qb ?_)
          refine S_any [2, 7] 6 rfl (by kernel_rfl) (all2 ?_ ?_)
          · skip
            (apply Lst_call; (focus rfl); (focus rfl))
            refine (c_All ls a c (by omega) (by omega) hkey hout (SRows.below hr (bw2.trans (hPX0.bel.mono bw2.size)) (Nat.le_refl _)) hPX0.sq).mono ?_
            rintro v X1 ⟨hx, hS', hT⟩
            have hPX1 := hPX0.turnF hS' hT
            have kbX1 := hT.blk kbX0 hnb
            have sX1 := Nat.le_trans sX0 hT.size
            obtain ⟨ya, yc, rfl⟩ := hx.form
            rw [allL_len] at hx ⊢
            have hwX1 := hx.low sX0
            clear hx hS' hT
            apply Lst_nil
            apply rnQ_n
            refine ⟨kbX1, ?_⟩
            refine S_any [5, 7] 5 rfl (by kernel_rfl) (all2 ?_ ?_)
            · skip
              apply Lst_appendO (hown := OwnO.nil X1.heap.size X1) (hy := SRows.below hr (bw2.trans (hPX1.bel.mono bw2.size)) (Nat.le_refl _))
              focus (simp only [List.length_nil]; omega)
              focus exact Nat.le_refl _
              focus rfl
              focus rfl
              focus rfl
              intro v5 X2 ho5X2 accX2
              rw [List.nil_append] at ho5X2
              have hPX2 := hPX1.below accX2
              have kbX2 := kbX1.below accX2 kbX1.lt
              have sX2 := Nat.le_trans sX1 accX2.size
              have hwX2 := hwX1.below accX2
              apply Lst_nil
              apply rnQ_n
              refine ⟨kbX2, ?_⟩
              refine S_any [7] 4 rfl (by kernel_rfl) (all1 ?_)
              obtain ⟨b7, hb7⟩ : ∃ b7, X2.heap.size = b7 := ⟨_, rfl⟩
              have s7 : Z.heap.size ≤ b7 := by rw [← hb7]; exact sX2
              unfold ocs
              (apply Lst_slit; (focus rfl); (focus rfl); (focus rfl); (focus rfl); (focus rfl); (focus rfl); (focus rfl); (focus rfl); (focus rfl); (focus (repeat (first | apply FillO.nil | (apply FillO.cons; (focus constructor); (focus rfl); (focus rfl); (focus (repeat constructor)))))); (focus ((try simp only [Sx.sizes]); first | done | rfl)); (focus rfl))
              refine Lst_abs (fun Y => Below X2.heap.size X2 Y ∧ Blk Y X2.heap.size (ocs o) 47) ⟨Bel, by unfold ocs; exact (by (repeat (first | assumption | (apply Blk.below (hb := hb1); rotate_left; (focus ((try simp only [Sx.sizes]); omega)); rotate_right) | (apply Blk.below (hb := hb2); rotate_left; (focus ((try simp only [Sx.sizes]); omega)); rotate_right) | (apply Blk.below (hb := hb3); rotate_left; (focus ((try simp only [Sx.sizes]); omega)); rotate_right) | (apply Blk.below (hb := hb4); rotate_left; (focus ((try simp only [Sx.sizes]); omega)); rotate_right) | (apply Blk.below (hb := hb5); rotate_left; (focus ((try simp only [Sx.sizes]); omega)); rotate_right) | (apply Blk.below (hb := hb6); rotate_left; (focus ((try simp only [Sx.sizes]); omega)); rotate_right) | (apply Blk.below (hb := hb7); rotate_left; (focus ((try simp only [Sx.sizes]); omega)); rotate_right) | (apply Blk.below (hb := hb8); rotate_left; (focus ((try simp only [Sx.sizes]); omega)); rotate_right) | (apply Blk.below (hb := hb9); rotate_left; (focus ((try simp only [Sx.sizes]); omega)); rotate_right) | exact Blk.newE (by first | rfl | ((try simp only [Sx.sizes]); first | done | omega)) _ _ | exact Blk.put_same (by (try simp only [Sx.sizes]); first | done | omega) _ _ | (apply Blk.put_ne; (focus omega)) | apply Blk.alloc | apply Blk.drew)); done)⟩ ?_
              rintro X3 ⟨hcX3, k7X3⟩
              have l7X3 := k7X3.lt
              have hPX3 := hPX2.below hcX3
              have kbX3 := kbX2.below hcX3 kbX2.lt
              have sX3 := Nat.le_trans sX2 hcX3.size
              have hwX3 := hwX2.below hcX3
              have ho5X3 : OwnO X1.heap.size X3 v5 ls := own_below ho5X2 hcX3 (Nat.le_refl _)
              have accX3 := accX2.trans (hcX3.mono accX2.size)
              rw [hb7] at k7X3 l7X3 ⊢
              apply Lst_nil
              apply rnQ_n
              refine ⟨kbX3, ?_⟩
              refine S_any [8] 3 rfl (by kernel_rfl) (all1 ?_)
              apply Lst_appendO (hown := ho5X3) (hy := one_row k7X3)
              focus (simp only [List.length_singleton]; omega)
              focus exact accX3.size
              focus rfl
              focus rfl
              focus rfl
              intro v8 X4 ho8 hdX4
              have accX4 := accX3.trans hdX4
              have hPX4 := hPX1.below accX4
              have kbX4 := kbX1.below accX4 kbX1.lt
              have hwX4 := hwX1.below accX4
              have sX4 := Nat.le_trans sX1 accX4.size
              apply Lst_nil
              apply rnQ_n
              refine ⟨kbX4, ?_⟩
              refine S_any [9] 2 rfl (by kernel_rfl) (all1 ?_)
              obtain ⟨z1, z2, rfl, _⟩ := own_form ho8
              have hro := ho8.rows
              have hou := ho8.out (F := F) fun g hg => Nat.lt_of_lt_of_le (hF0 g hg) sX1
              (apply Lst_call; (focus rfl); (focus rfl))
              refine (c_All (ls ++ [o]) z1 z2 (by omega) (by omega) hkey2 hou hro hPX4.sq).mono ?_
              rintro v X5 ⟨hx, hS', hT⟩
              have hPX5 := hPX4.turnF hS' hT
              have kbX5 := hT.blk kbX4 hnb
              have hwX5 := hwX4.turn hT hF0
              obtain ⟨za, zc, rfl⟩ := hx.form
              rw [allL_len] at hx ⊢
              have hnow := hx.low sX4
              apply Lst_nil
              apply rnQ_n
              refine ⟨kbX5, ?_⟩
              have hS : Blk X5 bo (ocs o) 47 := kbX5
              refine S_takeV 10 1 rfl (by kernel_rfl) (by repeat (first | exact retQ_p | apply seqQ_p | apply blkQ_p | apply rndQ_p | apply cutQ_p)) hS ?_
              (refine Qb ?_)
              refine S_takeV 11 0 rfl (by kernel_rfl) (by repeat (first | exact retQ_p | apply seqQ_p | apply blkQ_p | apply rndQ_p | apply cutQ_p)) hS ?_
              (refine Qb ?_)
              refine S_done (by kernel_rfl) ?_
              exact cutQ_n ((ya, yc), (za, zc)) ⟨hPX5, kbX5, hwX5, hnow⟩ ⟨rfl, rfl, rfl, rfl, rfl, rfl, rfl, trivial⟩
            · skip
              obtain ⟨b7, hb7⟩ : ∃ b7, X1.heap.size = b7 := ⟨_, rfl⟩
              have s7 : Z.heap.size ≤ b7 := by rw [← hb7]; exact sX1
              unfold ocs
              (apply Lst_slit; (focus rfl); (focus rfl); (focus rfl); (focus rfl); (focus rfl); (focus rfl); (focus rfl); (focus rfl); (focus rfl); (focus (repeat (first | apply FillO.nil | (apply FillO.cons; (focus constructor); (focus rfl); (focus rfl); (focus (repeat constructor)))))); (focus ((try simp only [Sx.sizes]); first | done | rfl)); (focus rfl))
              refine Lst_abs (fun Y => Below X1.heap.size X1 Y ∧ Blk Y X1.heap.size (ocs o) 47) ⟨Bel, by unfold ocs; exact (by (repeat (first | assumption | (apply Blk.below (hb := hb1); rotate_left; (focus ((try simp only [Sx.sizes]); omega)); rotate_right) | (apply Blk.below (hb := hb2); rotate_left; (focus ((try simp only [Sx.sizes]); omega)); rotate_right) | (apply Blk.below (hb := hb3); rotate_left; (focus ((try simp only [Sx.sizes]); omega)); rotate_right) | (apply Blk.below (hb := hb4); rotate_left; (focus ((try simp only [Sx.sizes]); omega)); rotate_right) | (apply Blk.below (hb := hb5); rotate_left; (focus ((try simp only [Sx.sizes]); omega)); rotate_right) | (apply Blk.below (hb := hb6); rotate_left; (focus ((try simp only [Sx.sizes]); omega)); rotate_right) | (apply Blk.below (hb := hb7); rotate_left; (focus ((try simp only [Sx.sizes]); omega)); rotate_right) | (apply Blk.below (hb := hb8); rotate_left; (focus ((try simp only [Sx.sizes]); omega)); rotate_right) | (apply Blk.below (hb := hb9); rotate_left; (focus ((try simp only [Sx.sizes]); omega)); rotate_right) | exact Blk.newE (by first | rfl | ((try simp only [Sx.sizes]); first | done | omega)) _ _ | exact Blk.put_same (by (try simp only [Sx.sizes]); first | done | omega) _ _ | (apply Blk.put_ne; (focus omega)) | apply Blk.alloc | apply Blk.drew)); done)⟩ ?_
              rintro X6 ⟨hcX6, k7X6⟩
              have l7X6 := k7X6.lt
              have hPX6 := hPX1.below hcX6
              have kbX6 := kbX1.below hcX6 kbX1.lt
              have sX6 := Nat.le_trans sX1 hcX6.size
              have hwX6 := hwX1.below hcX6
              rw [hb7] at k7X6 l7X6 ⊢
              apply Lst_nil
              apply rnQ_n
              refine ⟨kbX6, ?_⟩
              refine S_any [5] 4 rfl (by kernel_rfl) (all1 ?_)
              apply Lst_appendO (hown := OwnO.nil X6.heap.size X6) (hy := SRows.below hr (bw2.trans (hPX6.bel.mono bw2.size)) (Nat.le_refl _))
              focus (simp only [List.length_nil]; omega)
              focus exact Nat.le_refl _
              focus rfl
              focus rfl
              focus rfl
              intro v5 X7 ho5X7 accX7
              rw [List.nil_append] at ho5X7
              have hPX7 := hPX6.below accX7
              have kbX7 := kbX6.below accX7 kbX6.lt
              have sX7 := Nat.le_trans sX6 accX7.size
              have hwX7 := hwX6.below accX7
              have k7X7 := k7X6.below accX7 k7X6.lt
              have l7X7 := k7X7.lt
              apply Lst_nil
              apply rnQ_n
              refine ⟨kbX7, ?_⟩
              refine S_any [8] 3 rfl (by kernel_rfl) (all1 ?_)
              apply Lst_appendO (hown := ho5X7) (hy := one_row k7X7)
              focus (simp only [List.length_singleton]; omega)
              focus exact accX7.size
              focus rfl
              focus rfl
              focus rfl
              intro v8 X8 ho8 hdX8
              have accX8 := accX7.trans hdX8
              have hPX8 := hPX6.below accX8
              have kbX8 := kbX6.below accX8 kbX6.lt
              have hwX8 := hwX6.below accX8
              have sX8 := Nat.le_trans sX6 accX8.size
              apply Lst_nil
              apply rnQ_n
              refine ⟨kbX8, ?_⟩
              refine S_any [9] 2 rfl (by kernel_rfl) (all1 ?_)
              obtain ⟨z1, z2, rfl, _⟩ := own_form ho8
              have hro := ho8.rows
              have hou := ho8.out (F := F) fun g hg => Nat.lt_of_lt_of_le (hF0 g hg) sX6
              (apply Lst_call; (focus rfl); (focus rfl))
              refine (c_All (ls ++ [o]) z1 z2 (by omega) (by omega) hkey2 hou hro hPX8.sq).mono ?_
              rintro v X9 ⟨hx, hS', hT⟩
              have hPX9 := hPX8.turnF hS' hT
              have kbX9 := hT.blk kbX8 hnb
              have hwX9 := hwX8.turn hT hF0
              obtain ⟨za, zc, rfl⟩ := hx.form
              rw [allL_len] at hx ⊢
              have hnow := hx.low sX8
              apply Lst_nil
              apply rnQ_n
              refine ⟨kbX9, ?_⟩
              have hS : Blk X9 bo (ocs o) 47 := kbX9
              refine S_takeV 10 1 rfl (by kernel_rfl) (by repeat (first | exact retQ_p | apply seqQ_p | apply blkQ_p | apply rndQ_p | apply cutQ_p)) hS ?_
              (refine Qb ?_)
              refine S_takeV 11 0 rfl (by kernel_rfl) (by repeat (first | exact retQ_p | apply seqQ_p | apply blkQ_p | apply rndQ_p | apply cutQ_p)) hS ?_
              (refine Qb ?_)
              refine S_done (by kernel_rfl) ?_
              exact cutQ_n ((ya, yc), (za, zc)) ⟨hPX9, kbX9, hwX9, hnow⟩ ⟨rfl, rfl, rfl, rfl, rfl, rfl, rfl, trivial⟩
          · skip
            obtain ⟨b7, hb7⟩ : ∃ b7, X0.heap.size = b7 := ⟨_, rfl⟩
            have s7 : Z.heap.size ≤ b7 := by rw [← hb7]; exact sX0
            unfold ocs
            (apply Lst_slit; (focus rfl); (focus rfl); (focus rfl); (focus rfl); (focus rfl); (focus rfl); (focus rfl); (focus rfl); (focus rfl); (focus (repeat (first | apply FillO.nil | (apply FillO.cons; (focus constructor); (focus rfl); (focus rfl); (focus (repeat constructor)))))); (focus ((try simp only [Sx.sizes]); first | done | rfl)); (focus rfl))
            refine Lst_abs (fun Y => Below X0.heap.size X0 Y ∧ Blk Y X0.heap.size (ocs o) 47) ⟨Bel, by unfold ocs; exact (by (repeat (first | assumption | (apply Blk.below (hb := hb1); rotate_left; (focus ((try simp only [Sx.sizes]); omega)); rotate_right) | (apply Blk.below (hb := hb2); rotate_left; (focus ((try simp only [Sx.sizes]); omega)); rotate_right) | (apply Blk.below (hb := hb3); rotate_left; (focus ((try simp only [Sx.sizes]); omega)); rotate_right) | (apply Blk.below (hb := hb4); rotate_left; (focus ((try simp only [Sx.sizes]); omega)); rotate_right) | (apply Blk.below (hb := hb5); rotate_left; (focus ((try simp only [Sx.sizes]); omega)); rotate_right) | (apply Blk.below (hb := hb6); rotate_left; (focus ((try simp only [Sx.sizes]); omega)); rotate_right) | (apply Blk.below (hb := hb7); rotate_left; (focus ((try simp only [Sx.sizes]); omega)); rotate_right) | (apply Blk.below (hb := hb8); rotate_left; (focus ((try simp only [Sx.sizes]); omega)); rotate_right) | (apply Blk.below (hb := hb9); rotate_left; (focus ((try simp only [Sx.sizes]); omega)); rotate_right) | exact Blk.newE (by first | rfl | ((try simp only [Sx.sizes]); first | done | omega)) _ _ | exact Blk.put_same (by (try simp only [Sx.sizes]); first | done | omega) _ _ | (apply Blk.put_ne; (focus omega)) | apply Blk.alloc | apply Blk.drew)); done)⟩ ?_
            rintro X10 ⟨hcX10, k7X10⟩
            have l7X10 := k7X10.lt
            have hPX10 := hPX0.below hcX10
            have kbX10 := kbX0.below hcX10 kbX0.lt
            have sX10 := Nat.le_trans sX0 hcX10.size
            rw [hb7] at k7X10 l7X10 ⊢
            apply Lst_nil
            apply rnQ_n
            refine ⟨kbX10, ?_⟩
            refine S_any [2] 5 rfl (by kernel_rfl) (all1 ?_)
            (apply Lst_call; (focus rfl); (focus rfl))
            refine (c_All ls a c (by omega) (by omega) hkey hout (SRows.below hr (bw2.trans (hPX10.bel.mono bw2.size)) (Nat.le_refl _)) hPX10.sq).mono ?_
            rintro v X11 ⟨hx, hS', hT⟩
            have hPX11 := hPX10.turnF hS' hT
            have kbX11 := hT.blk kbX10 hnb
            have sX11 := Nat.le_trans sX10 hT.size
            obtain ⟨ya, yc, rfl⟩ := hx.form
            rw [allL_len] at hx ⊢
            have hwX11 := hx.low sX10
            have k7X11 := hT.blk k7X10 (fun h => by have := hF0 _ h; omega)
            have l7X11 := k7X11.lt
            clear hx hS' hT
            apply Lst_nil
            apply rnQ_n
            refine ⟨kbX11, ?_⟩
            refine S_any [5] 4 rfl (by kernel_rfl) (all1 ?_)
            apply Lst_appendO (hown := OwnO.nil X11.heap.size X11) (hy := SRows.below hr (bw2.trans (hPX11.bel.mono bw2.size)) (Nat.le_refl _))
            focus (simp only [List.length_nil]; omega)
            focus exact Nat.le_refl _
            focus rfl
            focus rfl
            focus rfl
            intro v5 X12 ho5X12 accX12
            rw [List.nil_append] at ho5X12
            have hPX12 := hPX11.below accX12
            have kbX12 := kbX11.below accX12 kbX11.lt
            have sX12 := Nat.le_trans sX11 accX12.size
            have hwX12 := hwX11.below accX12
            have k7X12 := k7X11.below accX12 k7X11.lt
            have l7X12 := k7X12.lt
            apply Lst_nil
            apply rnQ_n
            refine ⟨kbX12, ?_⟩
            refine S_any [8] 3 rfl (by kernel_rfl) (all1 ?_)
            apply Lst_appendO (hown := ho5X12) (hy := one_row k7X12)
            focus (simp only [List.length_singleton]; omega)
            focus exact accX12.size
            focus rfl
            focus rfl
            focus rfl
            intro v8 X13 ho8 hdX13
            have accX13 := accX12.trans hdX13
            have hPX13 := hPX11.below accX13
            have kbX13 := kbX11.below accX13 kbX11.lt
            have hwX13 := hwX11.below accX13
            have sX13 := Nat.le_trans sX11 accX13.size
            apply Lst_nil
            apply rnQ_n
            refine ⟨kbX13, ?_⟩
            refine S_any [9] 2 rfl (by kernel_rfl) (all1 ?_)
            obtain ⟨z1, z2, rfl, _⟩ := own_form ho8
            have hro := ho8.rows
            have hou := ho8.out (F := F) fun g hg => Nat.lt_of_lt_of_le (hF0 g hg) sX11
            (apply Lst_call; (focus rfl); (focus rfl))
            refine (c_All (ls ++ [o]) z1 z2 (by omega) (by omega) hkey2 hou hro hPX13.sq).mono ?_
            rintro v X14 ⟨hx, hS', hT⟩
            have hPX14 := hPX13.turnF hS' hT
            have kbX14 := hT.blk kbX13 hnb
            have hwX14 := hwX13.turn hT hF0
            obtain ⟨za, zc, rfl⟩ := hx.form
            rw [allL_len] at hx ⊢
            have hnow := hx.low sX13
            apply Lst_nil
            apply rnQ_n
            refine ⟨kbX14, ?_⟩
            have hS : Blk X14 bo (ocs o) 47 := kbX14
            refine S_takeV 10 1 rfl (by kernel_rfl) (by repeat (first | exact retQ_p | apply seqQ_p | apply blkQ_p | apply rndQ_p | apply cutQ_p)) hS ?_
            (refine Qb ?_)
            refine S_takeV 11 0 rfl (by kernel_rfl) (by repeat (first | exact retQ_p | apply seqQ_p | apply blkQ_p | apply rndQ_p | apply cutQ_p)) hS ?_
            (refine Qb ?_)
            refine S_done (by kernel_rfl) ?_
            exact cutQ_n ((ya, yc), (za, zc)) ⟨hPX14, kbX14, hwX14, hnow⟩ ⟨rfl, rfl, rfl, rfl, rfl, rfl, rfl, trivial⟩
        rintro J ⟨⟨ya, yc⟩, ⟨za, zc⟩⟩ Y ⟨hPY, kbY, hwas, hnow⟩
        dsimp only at hwas hnow ⊢
        have hgd := hPY.sq.good
        have hov : overV t o.fr o.to = (a1, b1 + 1) := by
          have g1 := Fo.pos_get hgd.nd (n := a1) (by omega)
          have g2 := Fo.pos_get hgd.nd (n := b1) hbz
          rw [hua] at g1
          rw [hub] at g2
          have n1 : ua.id ≠ Fo.none' := fun e => hgd.none (e ▸ g1.2)
          have n2 : ub.id ≠ Fo.none' := fun e => hgd.none (e ▸ g2.2)
          have e1 : gapV t o.fr = (a1, true) := by
            rw [← ho]
            show gapV t ⟨ua.id, false⟩ = _
            unfold gapV
            rw [if_neg n1, if_pos g1.2, g1.1]
            rfl
          have e2 : gapV t o.to = (b1 + 1, true) := by
            rw [← ho]
            show gapV t ⟨ub.id, true⟩ = _
            unfold gapV
            rw [if_neg n2, if_pos g2.2, g2.1]
            rfl
          unfold overV
          rw [e1, e2, if_pos ⟨rfl, rfl, by dsimp only; omega⟩]
        have hon : ∀ i : Nat, onV t (i : Int) o = decide (a1 ≤ i ∧ i ≤ b1) := fun i => by
          unfold onV
          rw [hov, decide_eq_true (show o.k = 3 by rw [← ho]; rfl), Bool.true_and]
          dsimp only
          by_cases h1 : a1 ≤ i
          · by_cases h2 : i ≤ b1
            · rw [decide_eq_true (show ((a1 : Nat) : Int) ≤ i by omega), decide_eq_true (show (i : Int) < ((b1 + 1 : Nat) : Int) by omega), decide_eq_true (show a1 ≤ i ∧ i ≤ b1 from ⟨h1, h2⟩)]
              rfl
            · rw [decide_eq_false (show ¬ (i : Int) < ((b1 + 1 : Nat) : Int) by omega), decide_eq_false (show ¬ (a1 ≤ i ∧ i ≤ b1) from fun h => h2 h.2), Bool.and_false]
          · rw [decide_eq_false (show ¬ ((a1 : Nat) : Int) ≤ i by omega), decide_eq_false (show ¬ (a1 ≤ i ∧ i ≤ b1) from fun h => h1 h.1), Bool.false_and]
        have hlast : ∀ i : Nat, sameL (toldL (bestL t (i : Int) (ls ++ [o]))) (wantL (decide (a1 ≤ i ∧ i ≤ b1)) k1 ov (wipe || !decide (a1 ≤ i ∧ i ≤ b1)) (toldL (bestL t (i : Int) ls))) = true := fun i => by
          have h := last_same t (i : Int) ls o (fun p hp => by rw [← ho]; exact hst p hp) (decide (a1 ≤ i ∧ i ≤ b1)) wipe (hon i) (by rw [← ho]; exact hw)
          have e1 : o.key = k1 := by rw [← ho]; rfl
          have e2 : o.v = ov := by rw [← ho]; rfl
          rw [e1, e2] at h
          exact h
        have bwY := bw2.trans (hPY.bel.mono bw2.size)
        have kbU := kbY
        rw [← ho] at kbU
        unfold ocs oL mkO at kbU
        have lbo := kbU.lt
        clear hon hov hgd hout hkey hkey2 hln hnb hF0 hPZ kbZ hFD hr3
        (refine Ga ?_)
        (apply Lst_call; (focus rfl); (focus rfl))
        refine (r_Len hPY.ref).mono ?_
        rintro v w' ⟨rfl, rfl⟩
        (refine Ga ?_)
        (apply Lst_call; (focus rfl); (focus rfl))
        refine (r_Len hPY.ref).mono ?_
        rintro v w' ⟨rfl, rfl⟩
        (refine Ga ?_)
        refine W_loop (α := Nat) (fun i => [(4, .bool wipe), (12, .pointer (some ⟨q, 0, none⟩)), (15, .int .i64 (a1 : Int)), (16, .int .i64 (b1 : Int)), (21, .pointer (some ⟨bo, 0, none⟩)), (22, .slice ya t.sz yc), (23, .slice za t.sz zc), (24, .int .i64 (i : Int))])
          (fun i A => i ≤ t.sz ∧ Below Y.heap.size Y A) (fun i _ => t.sz - i) 0 ⟨Nat.zero_le _, Below.refl _ _⟩ ⟨rfl, rfl, rfl, rfl, rfl, rfl, rfl, rfl, trivial⟩ ?_
        rintro J i A ⟨hi, bA⟩
        have hPA := hPY.below bA
        have kA := kbU.below bA lbo
        have lA := kA.lt
        have wasA := hwas.below bA
        have nowA := hnow.below bA
        (refine Ga ?_)
        (apply Lst_call; (focus rfl); (focus rfl))
        refine (r_Len hPA.ref).mono ?_
        rintro v w' ⟨rfl, rfl⟩
        by_cases hil : i < t.sz
        · obtain ⟨gw, vw, dw, rfl, hcw, how⟩ := wasA.at (k := i) (by rw [allL_len]; exact hil)
          obtain ⟨gn, vn, dn, rfl, hcn, hon⟩ := nowA.at (k := i) (by rw [allL_len]; exact hil)
          rw [allL_at] at hcw how hcn hon
          have hlast := hlast i
          have htl := told_len t (i : Int) ls
          have htl2 := told_len t (i : Int) (ls ++ [o])
          have hft : ∀ q ∈ toldL (bestL t (i : Int) ls), q.2.Fit := told_fit hf
          have hft2 : ∀ q ∈ toldL (bestL t (i : Int) (ls ++ [o])), q.2.Fit := told_fit fun o' h' => by
            rcases List.mem_append.1 h' with h' | h'
            · exact hf o' h'
            · rw [List.mem_singleton.1 h', ← ho]
              exact hvf
          have hl41 : (ls ++ [o]).length ≤ 41 := by rw [List.length_append, List.length_singleton]; omega
          generalize toldL (bestL t (i : Int) ls) = Wl at *
          generalize toldL (bestL t (i : Int) (ls ++ [o])) = Nl at *
          obtain ⟨inn, hinn⟩ : ∃ inn : Bool, decide (a1 ≤ i ∧ i ≤ b1) = inn := ⟨_, rfl⟩
          rw [hinn] at hlast
          have hor := hon.rows
          have hwr := how.rows
          (refine Ga ?_)
          refine Tl.Lst_cut (α := Bool) (fun d => [(4, .bool wipe), (12, .pointer (some ⟨q, 0, none⟩)), (15, .int .i64 (a1 : Int)), (16, .int .i64 (b1 : Int)), (21, .pointer (some ⟨bo, 0, none⟩)), (22, .slice (some ⟨gw, 0, none⟩) t.sz yc), (23, .slice (some ⟨gn, 0, none⟩) t.sz zc), (24, .int .i64 (i : Int)), (25, .slice none 0 0), (26, .bool d)]) (fun d X => d = (wipe || !inn) ∧ X = A) ?_ ?_
          · cases wipe with
            | true =>
              (refine Ga ?_)
              exact cutQ_n true ⟨rfl, rfl⟩ ⟨rfl, rfl, rfl, rfl, rfl, rfl, rfl, rfl, rfl, rfl, trivial⟩
            | false =>
              by_cases h1 : i < a1
              · (refine Ga ?_)
                exact cutQ_n true ⟨by rw [← hinn, decide_eq_false (fun h => by omega)]; rfl, rfl⟩ ⟨rfl, rfl, rfl, rfl, rfl, rfl, rfl, rfl, rfl, rfl, trivial⟩
              · by_cases h2 : b1 < i
                · (refine Ga ?_)
                  exact cutQ_n true ⟨by rw [← hinn, decide_eq_false (fun h => by omega)]; rfl, rfl⟩ ⟨rfl, rfl, rfl, rfl, rfl, rfl, rfl, rfl, rfl, rfl, trivial⟩
                · (refine Ga ?_)
                  exact cutQ_n false ⟨by rw [← hinn, decide_eq_true ⟨by omega, by omega⟩]; rfl, rfl⟩ ⟨rfl, rfl, rfl, rfl, rfl, rfl, rfl, rfl, rfl, rfl, trivial⟩
          rintro J d0 A' ⟨hd0, rfl⟩
          rw [← hd0] at hlast
          (refine Ga ?_)
          refine W_loop (α := Nat × Bool × Value) (fun x => [(4, .bool wipe), (12, .pointer (some ⟨q, 0, none⟩)), (15, .int .i64 (a1 : Int)), (16, .int .i64 (b1 : Int)), (21, .pointer (some ⟨bo, 0, none⟩)), (22, .slice (some ⟨gw, 0, none⟩) t.sz yc), (23, .slice (some ⟨gn, 0, none⟩) t.sz zc), (24, .int .i64 (i : Int)), (25, x.2.2), (26, .bool x.2.1), (27, .int .i64 (x.1 : Int))])
            (fun x B => x.1 ≤ Wl.length ∧ ∃ wl : List Mk, OwnM A'.heap.size B x.2.2 wl ∧ wl.length ≤ 2 * x.1 ∧ wl ++ wantL inn k1 ov x.2.1 (Wl.drop x.1) = wantL inn k1 ov d0 Wl ∧ Below A'.heap.size A' B) (fun x _ => Wl.length - x.1) (0, d0, .slice none 0 0) ⟨Nat.zero_le _, [], OwnM.nil _ _, Nat.zero_le _, rfl, Below.refl _ _⟩ ⟨rfl, rfl, rfl, rfl, rfl, rfl, rfl, rfl, rfl, rfl, rfl, trivial⟩ ?_
          rintro J ⟨k, done, vv⟩ B ⟨hk, wl, hoB, hwl, heq, bB⟩
          dsimp only at hk hoB hwl heq ⊢
          obtain ⟨v3, v4, rfl, _⟩ := own_form hoB
          have hcwB := cell_below bB hcw
          have kB := kA.below bB lA
          have lB := kB.lt
          have hrB := SRows.below hwr bB (Nat.le_refl _)
          by_cases hkl : k < Wl.length
          · obtain ⟨g5, o5, rfl, _, hcq⟩ := hrB.at (i := k) (by rw [List.length_map]; exact hkl)
            rw [List.getElem_map] at hcq
            have hdr : Wl.drop k = Wl[k] :: Wl.drop (k + 1) := List.drop_eq_getElem_cons hkl
            rw [hdr, want_cons] at heq
            obtain ⟨mq, hmq⟩ : ∃ q, Wl[k] = q := ⟨_, rfl⟩
            rw [hmq] at hcq heq
            (refine Ga ?_)
            apply Lst_pu
            · apply P_idxm (j := k) (sz := 5)
              focus rfl
              focus rfl
              focus rfl
              focus rfl
              focus rfl
              focus omega
            focus rfl
            apply Lst_loadS' (cs := mcs mq)
            focus rfl
            focus rfl
            focus rfl
            focus rfl
            focus rfl
            focus exact hcq
            focus rfl
            unfold mcs
            (refine Ga ?_)
            refine Lst_abs (fun C => Below B.heap.size B C ∧ Blk C B.heap.size (mcs mq) 57) ⟨Bel, by unfold mcs; exact (by (repeat (first | assumption | (apply Blk.below (hb := hb1); rotate_left; (focus ((try simp only [Sx.sizes]); omega)); rotate_right) | (apply Blk.below (hb := hb2); rotate_left; (focus ((try simp only [Sx.sizes]); omega)); rotate_right) | (apply Blk.below (hb := hb3); rotate_left; (focus ((try simp only [Sx.sizes]); omega)); rotate_right) | (apply Blk.below (hb := hb4); rotate_left; (focus ((try simp only [Sx.sizes]); omega)); rotate_right) | (apply Blk.below (hb := hb5); rotate_left; (focus ((try simp only [Sx.sizes]); omega)); rotate_right) | (apply Blk.below (hb := hb6); rotate_left; (focus ((try simp only [Sx.sizes]); omega)); rotate_right) | (apply Blk.below (hb := hb7); rotate_left; (focus ((try simp only [Sx.sizes]); omega)); rotate_right) | (apply Blk.below (hb := hb8); rotate_left; (focus ((try simp only [Sx.sizes]); omega)); rotate_right) | (apply Blk.below (hb := hb9); rotate_left; (focus ((try simp only [Sx.sizes]); omega)); rotate_right) | exact Blk.newE (by first | rfl | ((try simp only [Sx.sizes]); first | done | omega)) _ _ | exact Blk.put_same (by (try simp only [Sx.sizes]); first | done | omega) _ _ | (apply Blk.put_ne; (focus omega)) | apply Blk.alloc | apply Blk.drew)); done)⟩ ?_
            rintro C ⟨hbC, km⟩
            have hoC : OwnM A'.heap.size C (.slice v3 wl.length v4) wl := own_below hoB hbC (Nat.le_refl _)
            have accC := bB.trans (hbC.mono bB.size)
            have kC := kB.below hbC lB
            have lC := kC.lt
            have lm := km.lt
            have hmb : A'.heap.size ≤ B.heap.size := bB.size
            have lbA : bo < A'.heap.size := lA
            unfold mcs at km
            have hob : ∀ j, (Value.slice v3 wl.length v4).ownBlock = some j → j ≠ B.heap.size := fun j hj => by have := (hoB.lt j hj).2; omega
            generalize B.heap.size = bm at *
            refine Lst_cut2 (α := Unit) (fun _ => [(4, .bool wipe), (12, .pointer (some ⟨q, 0, none⟩)), (15, .int .i64 (a1 : Int)), (16, .int .i64 (b1 : Int)), (21, .pointer (some ⟨bo, 0, none⟩)), (22, .slice (some ⟨gw, 0, none⟩) t.sz yc), (23, .slice (some ⟨gn, 0, none⟩) t.sz zc), (24, .int .i64 (i : Int)), (25, .slice v3 wl.length v4), (26, .bool done), (27, .int .i64 (k : Int)), (28, .pointer (some ⟨bm, 0, none⟩))]) (fun _ X => ¬ (inn = true ∧ mq.1 = k1) ∧ X = C) ?_ ?_
            · by_cases h1 : a1 ≤ i
              · by_cases h2 : i ≤ b1
                · by_cases h3 : mq.1 = k1
                  · skip
                    have h3' : mq.1 = ⟨#[107, 49]⟩ := h3
                    rw [if_pos ⟨(hinn ▸ decide_eq_true ⟨h1, h2⟩ : inn = true), h3⟩] at heq
                    (refine Ga ?_)
                    refine rndQ_n (α := Nat × Bool × Value) (k + 1, done, .slice v3 wl.length v4) ⟨by dsimp only; omega, wl, hoC, by dsimp only; omega, heq, accC⟩ ⟨rfl, rfl, rfl, rfl, rfl, rfl, rfl, rfl, rfl, rfl, ?_, trivial⟩ (by dsimp only; omega)
                    exact congrArg (Value.int .i64) (by dsimp only; omega)
                  · have h3' : mq.1 ≠ ⟨#[107, 49]⟩ := h3
                    (refine Ga ?_)
                    exact cutQ_n () ⟨fun h => h3 h.2, rfl⟩ ⟨rfl, rfl, rfl, rfl, rfl, rfl, rfl, rfl, rfl, rfl, rfl, rfl, trivial⟩
                · skip
                  (refine Ga ?_)
                  exact cutQ_n () ⟨fun h => h2 (of_decide_eq_true (hinn.trans h.1)).2, rfl⟩ ⟨rfl, rfl, rfl, rfl, rfl, rfl, rfl, rfl, rfl, rfl, rfl, rfl, trivial⟩
              · skip
                (refine Ga ?_)
                exact cutQ_n () ⟨fun h => h1 (of_decide_eq_true (hinn.trans h.1)).1, rfl⟩ ⟨rfl, rfl, rfl, rfl, rfl, rfl, rfl, rfl, rfl, rfl, rfl, rfl, trivial⟩
            rintro J _ C' ⟨hnot, rfl⟩
            rw [if_neg hnot] at heq
            cases done with
            | true =>
              rw [if_neg (by simp)] at heq
              (refine Ga ?_)
              (apply Lst_slit; (focus rfl); (focus rfl); (focus rfl); (focus rfl); (focus rfl); (focus rfl); (focus rfl); (focus rfl); (focus rfl); (focus (repeat (first | apply FillO.nil | (apply FillO.cons; (focus constructor); (focus rfl); (focus rfl); (focus (repeat constructor)))))); (focus ((try simp only [Sx.sizes]); first | done | rfl)); (focus rfl))
              refine Lst_abs (fun Y => Below C'.heap.size C' Y ∧ Blk Y C'.heap.size (mcs mq) 57) ⟨Bel, by unfold mcs; exact (by (repeat (first | assumption | (apply Blk.below (hb := hb1); rotate_left; (focus ((try simp only [Sx.sizes]); omega)); rotate_right) | (apply Blk.below (hb := hb2); rotate_left; (focus ((try simp only [Sx.sizes]); omega)); rotate_right) | (apply Blk.below (hb := hb3); rotate_left; (focus ((try simp only [Sx.sizes]); omega)); rotate_right) | (apply Blk.below (hb := hb4); rotate_left; (focus ((try simp only [Sx.sizes]); omega)); rotate_right) | (apply Blk.below (hb := hb5); rotate_left; (focus ((try simp only [Sx.sizes]); omega)); rotate_right) | (apply Blk.below (hb := hb6); rotate_left; (focus ((try simp only [Sx.sizes]); omega)); rotate_right) | (apply Blk.below (hb := hb7); rotate_left; (focus ((try simp only [Sx.sizes]); omega)); rotate_right) | (apply Blk.below (hb := hb8); rotate_left; (focus ((try simp only [Sx.sizes]); omega)); rotate_right) | (apply Blk.below (hb := hb9); rotate_left; (focus ((try simp only [Sx.sizes]); omega)); rotate_right) | exact Blk.newE (by first | rfl | ((try simp only [Sx.sizes]); first | done | omega)) _ _ | exact Blk.put_same (by (try simp only [Sx.sizes]); first | done | omega) _ _ | (apply Blk.put_ne; (focus omega)) | apply Blk.alloc | apply Blk.drew)); done)⟩ ?_
              rintro E1 ⟨hbE1, kE1⟩
              have hoE : OwnM A'.heap.size E1 (.slice v3 wl.length v4) wl := own_below hoC hbE1 (Nat.le_refl _)
              apply Lst_appendM (hown := hoE) (hy := mark_row kE1)
              focus (simp only [List.length_singleton]; omega)
              focus exact Nat.le_trans accC.size hbE1.size
              focus rfl
              focus rfl
              focus rfl
              intro v9 E2 ho9 hb9
              have accE := (accC.trans (hbE1.mono accC.size)).trans hb9
              obtain ⟨y1, y2, y3, rfl⟩ := own_slice ho9
              (refine Ga ?_)
              refine rndQ_n (α := Nat × Bool × Value) (k + 1, true, .slice y1 y2 y3) ⟨by dsimp only; omega, _, ho9, by rw [List.length_append, List.length_singleton]; dsimp only; omega, by rw [List.append_assoc]; exact heq, accE⟩ ⟨rfl, rfl, rfl, rfl, rfl, rfl, rfl, rfl, rfl, rfl, ?_, trivial⟩ (by dsimp only; omega)
              exact congrArg (Value.int .i64) (by dsimp only; omega)
            | false =>
              by_cases hgt : cmpS k1 mq.1 < 0
              · rw [if_pos ⟨rfl, hgt⟩] at heq
                have hgt2 : 0 < cmpS mq.1 k1 := by have := cmpS_neg k1 mq.1; omega
                (refine Ga ?_)
                apply Lst_pu
                · apply P_scmp (c := cmpS mq.1 k1) (r := true)
                  focus rfl
                  focus rfl
                  focus rfl
                  focus rfl
                  focus exact (show (!(decide (cmpS mq.1 k1 < 0) || decide (cmpS mq.1 k1 = 0))) = true by rw [decide_eq_false (by omega), decide_eq_false (by omega)]; rfl)
                focus rfl
                (refine Ga ?_)
                (apply Lst_slit; (focus rfl); (focus rfl); (focus rfl); (focus rfl); (focus rfl); (focus rfl); (focus rfl); (focus rfl); (focus rfl); (focus (repeat (first | apply FillO.nil | (apply FillO.cons; (focus constructor); (focus rfl); (focus rfl); (focus (repeat constructor)))))); (focus ((try simp only [Sx.sizes]); first | done | rfl)); (focus rfl))
                refine Lst_abs (fun Y => Below C'.heap.size C' Y ∧ Blk Y C'.heap.size (mcs (k1, ov)) 57) ⟨Bel, by unfold mcs; exact (by (repeat (first | assumption | (apply Blk.below (hb := hb1); rotate_left; (focus ((try simp only [Sx.sizes]); omega)); rotate_right) | (apply Blk.below (hb := hb2); rotate_left; (focus ((try simp only [Sx.sizes]); omega)); rotate_right) | (apply Blk.below (hb := hb3); rotate_left; (focus ((try simp only [Sx.sizes]); omega)); rotate_right) | (apply Blk.below (hb := hb4); rotate_left; (focus ((try simp only [Sx.sizes]); omega)); rotate_right) | (apply Blk.below (hb := hb5); rotate_left; (focus ((try simp only [Sx.sizes]); omega)); rotate_right) | (apply Blk.below (hb := hb6); rotate_left; (focus ((try simp only [Sx.sizes]); omega)); rotate_right) | (apply Blk.below (hb := hb7); rotate_left; (focus ((try simp only [Sx.sizes]); omega)); rotate_right) | (apply Blk.below (hb := hb8); rotate_left; (focus ((try simp only [Sx.sizes]); omega)); rotate_right) | (apply Blk.below (hb := hb9); rotate_left; (focus ((try simp only [Sx.sizes]); omega)); rotate_right) | exact Blk.newE (by first | rfl | ((try simp only [Sx.sizes]); first | done | omega)) _ _ | exact Blk.put_same (by (try simp only [Sx.sizes]); first | done | omega) _ _ | (apply Blk.put_ne; (focus omega)) | apply Blk.alloc | apply Blk.drew)); done)⟩ ?_
                rintro G1 ⟨hbG1, kG1⟩
                have hoG : OwnM A'.heap.size G1 (.slice v3 wl.length v4) wl := own_below hoC hbG1 (Nat.le_refl _)
                apply Lst_appendMg (hown := hoG) (hy := mark_row kG1)
                focus (simp only [List.length_singleton]; omega)
                focus exact Nat.le_trans accC.size hbG1.size
                focus rfl
                focus rfl
                focus rfl
                intro v8 G2 ho8 hb8 hg8
                have accG := (accC.trans (hbG1.mono accC.size)).trans hb8
                obtain ⟨w1', w2', w3', rfl⟩ := own_slice ho8
                have kmG := (km.below hbG1 lm).grown hg8 hob
                (refine Ga ?_)
                (apply Lst_slit; (focus rfl); (focus rfl); (focus rfl); (focus rfl); (focus rfl); (focus rfl); (focus rfl); (focus rfl); (focus rfl); (focus (repeat (first | apply FillO.nil | (apply FillO.cons; (focus constructor); (focus rfl); (focus rfl); (focus (repeat constructor)))))); (focus ((try simp only [Sx.sizes]); first | done | rfl)); (focus rfl))
                refine Lst_abs (fun Y => Below G2.heap.size G2 Y ∧ Blk Y G2.heap.size (mcs mq) 57) ⟨Bel, by unfold mcs; exact (by (repeat (first | assumption | (apply Blk.below (hb := hb1); rotate_left; (focus ((try simp only [Sx.sizes]); omega)); rotate_right) | (apply Blk.below (hb := hb2); rotate_left; (focus ((try simp only [Sx.sizes]); omega)); rotate_right) | (apply Blk.below (hb := hb3); rotate_left; (focus ((try simp only [Sx.sizes]); omega)); rotate_right) | (apply Blk.below (hb := hb4); rotate_left; (focus ((try simp only [Sx.sizes]); omega)); rotate_right) | (apply Blk.below (hb := hb5); rotate_left; (focus ((try simp only [Sx.sizes]); omega)); rotate_right) | (apply Blk.below (hb := hb6); rotate_left; (focus ((try simp only [Sx.sizes]); omega)); rotate_right) | (apply Blk.below (hb := hb7); rotate_left; (focus ((try simp only [Sx.sizes]); omega)); rotate_right) | (apply Blk.below (hb := hb8); rotate_left; (focus ((try simp only [Sx.sizes]); omega)); rotate_right) | (apply Blk.below (hb := hb9); rotate_left; (focus ((try simp only [Sx.sizes]); omega)); rotate_right) | exact Blk.newE (by first | rfl | ((try simp only [Sx.sizes]); first | done | omega)) _ _ | exact Blk.put_same (by (try simp only [Sx.sizes]); first | done | omega) _ _ | (apply Blk.put_ne; (focus omega)) | apply Blk.alloc | apply Blk.drew)); done)⟩ ?_
                rintro E1 ⟨hbE1, kE1⟩
                have hoE : OwnM A'.heap.size E1 (.slice w1' w2' w3') (wl ++ [(k1, ov)]) := own_below ho8 hbE1 (Nat.le_refl _)
                apply Lst_appendM (hown := hoE) (hy := mark_row kE1)
                focus (simp only [List.length_singleton]; (try simp only [List.length_append, List.length_singleton]); omega)
                focus exact Nat.le_trans accG.size hbE1.size
                focus rfl
                focus rfl
                focus rfl
                intro v9 E2 ho9 hb9
                have accE := (accG.trans (hbE1.mono accG.size)).trans hb9
                obtain ⟨y1, y2, y3, rfl⟩ := own_slice ho9
                (refine Ga ?_)
                refine rndQ_n (α := Nat × Bool × Value) (k + 1, true, .slice y1 y2 y3) ⟨by dsimp only; omega, _, ho9, by rw [List.length_append, List.length_singleton]; dsimp only; (try simp only [List.length_append, List.length_singleton]); omega, by rw [List.append_assoc, List.append_assoc]; exact heq, accE⟩ ⟨rfl, rfl, rfl, rfl, rfl, rfl, rfl, rfl, rfl, rfl, ?_, trivial⟩ (by dsimp only; omega)
                exact congrArg (Value.int .i64) (by dsimp only; omega)
              · rw [if_neg (fun h => hgt h.2)] at heq
                have hgt2 : cmpS mq.1 k1 ≤ 0 := by have := cmpS_neg k1 mq.1; omega
                (refine Ga ?_)
                apply Lst_pu
                · apply P_scmp (c := cmpS mq.1 k1) (r := false)
                  focus rfl
                  focus rfl
                  focus rfl
                  focus rfl
                  focus exact (show (!(decide (cmpS mq.1 k1 < 0) || decide (cmpS mq.1 k1 = 0))) = false by rcases Int.lt_or_eq_of_le hgt2 with h | h; (rw [decide_eq_true h]; rfl); (rw [decide_eq_true h, Bool.or_true]; rfl))
                focus rfl
                (refine Ga ?_)
                (apply Lst_slit; (focus rfl); (focus rfl); (focus rfl); (focus rfl); (focus rfl); (focus rfl); (focus rfl); (focus rfl); (focus rfl); (focus (repeat (first | apply FillO.nil | (apply FillO.cons; (focus constructor); (focus rfl); (focus rfl); (focus (repeat constructor)))))); (focus ((try simp only [Sx.sizes]); first | done | rfl)); (focus rfl))
                refine Lst_abs (fun Y => Below C'.heap.size C' Y ∧ Blk Y C'.heap.size (mcs mq) 57) ⟨Bel, by unfold mcs; exact (by (repeat (first | assumption | (apply Blk.below (hb := hb1); rotate_left; (focus ((try simp only [Sx.sizes]); omega)); rotate_right) | (apply Blk.below (hb := hb2); rotate_left; (focus ((try simp only [Sx.sizes]); omega)); rotate_right) | (apply Blk.below (hb := hb3); rotate_left; (focus ((try simp only [Sx.sizes]); omega)); rotate_right) | (apply Blk.below (hb := hb4); rotate_left; (focus ((try simp only [Sx.sizes]); omega)); rotate_right) | (apply Blk.below (hb := hb5); rotate_left; (focus ((try simp only [Sx.sizes]); omega)); rotate_right) | (apply Blk.below (hb := hb6); rotate_left; (focus ((try simp only [Sx.sizes]); omega)); rotate_right) | (apply Blk.below (hb := hb7); rotate_left; (focus ((try simp only [Sx.sizes]); omega)); rotate_right) | (apply Blk.below (hb := hb8); rotate_left; (focus ((try simp only [Sx.sizes]); omega)); rotate_right) | (apply Blk.below (hb := hb9); rotate_left; (focus ((try simp only [Sx.sizes]); omega)); rotate_right) | exact Blk.newE (by first | rfl | ((try simp only [Sx.sizes]); first | done | omega)) _ _ | exact Blk.put_same (by (try simp only [Sx.sizes]); first | done | omega) _ _ | (apply Blk.put_ne; (focus omega)) | apply Blk.alloc | apply Blk.drew)); done)⟩ ?_
                rintro E1 ⟨hbE1, kE1⟩
                have hoE : OwnM A'.heap.size E1 (.slice v3 wl.length v4) wl := own_below hoC hbE1 (Nat.le_refl _)
                apply Lst_appendM (hown := hoE) (hy := mark_row kE1)
                focus (simp only [List.length_singleton]; omega)
                focus exact Nat.le_trans accC.size hbE1.size
                focus rfl
                focus rfl
                focus rfl
                intro v9 E2 ho9 hb9
                have accE := (accC.trans (hbE1.mono accC.size)).trans hb9
                obtain ⟨y1, y2, y3, rfl⟩ := own_slice ho9
                (refine Ga ?_)
                refine rndQ_n (α := Nat × Bool × Value) (k + 1, false, .slice y1 y2 y3) ⟨by dsimp only; omega, _, ho9, by rw [List.length_append, List.length_singleton]; dsimp only; omega, by rw [List.append_assoc]; exact heq, accE⟩ ⟨rfl, rfl, rfl, rfl, rfl, rfl, rfl, rfl, rfl, rfl, ?_, trivial⟩ (by dsimp only; omega)
                exact congrArg (Value.int .i64) (by dsimp only; omega)
          · skip
            obtain rfl : k = Wl.length := by omega
            rw [List.drop_length, want_nil] at heq
            have hfw : ∀ q ∈ wantL inn k1 ov d0 Wl, q.2.Fit := fun q hq => by
              rcases want_mem hq with h | rfl
              · exact hft q h
              · exact hvf
            cases done with
            | true =>
              rw [if_pos rfl, List.append_nil] at heq
              rw [← heq] at hfw
              have hcnB := cell_below bB hcn
              have hrow := OwnM.rows hoB
              have hrn := SRows.below hor bB (Nat.le_refl _)
              (refine Ga ?_)
              (apply Lst_call; (focus rfl); (focus rfl))
              refine (r_Same Nl wl vn v3 dn v4 (by omega) hft2 hfw B hrn hrow).mono ?_
              rintro v D ⟨rfl, hbD⟩
              rw [heq, hlast]
              have bD := bB.trans (hbD.mono bB.size)
              (refine Ga ?_)
              refine rndQ_n (α := Nat) (i + 1) ⟨hil, bA.trans (bD.mono bA.size)⟩ ⟨rfl, rfl, rfl, rfl, rfl, rfl, rfl, ?_, trivial⟩ (by omega)
              exact congrArg (Value.int .i64) (by omega)
            | false =>
              rw [if_neg (by simp)] at heq
              rw [← heq] at hfw
              have hoC := hoB
              have accC := bB
              (refine Ga ?_)
              (apply Lst_slit; (focus rfl); (focus rfl); (focus rfl); (focus rfl); (focus rfl); (focus rfl); (focus rfl); (focus rfl); (focus rfl); (focus (repeat (first | apply FillO.nil | (apply FillO.cons; (focus constructor); (focus rfl); (focus rfl); (focus (repeat constructor)))))); (focus ((try simp only [Sx.sizes]); first | done | rfl)); (focus rfl))
              refine Lst_abs (fun Y => Below B.heap.size B Y ∧ Blk Y B.heap.size (mcs (k1, ov)) 57) ⟨Bel, by unfold mcs; exact (by (repeat (first | assumption | (apply Blk.below (hb := hb1); rotate_left; (focus ((try simp only [Sx.sizes]); omega)); rotate_right) | (apply Blk.below (hb := hb2); rotate_left; (focus ((try simp only [Sx.sizes]); omega)); rotate_right) | (apply Blk.below (hb := hb3); rotate_left; (focus ((try simp only [Sx.sizes]); omega)); rotate_right) | (apply Blk.below (hb := hb4); rotate_left; (focus ((try simp only [Sx.sizes]); omega)); rotate_right) | (apply Blk.below (hb := hb5); rotate_left; (focus ((try simp only [Sx.sizes]); omega)); rotate_right) | (apply Blk.below (hb := hb6); rotate_left; (focus ((try simp only [Sx.sizes]); omega)); rotate_right) | (apply Blk.below (hb := hb7); rotate_left; (focus ((try simp only [Sx.sizes]); omega)); rotate_right) | (apply Blk.below (hb := hb8); rotate_left; (focus ((try simp only [Sx.sizes]); omega)); rotate_right) | (apply Blk.below (hb := hb9); rotate_left; (focus ((try simp only [Sx.sizes]); omega)); rotate_right) | exact Blk.newE (by first | rfl | ((try simp only [Sx.sizes]); first | done | omega)) _ _ | exact Blk.put_same (by (try simp only [Sx.sizes]); first | done | omega) _ _ | (apply Blk.put_ne; (focus omega)) | apply Blk.alloc | apply Blk.drew)); done)⟩ ?_
              rintro G1 ⟨hbG1, kG1⟩
              have hoG : OwnM A'.heap.size G1 (.slice v3 wl.length v4) wl := own_below hoC hbG1 (Nat.le_refl _)
              apply Lst_appendMg (hown := hoG) (hy := mark_row kG1)
              focus (simp only [List.length_singleton]; omega)
              focus exact Nat.le_trans accC.size hbG1.size
              focus rfl
              focus rfl
              focus rfl
              intro v8 G2 ho8 hb8 hg8
              have accG := (accC.trans (hbG1.mono accC.size)).trans hb8
              obtain ⟨w1', w3', rfl, _⟩ := own_form ho8
              have hcnB := cell_below accG hcn
              have hrow := OwnM.rows ho8
              have hrn := SRows.below hor accG (Nat.le_refl _)
              (refine Ga ?_)
              (apply Lst_call; (focus rfl); (focus rfl))
              refine (r_Same Nl (wl ++ [(k1, ov)]) vn w1' dn w3' (by omega) hft2 hfw G2 hrn hrow).mono ?_
              rintro v D ⟨rfl, hbD⟩
              rw [heq, hlast]
              have bD := accG.trans (hbD.mono accG.size)
              (refine Ga ?_)
              refine rndQ_n (α := Nat) (i + 1) ⟨hil, bA.trans (bD.mono bA.size)⟩ ⟨rfl, rfl, rfl, rfl, rfl, rfl, rfl, ?_, trivial⟩ (by omega)
              exact congrArg (Value.int .i64) (by omega)
        · (refine Ga ?_)
          (apply retQ1; (focus rfl))
          exact ⟨rfl, bwY.trans (bA.mono bwY.size)⟩
      · (refine Ga ?_)
        (apply retQ1; (focus rfl))
        exact ⟨rfl, bw3⟩
end
end Mk
end Go.Proofs.YtmgipnckojopcaaGreat
