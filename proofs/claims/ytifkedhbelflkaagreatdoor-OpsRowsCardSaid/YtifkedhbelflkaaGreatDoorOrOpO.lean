/- The program's Join of pieces in a row; quireref6.Clean and quirehelp.Ranges at one range. -/
import Derived.Test.YtifkedhbelflkaaGreatDoorOrOpN
namespace Go.Proofs.YtifkedhbelflkaaGreatDoor
set_option maxRecDepth 100000
namespace Op
open Go Go.RowKit Sx Tl Val
open Utf (rs tl Tabs cutS)
theorem enc_le : ∀ l : List Int, (Utf.enc l).length ≤ 4 * l.length
  | [] => Nat.le_refl _
  | r :: l => by
    have h1 := enc_le l
    have h2 := (Lib.encodeRuneZ_length r).2
    show (Lib.encodeRune r ++ Utf.enc l).length ≤ 4 * (l.length + 1)
    rw [List.length_append]
    have h3 : (Lib.encodeRune r).length = (Lib.encodeRuneZ r).length := by unfold Lib.encodeRune; rw [List.length_map]
    omega
theorem size_rn {t : ByteArray} (h : Lib.validD (tl t) = true) : t.size ≤ 4 * rn t := by
  have h1 := Utf.enc_rs h
  have h2 := enc_le (rs (tl t))
  have h3 : (tl t).length = t.size := Array.length_toList
  rw [h1] at h2
  unfold rn
  omega
/-- All their bytes. -/
def szs (ts : List ByteArray) : Nat := (ts.map ByteArray.size).sum
theorem szs_cons (t : ByteArray) (ts : List ByteArray) : szs (t :: ts) = t.size + szs ts := by unfold szs; rw [List.map_cons, List.sum_cons]
theorem szs_tot : ∀ {ts : List ByteArray}, (∀ t ∈ ts, Tx t) → szs ts ≤ 4 * tot ts
  | [], _ => Nat.zero_le _
  | t :: ts, h => by
    have h1 := szs_tot (ts := ts) fun x hx => h x (List.mem_cons_of_mem _ hx)
    have h2 := size_rn (h t List.mem_cons_self).val
    rw [szs_cons, tot_cons]
    omega
theorem fold_size : ∀ (ts : List ByteArray) (acc : ByteArray), (ts.foldl (· ++ ·) acc).size = acc.size + szs ts
  | [], acc => rfl
  | t :: ts, acc => by
    show (ts.foldl (· ++ ·) (acc ++ t)).size = _
    rw [fold_size ts (acc ++ t), ByteArray.size_append, szs_cons, Nat.add_assoc]
theorem catB_size (ts : List ByteArray) : (catB ts).size = szs ts := by
  unfold catB
  rw [fold_size]
  show 0 + _ = _
  rw [Nat.zero_add]
theorem joinL_size : ∀ ts : List ByteArray, (Lib.join (ts.map (·.data.toList)) []).length = szs ts
  | [] => by rw [List.map_nil, Lib.join_nil]; rfl
  | t :: ts => by
    rw [List.map_cons, join_nil_cons, List.length_append, joinL_size ts, szs_cons]
    rfl
theorem catS_size (p : Nat) (ts : List ByteArray) : (catS (seg p ts)).size = szs ts := by
  unfold catS
  rw [seg_tx]
  show (Lib.join (ts.map (·.data.toList)) []).toArray.size = _
  rw [List.size_toArray, joinL_size]
theorem szs_take (ts : List ByteArray) (i : Nat) : szs (ts.take i) ≤ szs ts := by
  have h : szs ts = szs (ts.take i) + szs (ts.drop i) := by
    unfold szs
    conv => lhs; rw [← List.take_append_drop i ts]
    rw [List.map_append, List.sum_append]
  omega
theorem szs_mem : ∀ {ts : List ByteArray} {t : ByteArray}, t ∈ ts → t.size ≤ szs ts
  | x :: ts, t, h => by
    rw [szs_cons]
    rcases List.mem_cons.1 h with rfl | h
    · omega
    · have := szs_mem h
      omega
theorem up_dis {l : List Mo} (h : Up l) : Dis (fid l) l.length := fun p q hp hq e => by
  rw [fid_at hp, fid_at hq] at e
  rcases Nat.lt_trichotomy p q with hpq | rfl | hpq
  · have := List.pairwise_iff_getElem.1 h p q hp hq hpq
    rw [e, lt_irr] at this
    cases this
  · rfl
  · have := List.pairwise_iff_getElem.1 h q p hq hp hpq
    rw [e, lt_irr] at this
    cases this
theorem rng_row {w : World} {b : Nat} {r : Rg} (h : Blk w b (rcs r) 39) : SRows w 3 (.slice (some ⟨b, 0, none⟩) 1 1) ([r].map rcs) := by
  refine SRows.of_own (base := 0) (e := 39) (nn := 1) ⟨rfl, .inr ⟨b, 1, (rcs r).toArray, rfl, Nat.zero_le _, ?_, Nat.le_refl _, by decide, rfl, rfl⟩⟩ (fun x hx => by rw [List.mem_singleton.1 hx]; rfl) (by decide)
  exact h
def RgOk (r : Rg) : Prop := 1 ≤ r.1 ∧ r.1 ≤ 9007199254740991 ∧ 1 ≤ r.2.1 ∧ r.2.1 < r.2.2 ∧ r.2.2 ≤ 9007199254740992
section
attribute [local irreducible] RnS
attribute [local irreducible] W Lst Qst Pu seqQ blkQ rndQ cutQ retQ Does Enters IntKind.wrap bits sb World.alloc World.putObj Blk
theorem c_JoinS (ts : List ByteArray) (p : Nat) (a : Option Addr) (c : Nat) (h1 : 1 ≤ ts.length) (hn : ts.length < 20) (ht : ∀ t ∈ ts, Tx t) (hp : p + tot ts ≤ 200000) (w : World) (hT : Tabs w) (hr : SRows w 22 (.slice a ts.length c) ((seg p ts).map ocs)) :
    Does Tryz.prog 19 #[.slice a ts.length c] w fun v w' => OwnO w.heap.size w' v (seg p (cuts (tot ts) (runesT ts))) ∧ Below w.heap.size w w' := by
  have hL : (seg p ts).length = ts.length := seg_len p ts
  have hch := seg_chain ht (p := p) (by omega)
  have hz := szs_tot ht
  have htx := seg_tx p ts
  have hrs := runesS_seg p ts
  have hg : ∀ x ∈ runesT ts, Utf.good x := fun x hx => by
    have hc := (catB_rs ht).2
    rw [← hc] at hx
    exact Utf.rs_good _ x hx
  have hr0 : (seg p ts)[0]'(by omega) = pc p ts[0] := by
    rw [seg_get p ts 0 (by omega)]
    rfl
  have hd := up_dis hch.up
  have hsz : ∀ o ∈ seg p ts, o.tx.size ≤ 1000000 := fun o ho => by
    have := List.mem_map_of_mem (f := Mo.tx) ho
    rw [htx] at this
    have := szs_mem this
    omega
  have hcs := catS_size p ts
  have hh := c_Join (seg p ts) (seg p ts) a c (by omega) (by omega) rfl (fun o => Iff.rfl) hd hch hsz (by omega) (by rw [hr0, hrs, tot_len]; show 1 + p + tot ts ≤ _; omega) w hT (by rw [hL]; exact hr)
  rw [← hL]
  refine hh.mono fun v w' h => ⟨?_, h.2⟩
  have h3 := h.1
  rw [hrs, hr0, chunks_seg _ _ _ _ hg, tot_len] at h3
  exact h3
set_option maxHeartbeats 2000000 in
theorem c_Join0 (a : Option Addr) (c : Nat) (w : World) (hT : Tabs w) (hr : SRows w 22 (.slice a 0 c) []) : Does Tryz.prog 19 #[.slice a 0 c] w fun v w' => v = .slice none 0 0 ∧ Below w.heap.size w w' := by
  refine Does_of (args := [.slice a 0 c]) Tryz.func19 (by kernel_rfl) rfl rfl rfl rfl rfl ?_
  (refine Ga ?_)
  (apply Lst_call; (focus rfl); (focus rfl))
  refine (c_CloneO [] a c (by decide) w hr).mono ?_
  rintro v A ⟨hoA, bA⟩
  obtain ⟨v1, v3, rfl, hv13⟩ := own_form hoA
  (refine Ga ?_)
  (apply Lst_call; (focus rfl); (focus rfl))
  refine (c_Delete [] v1 v3 (by decide) (fun o ho => absurd ho List.not_mem_nil) A (hT.below bA) hoA.rows).mono ?_
  rintro v B ⟨rfl, hB⟩
  have bB := bA.trans (hB.mono bA.size)
  have hoB : OwnO w.heap.size B (.slice v1 0 v3) [] := own_below hoA hB (Nat.le_refl _)
  (refine Ga ?_)
  (apply Lst_call; (focus rfl); (focus rfl))
  refine (c_Sort v1 0 v3 w.heap.size [] (by decide) B hoB bB.size rfl (fun p q hp => absurd hp (Nat.not_lt_zero _))).mono ?_
  rintro v C ⟨rfl, ⟨l, hoC, hsm, hseg⟩, hC⟩
  have bC := bB.trans hC
  obtain rfl : l = [] := List.eq_nil_of_length_eq_zero hsm.len
  (refine Ga ?_)
  (apply Lst_call; (focus rfl); (focus rfl))
  refine (c_Compact [] v1 v3 (by decide) (fun p q hp => absurd hp (Nat.not_lt_zero _)) C hoC.rows).mono ?_
  rintro v D ⟨rfl, hD⟩
  have bD := bC.trans (hD.mono bC.size)
  (refine Ga ?_)
  refine W_loop (α := Nat) (fun x => [(3, .slice v1 0 v3), (4, .slice none 0 0), (5, .int .i64 (x : Int))]) (fun x A => x = 0 ∧ A = D) (fun _ _ => 0) 0 ⟨rfl, rfl⟩ ⟨rfl, rfl, rfl, trivial⟩ ?_
  rintro J x E ⟨rfl, rfl⟩
  (refine Ga ?_)
  (apply retQ1; (focus rfl))
  exact ⟨rfl, bD⟩
set_option maxHeartbeats 2000000 in
theorem r_right6 (r : Rg) (h : RgOk r) (w : World) : Does Tryz.prog 58 #[.agg (rcs r).toArray] w fun v w' => v = .bool true ∧ Below w.heap.size w w' := by
  refine Does_of (args := [.agg (rcs r).toArray]) Tryz.func58 (by kernel_rfl) rfl rfl rfl rfl rfl ?_
  obtain ⟨h1, h2, h3, h4, h5⟩ := h
  unfold rcs
  (refine Ga ?_)
  (apply retQ1; (focus rfl))
  exact ⟨rfl, Bel⟩
set_option maxHeartbeats 4000000 in
theorem r_Clean6 (r : Rg) (h : RgOk r) (b : Nat) (w : World) (hk : Blk w b (rcs r) 39) : Does Tryz.prog 23 #[.slice (some ⟨b, 0, none⟩) 1 1] w fun v w' => (∃ a c, v = .slice a 1 c ∧ SRows w' 3 (.slice a 1 c) [rcs r]) ∧ Below w.heap.size w w' := by
  refine Does_of (args := [.slice (some ⟨b, 0, none⟩) 1 1]) Tryz.func23 (by kernel_rfl) rfl rfl rfl rfl rfl ?_
  have hlb := hk.lt
  (refine Ga ?_)
  refine W_loop (α := Nat × Value) (fun x => [(0, .slice (some ⟨b, 0, none⟩) 1 1), (3, x.2), (4, .int .i64 (x.1 : Int))]) (fun x A => Below w.heap.size w A ∧ (x.1 = 0 ∧ x.2 = .slice none 0 0 ∧ A = w ∨ x.1 = 1 ∧ A.ownsRow w.heap.size 39 3 x.2 1 (rcs r))) (fun x _ => 1 - x.1) (0, .slice none 0 0) ⟨Below.refl _ _, .inl ⟨rfl, rfl, rfl⟩⟩ ⟨rfl, rfl, rfl, trivial⟩ ?_
  rintro J ⟨i, sv⟩ A ⟨bA, hh⟩
  dsimp only at hh bA ⊢
  rcases hh with ⟨rfl, rfl, rfl⟩ | ⟨rfl, hoA⟩
  · have hr := rng_row hk
    obtain ⟨g', off', e', _, hc⟩ := hr.at (i := 0) (show 0 < 1 by decide)
    cases e'
    rw [List.getElem_map, List.getElem_singleton] at hc
    (refine Ga ?_)
    apply Lst_pu
    · apply P_idxm (j := 0) (sz := 3)
      focus rfl
      focus rfl
      focus rfl
      focus rfl
      focus rfl
      focus omega
    focus rfl
    (refine Ga ?_)
    (apply Lst_call; (focus rfl); (focus rfl))
    refine (r_right6 r h A).mono ?_
    rintro v B ⟨rfl, hB⟩
    (refine Ga ?_)
    refine W_loop (α := Unit) (fun _ => [(0, .slice (some ⟨b, 0, none⟩) 1 1), (3, .slice none 0 0), (4, .int .i64 0), (5, .int .i64 0), (6, .int .i64 0)]) (fun _ C => C = B) (fun _ _ => 0) () rfl ⟨rfl, rfl, rfl, rfl, rfl, trivial⟩ ?_
    rintro J x C rfl
    have sC := hB.size
    (refine Ga ?_)
    apply Lst_push (hown := World.ownsRow_nil C A.heap.size 39 3) (bytes := 24)
    ((focus constructor); (focus rfl); (focus rfl); (focus rfl); (focus rfl); (focus rfl); (focus rfl); (focus rfl); (focus rfl); (focus rfl); (focus rfl); (focus simp [Value.oneCell']); (focus rfl); (focus rfl); (focus rfl); (focus rfl); (focus omega); (focus omega); (focus omega))
    intro v4 E ho2 hg2 _
    have bE := Below.own hB (World.ownsRow_nil C A.heap.size 39 3) hg2 (Nat.le_refl _) hB.size
    have ho3 : E.ownsRow A.heap.size 39 3 v4 1 ([[.int .u64 0, .int .u64 0, .int .u64 0]] : List (List Value)).flatten := ho2
    obtain ⟨y1, y3, rfl, hy3⟩ := own_form ho3
    have kE := hk.below bE hlb
    clear ho2 hg2 hc
    (refine Ga ?_)
    refine W_loop (α := Unit) (fun _ => [(0, .slice (some ⟨b, 0, none⟩) 1 1), (3, .slice y1 1 y3), (4, .int .i64 0), (5, .int .i64 0), (8, .int .i64 0)]) (fun _ D => D = E) (fun _ _ => 0) () rfl ⟨rfl, rfl, rfl, rfl, rfl, trivial⟩ ?_
    rintro J x D rfl
    obtain ⟨g1, cap, l1, e1, hc1, hb1, kl, hl1, hset⟩ := own_setR0 ho3 (fun l hl => by rw [List.mem_singleton.1 hl]; rfl) (by decide) (k := 0) (by decide)
    cases e1
    have hs2 := hset (rcs r) rfl
    (refine Ga ?_)
    apply Lst_pu
    · apply P_idxm (j := 0) (sz := 3)
      focus rfl
      focus rfl
      focus rfl
      focus rfl
      focus rfl
      focus omega
    focus rfl
    (refine Ga ?_)
    apply Lst_pu
    · apply P_idxm (j := 0) (sz := 3)
      focus rfl
      focus rfl
      focus rfl
      focus rfl
      focus rfl
      focus omega
    focus rfl
    apply Lst_storeM (vs := rcs r) (hb := kl)
    focus rfl
    focus rfl
    focus rfl
    focus rfl
    focus exact fun u hu => by simp [rcs] at hu; rcases hu with rfl | rfl | rfl <;> rfl
    focus exact hl1
    (refine Ga ?_)
    refine rndQ_n (α := Nat × Value) (1, .slice (some ⟨g1, 0, none⟩) 1 y3) ⟨Bel, .inr ⟨rfl, by simpa using hs2⟩⟩ ⟨rfl, rfl, rfl, trivial⟩ (by dsimp only; omega)
  · obtain ⟨s1, s3, rfl, hs13⟩ := own_form hoA
    (refine Ga ?_)
    refine W_loop (α := Nat × Value) (fun x => [(3, .slice s1 1 s3), (9, x.2), (10, .int .i64 (x.1 : Int))]) (fun x B => Below A.heap.size A B ∧ (x.1 = 0 ∧ x.2 = .slice none 0 0 ∨ x.1 = 1 ∧ B.ownsRow A.heap.size 39 3 x.2 1 (rcs r))) (fun x _ => 1 - x.1) (0, .slice none 0 0) ⟨Below.refl _ _, .inl ⟨rfl, rfl⟩⟩ ⟨rfl, rfl, rfl, trivial⟩ ?_
    rintro J ⟨i, ov⟩ B ⟨hB, hh⟩
    dsimp only at hh hB ⊢
    have bB := bA.trans (hB.mono bA.size)
    rcases hh with ⟨rfl, rfl⟩ | ⟨rfl, hoB⟩
    · have hoS : B.ownsRow w.heap.size 39 3 (.slice s1 1 s3) ([rcs r] : List (List Value)).length ([rcs r] : List (List Value)).flatten := own_below hoA hB (Nat.le_refl _)
      have hrS : SRows B 3 (.slice s1 1 s3) [rcs r] := SRows.of_own hoS (fun l hl => by rw [List.mem_singleton.1 hl]; rfl) (by decide)
      obtain ⟨g, off, rfl, _, hc⟩ := hrS.at (i := 0) (show 0 < 1 by decide)
      rw [List.getElem_singleton] at hc
      (refine Ga ?_)
      refine W_draw 29 (fun A' => A' = World.drew _) rfl (by kernel_rfl) rfl ?_
      (refine Qa ?_)
      rintro _ rfl
      have hB2 := Below.drew hB
      have hBD := Below.drew (Below.refl B.heap.size B)
      have sD : A.heap.size ≤ B.drew.heap.size := hB2.size
      generalize B.drew = D at *
      (refine Ga ?_)
      apply Lst_pu
      · apply P_idxm (j := 0) (sz := 3)
        focus rfl
        focus rfl
        focus rfl
        focus rfl
        focus rfl
        focus omega
      focus rfl
      (refine Ga ?_)
      apply Lst_loadS' (cs := rcs r)
      focus rfl
      focus rfl
      focus rfl
      focus rfl
      focus rfl
      focus exact (fun j u hu => cell_below hBD (hc j u hu))
      focus rfl
      unfold rcs
      (refine Ga ?_)
      apply Lst_push (hown := World.ownsRow_nil D A.heap.size 39 3) (bytes := 24)
      ((focus constructor); (focus rfl); (focus rfl); (focus rfl); (focus rfl); (focus rfl); (focus rfl); (focus rfl); (focus rfl); (focus rfl); (focus rfl); (focus simp [Value.oneCell']); (focus rfl); (focus rfl); (focus rfl); (focus rfl); (focus omega); (focus omega); (focus omega))
      intro v4 E ho2 hg2 _
      have bE := Below.own hB2 (World.ownsRow_nil D A.heap.size 39 3) hg2 (Nat.le_refl _) sD
      obtain ⟨y1, y3, rfl, hy3⟩ := own_form ho2
      (refine Ga ?_)
      refine rndQ_n (α := Nat × Value) (1, .slice y1 1 y3) ⟨bE, .inr ⟨rfl, ho2⟩⟩ ⟨rfl, rfl, rfl, trivial⟩ (by dsimp only; omega)
    · obtain ⟨z1, z3, rfl, _⟩ := own_form hoB
      (refine Ga ?_)
      (apply retQ1; (focus rfl))
      refine ⟨⟨z1, z3, rfl, SRows.of_own (base := A.heap.size) (e := 39) (nn := 1) (by simpa using hoB) (fun l hl => by rw [List.mem_singleton.1 hl]; rfl) (by decide)⟩, bB⟩
set_option maxHeartbeats 2000000 in
theorem h_Ranges (r : Rg) (a b : Option Addr) (c d : Nat) (w : World) (hx : SRows w 3 (.slice a 1 c) [rcs r]) (hy : SRows w 3 (.slice b 1 d) [rcs r]) : Does Tryz.prog 22 #[.slice a 1 c, .slice b 1 d] w fun v w' => v = .bool true ∧ Below w.heap.size w w' := by
  refine Does_of (args := [.slice a 1 c, .slice b 1 d]) Tryz.func22 (by kernel_rfl) rfl rfl rfl rfl rfl ?_
  (refine Ga ?_)
  refine W_loop (α := Nat) (fun k => [(0, .slice a 1 c), (1, .slice b 1 d), (5, .int .i64 (k : Int))]) (fun k A => k ≤ 1 ∧ Below w.heap.size w A) (fun k _ => 1 - k) 0 ⟨Nat.zero_le _, Bel⟩ ⟨rfl, rfl, rfl, trivial⟩ ?_
  rintro J k A ⟨hk, bA⟩
  by_cases hkl : k < 1
  · obtain rfl : k = 0 := by omega
    obtain ⟨g1, o1, rfl, _, hc1⟩ := (SRows.below hx bA (Nat.le_refl _)).at (i := 0) (show 0 < 1 by decide)
    obtain ⟨g2, o2, rfl, _, hc2⟩ := (SRows.below hy bA (Nat.le_refl _)).at (i := 0) (show 0 < 1 by decide)
    rw [List.getElem_singleton] at hc1 hc2
    (refine Ga ?_)
    refine W_draw 8 (fun A' => A' = World.drew _) rfl (by kernel_rfl) rfl ?_
    (refine Qa ?_)
    apply Qst_pu
    · apply P_idxm (j := 0) (sz := 3)
      focus rfl
      focus rfl
      focus rfl
      focus rfl
      focus rfl
      focus omega
    focus rfl
    (refine Qa ?_)
    apply Qst_loadS (cs := rcs r) (hc := fun A9 hA9 j u hu => by subst hA9; exact hc1 j u hu)
    focus rfl
    focus rfl
    focus rfl
    focus rfl
    focus rfl
    focus rfl
    (refine Qa ?_)
    apply Qst_pu
    · apply P_idxm (j := 0) (sz := 3)
      focus rfl
      focus rfl
      focus rfl
      focus rfl
      focus rfl
      focus omega
    focus rfl
    (refine Qa ?_)
    apply Qst_loadS (cs := rcs r) (hc := fun A9 hA9 j u hu => by subst hA9; exact hc2 j u hu)
    focus rfl
    focus rfl
    focus rfl
    focus rfl
    focus rfl
    focus rfl
    (refine Qa ?_)
    rintro _ rfl
    have bA2 := Below.drew bA
    generalize A.drew = D at *
    unfold rcs
    (refine Ga ?_)
    exact rndQ_n (α := Nat) 1 ⟨Nat.le_refl _, bA2⟩ ⟨rfl, rfl, rfl, trivial⟩ (by omega)
  · (refine Ga ?_)
    (apply retQ1; (focus rfl))
    exact ⟨rfl, bA⟩
end
end Op
end Go.Proofs.YtifkedhbelflkaaGreatDoor
