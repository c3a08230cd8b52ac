/- Marks: who wins a key; what the winners tell. -/
import Derived.Test.YtmgipnckojopcaaGreatPcMkM
import Derived.Test.YtmgipnckojopcaaGreatPcJSxRToSxF
namespace Go.Proofs.YtmgipnckojopcaaGreat
set_option maxRecDepth 100000
namespace Mk
open Go Go.RowKit Sx Tl Sq Val
theorem own_lowM {w : World} {B B' e sz n : Nat} {v : Value} {xs : List Value} (h : w.ownsRow B e sz v n xs) (hB : B' ≤ B) : w.ownsRow B' e sz v n xs := by
  refine ⟨h.1, ?_⟩
  rcases h.2 with h1 | ⟨g, cap, cur, h1, h2, h3⟩
  · exact .inl h1
  · exact .inr ⟨g, cap, cur, h1, Nat.le_trans hB h2, h3⟩
/-- A map's value is this operation. -/
def RO (v : Value) (o : Mo) : Prop := v = .agg (ocs o).toArray
def oz : Mo := ⟨(0, 0), 0, 0, (0, 0), (0, 0), ⟨#[]⟩, ⟨0, 0, 0, ⟨#[]⟩⟩, ⟨#[]⟩, (0, 0), ⟨(0, 0), false⟩, ⟨(0, 0), false⟩⟩
theorem ozero (w : World) : (zeroValue 47).run Tryz.prog w = .ok (.agg (ocs oz).toArray) w := by
  have h : (Tryz.prog.info? 47).map (fun i => i.zero) = some (some (.agg (ocs oz).toArray)) := by kernel_rfl
  obtain ⟨i, hi, hz⟩ := Option.map_eq_some_iff.1 h
  simp [zeroValue, typeInfo, hi, hz]
abbrev Bm (w : World) (mb : Nat) (m : List (ByteArray × Mo)) : Prop := MpAt w mb RO m
theorem Bm.below {w w' : World} {mb : Nat} {m : List (ByteArray × Mo)} (h : Bm w mb m) (hb : Below w.heap.size w w') : Bm w' mb m := MpAt.mono h (hb.block mb h.lt) fun _ _ h => h
def winM (m : List (ByteArray × Mo)) (o : Mo) : List (ByteArray × Mo) :=
  match Sx.look m o.key with
  | none => Sx.put m o.key o
  | some x => if mless x o then Sx.put m o.key o else m
/-- What a map's keys tell, one after the other. -/
def tell (m : List (ByteArray × Mo)) (k : List UInt8) : List (ByteArray × Vl) :=
  match Sx.look m ⟨k.toArray⟩ with
  | none => []
  | some o => if o.v.k = 0 then [] else [(⟨k.toArray⟩, cleanV o.v)]
def toldL (m : List (ByteArray × Mo)) : List (ByteArray × Vl) := (keysS m).flatMap (tell m)
def mcs (q : ByteArray × Vl) : List Value := [.string q.1, .int .i64 q.2.k, .int .i64 q.2.n, .float .f64 q.2.f, .string q.2.s]
/-- A row of marks of one's own. -/
def OwnM (B : Nat) (w : World) (v : Value) (l : List (ByteArray × Vl)) : Prop := w.ownsRow B 57 5 v l.length (l.map mcs).flatten
theorem OwnM.nil (B : Nat) (w : World) : OwnM B w (.slice none 0 0) [] := ⟨rfl, .inl ⟨rfl, rfl⟩⟩
theorem mcs_len (l : List (ByteArray × Vl)) : ∀ x ∈ l.map mcs, x.length = 5 := fun x hx => by
  obtain ⟨u, _, rfl⟩ := List.mem_map.1 hx
  rfl
theorem OwnM.rows {B : Nat} {w : World} {v : Value} {l : List (ByteArray × Vl)} (h : OwnM B w v l) : SRows w 5 v (l.map mcs) := by
  have h' : w.ownsRow B 57 5 v (l.map mcs).length (l.map mcs).flatten := by rw [List.length_map]; exact h
  exact SRows.of_own h' (mcs_len l) (by decide)
/-- Names behind a slice. -/
def StrL (w : World) (v : Value) (ss : List (List UInt8)) : Prop :=
  ∃ b cap, (v = .slice (some ⟨b, 0, none⟩) ss.length cap ∨ (v = .slice none 0 0 ∧ ss = [])) ∧ ∀ j (h : j < ss.length), w.cell? ⟨b, j, none⟩ = some (.string ⟨ss[j].toArray⟩)
theorem StrL.form {w : World} {v : Value} {ss : List (List UInt8)} (h : StrL w v ss) : ∃ a c, v = .slice a ss.length c := by
  obtain ⟨b, cap, hf | ⟨hf, rfl⟩, _⟩ := h
  · exact ⟨_, _, hf⟩
  · exact ⟨_, _, hf⟩
theorem StrL.at {w : World} {ss : List (List UInt8)} {a : Option Addr} {n c : Nat} (h : StrL w (.slice a n c) ss) {j : Nat} (hj : j < ss.length) : ∃ b, a = some ⟨b, 0, none⟩ ∧ w.cell? ⟨b, j, none⟩ = some (.string ⟨ss[j].toArray⟩) := by
  obtain ⟨b, cap, hf, hr⟩ := h
  rcases hf with hf | ⟨hf, rfl⟩
  · cases hf
    exact ⟨b, rfl, hr j hj⟩
  · exact absurd hj (Nat.not_lt_zero _)
theorem StrL.below {w w' : World} {v : Value} {ss : List (List UInt8)} (h : StrL w v ss) (hb : Below w.heap.size w w') : StrL w' v ss := by
  obtain ⟨b, cap, hf, hr⟩ := h
  exact ⟨b, cap, hf, fun j hj => cell_below hb (hr j hj)⟩
theorem StrL.of_own {w : World} {base e nn : Nat} {v : Value} {ss : List (List UInt8)} (h : w.ownsRow base e 1 v nn (ss.map encStr)) : StrL w v ss := by
  obtain ⟨hl, h⟩ := h
  simp at hl
  rcases h with ⟨rfl, hn⟩ | ⟨g, cap, cur, rfl, _, hg, _, _, hs, ht⟩
  · refine ⟨0, 0, .inr ⟨rfl, List.eq_nil_of_length_eq_zero (by omega)⟩, fun j hj => absurd hj (by omega)⟩
  · refine ⟨g, cap, .inl (by rw [hl]), fun j hj => ?_⟩
    have hg' : w.heap[g]? = some (.cells cur e) := hg
    have h1 : (cur.toList.take (nn * 1))[j]? = some (encStr ss[j]) := by rw [ht, List.getElem?_map, List.getElem?_eq_getElem hj]; rfl
    rw [List.getElem?_take] at h1
    have h2 : cur.toList[j]? = some (encStr ss[j]) := by
      split at h1
      · exact h1
      · cases h1
    simp only [World.cell?, hg']
    rw [← h2]
    simp
theorem keysS_len {α : Type} (es : List (ByteArray × α)) : (keysS es).length = es.length := by unfold keysS keysB; rw [List.length_mergeSort, List.length_map]
attribute [local irreducible] W Lst Qst Pu seqQ blkQ rndQ cutQ retQ Does Enters IntKind.wrap bits sb World.alloc World.putObj Blk
set_option maxHeartbeats 1000000 in
theorem c_win (mb : Nat) (m : List (ByteArray × Mo)) (o : Mo) (w : World) (h : Bm w mb m) : Does Tryz.prog 30 #[.map (some mb), .agg (ocs o).toArray] w fun v w' => v = .tuple #[] ∧ Bm w' mb (winM m o) ∧ Chg [mb] w w' := by
  refine Does_of (args := [.map (some mb), .agg (ocs o).toArray]) Tryz.func30 (by kernel_rfl) rfl rfl rfl rfl rfl ?_
  (refine Ga ?_)
  obtain ⟨X, hXe⟩ : ∃ X, w.alloc (.cells (ocs o).toArray 47) = X := ⟨_, rfl⟩
  have hbX : Below w.heap.size w X := by rw [← hXe]; exact Bel
  have kX : Blk X w.heap.size (ocs o) 47 := by rw [← hXe]; exact (by (repeat (first | assumption | (apply Blk.below (hb := hb1); rotate_left; (focus ((try simp only [Sx.sizes]); omega)); rotate_right) | (apply Blk.below (hb := hb2); rotate_left; (focus ((try simp only [Sx.sizes]); omega)); rotate_right) | (apply Blk.below (hb := hb3); rotate_left; (focus ((try simp only [Sx.sizes]); omega)); rotate_right) | (apply Blk.below (hb := hb4); rotate_left; (focus ((try simp only [Sx.sizes]); omega)); rotate_right) | (apply Blk.below (hb := hb5); rotate_left; (focus ((try simp only [Sx.sizes]); omega)); rotate_right) | (apply Blk.below (hb := hb6); rotate_left; (focus ((try simp only [Sx.sizes]); omega)); rotate_right) | (apply Blk.below (hb := hb7); rotate_left; (focus ((try simp only [Sx.sizes]); omega)); rotate_right) | (apply Blk.below (hb := hb8); rotate_left; (focus ((try simp only [Sx.sizes]); omega)); rotate_right) | (apply Blk.below (hb := hb9); rotate_left; (focus ((try simp only [Sx.sizes]); omega)); rotate_right) | exact Blk.newE (by first | rfl | ((try simp only [Sx.sizes]); first | done | omega)) _ _ | exact Blk.put_same (by (try simp only [Sx.sizes]); first | done | omega) _ _ | (apply Blk.put_ne; (focus omega)) | apply Blk.alloc | apply Blk.drew)); done)
  rw [hXe]
  clear hXe
  have hX := h.below hbX
  have hml := h.lt
  have lX := kX.lt
  have kX' := kX
  unfold ocs at kX
  (refine Ga ?_)
  apply Lst_mapok (hmp := hX) (z := .agg (ocs oz).toArray)
  focus rfl
  focus rfl
  focus rfl
  focus rfl
  focus exact ozero X
  focus rfl
  rintro v there (⟨h1, rfl, rfl⟩ | ⟨x, h1, hv, rfl⟩)
  · unfold winM
    rw [h1]
    unfold ocs
    (refine Ga ?_)
    refine Lst_abs (fun A => Below X.heap.size X A) Bel ?_
    intro A hbA
    have hA := hX.below hbA
    have kA := kX.below hbA lX
    have lA := kA.lt
    (refine Ga ?_)
    apply Lst_mapput (o : Mo) (hmp := hA)
    focus rfl
    focus rfl
    focus rfl
    focus rfl
    focus rfl
    focus rfl
    intro w' hm' hc' _
    (refine Ga ?_)
    exact retQ0n ⟨rfl, hm', (Chg.of (hbX.trans (hbA.mono hbX.size))).trans hc'⟩
  · obtain rfl : v = .agg (ocs x).toArray := hv
    unfold winM
    rw [h1]
    unfold ocs
    (refine Ga ?_)
    refine Lst_abs (fun A => Below X.heap.size X A ∧ Blk A X.heap.size (ocs x) 47) ⟨Bel, (by (repeat (first | assumption | (apply Blk.below (hb := hb1); rotate_left; (focus ((try simp only [Sx.sizes]); omega)); rotate_right) | (apply Blk.below (hb := hb2); rotate_left; (focus ((try simp only [Sx.sizes]); omega)); rotate_right) | (apply Blk.below (hb := hb3); rotate_left; (focus ((try simp only [Sx.sizes]); omega)); rotate_right) | (apply Blk.below (hb := hb4); rotate_left; (focus ((try simp only [Sx.sizes]); omega)); rotate_right) | (apply Blk.below (hb := hb5); rotate_left; (focus ((try simp only [Sx.sizes]); omega)); rotate_right) | (apply Blk.below (hb := hb6); rotate_left; (focus ((try simp only [Sx.sizes]); omega)); rotate_right) | (apply Blk.below (hb := hb7); rotate_left; (focus ((try simp only [Sx.sizes]); omega)); rotate_right) | (apply Blk.below (hb := hb8); rotate_left; (focus ((try simp only [Sx.sizes]); omega)); rotate_right) | (apply Blk.below (hb := hb9); rotate_left; (focus ((try simp only [Sx.sizes]); omega)); rotate_right) | exact Blk.newE (by first | rfl | ((try simp only [Sx.sizes]); first | done | omega)) _ _ | exact Blk.put_same (by (try simp only [Sx.sizes]); first | done | omega) _ _ | (apply Blk.put_ne; (focus omega)) | apply Blk.alloc | apply Blk.drew)); done)⟩ ?_
    rintro A ⟨hbA, kx⟩
    have hA := hX.below hbA
    have kA' := kX'.below hbA lX
    have kA := kX.below hbA lX
    have lA := kA.lt
    have kx' := kx
    have lx := kx.lt
    unfold ocs at kx
    have bwA := hbX.trans (hbA.mono hbX.size)
    (refine Ga ?_)
    (apply Lst_call; (focus rfl); (focus rfl))
    refine (c_MLess x o A).mono ?_
    rintro v B ⟨rfl, hbB⟩
    have hB := hA.below hbB
    have kB := kA.below hbB lA
    have lB := kB.lt
    have bwB := bwA.trans (hbB.mono bwA.size)
    dsimp only
    cases hm : mless x o with
    | true =>
      (refine Ga ?_)
      apply Lst_mapput (o : Mo) (hmp := hB)
      focus rfl
      focus rfl
      focus rfl
      focus rfl
      focus rfl
      focus rfl
      intro w' hm' hc' _
      (refine Ga ?_)
      exact retQ0n ⟨rfl, hm', (Chg.of bwB).trans hc'⟩
    | false =>
      (refine Ga ?_)
      exact retQ0n ⟨rfl, hB, Chg.of bwB⟩
theorem keys_in {α : Type} {m : List (ByteArray × α)} {k : List UInt8} (h : k ∈ keysS m) : ∃ a, Sx.look m ⟨k.toArray⟩ = some a := by
  have h1 : k ∈ keysB m := by
    unfold keysS at h
    exact (List.mergeSort_perm _ _).mem_iff.1 h
  unfold keysB at h1
  obtain ⟨q, hq, rfl⟩ := List.mem_map.1 h1
  clear h h1
  have e : (⟨q.1.data.toList.toArray⟩ : ByteArray) = q.1 := by simp
  rw [e]
  induction m with
  | nil => cases hq
  | cons y l ih =>
    unfold Sx.look
    by_cases hy : y.1 = q.1
    · exact ⟨y.2, by simp [hy]⟩
    · rcases List.mem_cons.1 hq with rfl | hq
      · exact absurd rfl hy
      · obtain ⟨a, ha⟩ := ih hq
        exact ⟨a, by simp [hy, ha]⟩
theorem tell_len (m : List (ByteArray × Mo)) (k : List UInt8) : (tell m k).length ≤ 1 := by
  unfold tell
  split
  · exact Nat.zero_le _
  · split
    · exact Nat.zero_le _
    · exact Nat.le_refl _
set_option maxHeartbeats 2000000 in
theorem c_told (mb : Nat) (m : List (ByteArray × Mo)) (w : World) (hs : ∀ p ∈ m, p.1.size ≤ maxLen) (hl : m.length ≤ 1000000) (h : Bm w mb m) : Does Tryz.prog 31 #[.map (some mb)] w fun v w' => OwnM w.heap.size w' v (toldL m) ∧ Below w.heap.size w w' := by
  refine Does_of (args := [.map (some mb)]) Tryz.func31 (by kernel_rfl) rfl rfl rfl rfl rfl ?_
  (refine Ga ?_)
  (apply Lst_call; (focus rfl); (focus rfl))
  refine (c_Keys mb w).mono ?_
  rintro v w1 ⟨rfl, rfl⟩
  (refine Ga ?_)
  (apply Lst_call; (focus rfl); (focus rfl))
  refine (c_Sorted mb _ m w h hs hl).mono ?_
  rintro v w2 ⟨hown, hb2⟩
  have hst := StrL.of_own hown
  obtain ⟨a, c, rfl⟩ := hst.form
  have b2 : Below w.heap.size w w2 := Sx.Below.after (w := w) Bel hb2
  have h2 := h.below b2
  rw [keysS_len] at *
  clear hown hb2
  (refine Ga ?_)
  refine W_loop (α := Nat × Value) (fun x => [(0, .map (some mb)), (3, x.2), (9, .slice a m.length c), (10, .int .i64 (m.length : Int)), (11, .int .i64 (x.1 : Int))])
    (fun x A => x.1 ≤ m.length ∧ OwnM w2.heap.size A x.2 (((keysS m).take x.1).flatMap (tell m)) ∧ Below w2.heap.size w2 A) (fun x _ => m.length - x.1) (0, .slice none 0 0) ⟨Nat.zero_le _, OwnM.nil _ _, Below.refl _ _⟩ ⟨rfl, rfl, rfl, rfl, rfl, trivial⟩ ?_
  rintro J ⟨i, v⟩ A ⟨hi, ho, hbA⟩
  dsimp only at hi ho ⊢
  obtain ⟨v1, v2, v3, rfl⟩ := own_slice ho
  have hmA := h2.below hbA
  have hsA := hst.below hbA
  by_cases hil : i < m.length
  · obtain ⟨b, rfl, hcell⟩ := hsA.at (j := i) (by rw [keysS_len]; exact hil)
    have hik : i < (keysS m).length := by rw [keysS_len]; exact hil
    obtain ⟨o, ho1⟩ := keys_in (List.getElem_mem hik)
    have htk : ((keysS m).take (i + 1)).flatMap (tell m) = ((keysS m).take i).flatMap (tell m) ++ (if o.v.k = 0 then [] else [(⟨((keysS m)[i]).toArray⟩, cleanV o.v)]) := by
      rw [List.take_succ_eq_append_getElem hik, List.flatMap_append]
      congr 1
      simp only [List.flatMap_cons, List.flatMap_nil, List.append_nil]
      unfold tell
      rw [ho1]
    have hcell' : A.cell? ⟨b, 0 + i, none⟩ = some (.string ⟨((keysS m)[i]).toArray⟩) := by rw [Nat.zero_add]; exact hcell
    have hln : (((keysS m).take i).flatMap (tell m)).length ≤ 1000000 := by
      refine Nat.le_trans ?_ hl
      have : ∀ (l : List (List UInt8)), (l.flatMap (tell m)).length ≤ l.length := by
        intro l
        induction l with
        | nil => simp
        | cons x l ih =>
          rw [List.flatMap_cons, List.length_append]
          have := tell_len m x
          simp only [List.length_cons]
          omega
      refine Nat.le_trans (this _) ?_
      rw [List.length_take]
      omega
    generalize (⟨((keysS m)[i]).toArray⟩ : ByteArray) = nm at *
    (refine Ga ?_)
    apply Lst_mapget (hmp := hmA) (z := .agg (ocs oz).toArray)
    focus rfl
    focus rfl
    focus rfl
    focus rfl
    focus exact ozero A
    focus rfl
    rintro v there (⟨h1, _⟩ | ⟨x, h1, hv, _⟩)
    · rw [ho1] at h1
      cases h1
    · rw [ho1] at h1
      obtain rfl : o = x := Option.some.inj h1
      obtain rfl : v = .agg (ocs o).toArray := hv
      unfold ocs
      (refine Ga ?_)
      refine Lst_abs (fun B => Below A.heap.size A B ∧ Blk B A.heap.size [.int .i64 o.v.k, .int .i64 o.v.n, .float .f64 o.v.f, .string o.v.s] 43) ⟨Bel, (by (repeat (first | assumption | (apply Blk.below (hb := hb1); rotate_left; (focus ((try simp only [Sx.sizes]); omega)); rotate_right) | (apply Blk.below (hb := hb2); rotate_left; (focus ((try simp only [Sx.sizes]); omega)); rotate_right) | (apply Blk.below (hb := hb3); rotate_left; (focus ((try simp only [Sx.sizes]); omega)); rotate_right) | (apply Blk.below (hb := hb4); rotate_left; (focus ((try simp only [Sx.sizes]); omega)); rotate_right) | (apply Blk.below (hb := hb5); rotate_left; (focus ((try simp only [Sx.sizes]); omega)); rotate_right) | (apply Blk.below (hb := hb6); rotate_left; (focus ((try simp only [Sx.sizes]); omega)); rotate_right) | (apply Blk.below (hb := hb7); rotate_left; (focus ((try simp only [Sx.sizes]); omega)); rotate_right) | (apply Blk.below (hb := hb8); rotate_left; (focus ((try simp only [Sx.sizes]); omega)); rotate_right) | (apply Blk.below (hb := hb9); rotate_left; (focus ((try simp only [Sx.sizes]); omega)); rotate_right) | exact Blk.newE (by first | rfl | ((try simp only [Sx.sizes]); first | done | omega)) _ _ | exact Blk.put_same (by (try simp only [Sx.sizes]); first | done | omega) _ _ | (apply Blk.put_ne; (focus omega)) | apply Blk.alloc | apply Blk.drew)); done)⟩ ?_
      rintro B ⟨hbB, kB⟩
      have lB := kB.lt
      have hoB := own_below ho hbB (Nat.le_refl _)
      have bB := hbA.trans (hbB.mono hbA.size)
      by_cases hk : o.v.k = 0
      · rw [if_pos hk, List.append_nil] at htk
        (refine Ga ?_)
        refine rndQ_n (α := Nat × Value) (i + 1, .slice v1 v2 v3) ⟨hil, ?_, bB⟩ ⟨rfl, rfl, rfl, rfl, ?_, trivial⟩ (by dsimp only; omega)
        · dsimp only
          rw [htk]
          exact hoB
        · exact congrArg (Value.int .i64) (by dsimp only; omega)
      · rw [if_neg hk] at htk
        (refine Ga ?_)
        (apply Lst_call; (focus rfl); (focus rfl))
        refine (c_Clean o.v B).mono ?_
        rintro v C ⟨rfl, hbC⟩
        have hoC := own_below hoB hbC (Nat.le_refl _)
        have bC := bB.trans (hbC.mono bB.size)
        have hsC := bC.size
        obtain ⟨cv, hcv⟩ : ∃ cv, cleanV o.v = cv := ⟨_, rfl⟩
        rw [hcv] at htk ⊢
        unfold Vl.v
        (refine Ga ?_)
        apply Lst_push (hown := hoC) (bytes := 56)
        ((focus constructor); (focus rfl); (focus rfl); (focus rfl); (focus rfl); (focus rfl); (focus rfl); (focus rfl); (focus rfl); (focus rfl); (focus rfl); (focus simp [Value.oneCell']); (focus rfl); (focus rfl); (focus rfl); (focus rfl); (focus omega); (focus omega); (focus omega))
        intro v4 D ho2 hg2 _
        have ho3 : OwnM w2.heap.size D v4 (((keysS m).take (i + 1)).flatMap (tell m)) := by
          unfold OwnM
          rw [htk, List.length_append, List.map_append, List.flatten_append]
          have e : ([(nm, cv)].map mcs).flatten = mcs (nm, cv) := by simp
          rw [e]
          exact ho2
        have bD := Below.own bC hoC hg2 (Nat.le_refl _) hsC
        obtain ⟨y1, y2, y3, rfl⟩ := own_slice ho3
        (refine Ga ?_)
        refine rndQ_n (α := Nat × Value) (i + 1, .slice y1 y2 y3) ⟨hil, ho3, bD⟩ ⟨rfl, rfl, rfl, rfl, ?_, trivial⟩ (by dsimp only; omega)
        exact congrArg (Value.int .i64) (by dsimp only; omega)
  · obtain rfl : i = m.length := by omega
    rw [List.take_of_length_le (by rw [keysS_len]; exact Nat.le_refl _)] at ho
    (refine Ga ?_)
    (apply retQ1; (focus rfl))
    exact ⟨own_lowM ho b2.size, b2.trans (hbA.mono b2.size)⟩
theorem c_toldN (w : World) : Does Tryz.prog 31 #[.map none] w fun v w' => v = .slice none 0 0 ∧ Below w.heap.size w w' := by
  refine Does_of (args := [.map none]) Tryz.func31 (by kernel_rfl) rfl rfl rfl rfl rfl ?_
  (refine Ga ?_)
  (apply Lst_call; (focus rfl); (focus rfl))
  refine (c_KeysN w).mono ?_
  rintro v w1 ⟨rfl, rfl⟩
  (refine Ga ?_)
  (apply Lst_call; (focus rfl); (focus rfl))
  refine (c_SortedN w).mono ?_
  rintro v w2 ⟨hown, hb2⟩
  obtain ⟨a, c, rfl, _⟩ := own_form hown
  have b2 : Below w.heap.size w w2 := Sx.Below.after (w := w) Bel hb2
  (refine Ga ?_)
  refine W_loop (α := Unit) (fun _ => [(3, .slice none 0 0), (10, .int .i64 0), (11, .int .i64 0)]) (fun _ A => w2 = A) (fun _ _ => 0) () rfl ⟨rfl, rfl, rfl, trivial⟩ ?_
  rintro J _ A rfl
  (refine Ga ?_)
  (apply retQ1; (focus rfl))
  exact ⟨rfl, b2⟩
end Mk
end Go.Proofs.YtmgipnckojopcaaGreat
