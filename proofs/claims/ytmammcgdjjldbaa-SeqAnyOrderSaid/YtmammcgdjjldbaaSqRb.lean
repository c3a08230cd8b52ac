/- What the reference reads: find, place, Find, Len, At. -/
import Derived.Test.YtmammcgdjjldbaaSqRa
namespace Go.Proofs.Ytmammcgdjjldbaa
set_option maxRecDepth 100000
namespace Sq
open Go Go.RowKit Sx Tl
variable {w : World} {p : Nat} {F : Nat → Prop} {N rt ord : List Id} {ρ : Id → Rec}
theorem ix_at {N : List Id} (hn : N.Nodup) {i : Nat} (hi : i < N.length) : ix N N[i] = (i : Int) := by
  unfold ix
  rw [idxOf_at hn hi]
theorem ix_inj {N : List Id} {a b : Id} (ha : a ∈ N) (hb : b ∈ N) (h : ix N a = ix N b) : a = b := by
  unfold ix at h
  have h1 := List.idxOf_lt_length_iff.2 ha
  have h2 := List.idxOf_lt_length_iff.2 hb
  have e1 := List.getElem_idxOf h1
  have e2 := List.getElem_idxOf h2
  have e : N.idxOf a = N.idxOf b := by omega
  rw [← e1, ← e2]
  simp only [e]
theorem ix_map_at {N l : List Id} {i : Nat} (hi : i < l.length) : (l.map (ix N)).getD i 0 = ix N l[i] := by
  rw [List.getD_eq_getElem?_getD, List.getElem?_map, List.getElem?_eq_getElem hi]
  rfl
theorem cells2 {A : World} {g o o' : Nat} {x y : Value} (h0 : A.cell? ⟨g, o, none⟩ = some x) (h1 : A.cell? ⟨g, o + 1, none⟩ = some y) (e : o' = o) : ∀ (j : Nat) (v : Value), [x, y][j]? = some v → A.cell? ⟨g, o' + j, none⟩ = some v := by
  subst e
  intro j v hv
  match j, hv with
  | 0, hv => cases hv; exact h0
  | 1, hv => cases hv; exact h1
theorem rcs_u {N : List Id} {r : Rec} {b : Bool} {sl sr v : Value} {j : Nat} (h : (ucs r.u)[j]? = some v) : (rcs N r b sl sr)[j]? = some v := by
  have hj : j < (ucs r.u).length := (List.getElem?_eq_some_iff.1 h).1
  have e : rcs N r b sl sr = ucs r.u ++ [.int .i64 (px N r.par), .bool b, sl, sr] := rfl
  rw [e, List.getElem?_append_left hj]
  exact h
theorem P_idxn {P : Program} {G : Fr} {ty t e b len c j : Nat} {x y : Operand} {k : IntKind} {i : TypeInfo} {sz : Nat} (hx : ev G x = .slice (some ⟨b, 0, none⟩) len c) (hq : ev G y = .int k (j : Int)) (ht : P.underlying t = some (.slice e)) (hi : P.info? e = some i) (hs : i.size = sz) (h1 : j < len) : Pu P G (.indexAddr t x y) ty (.pointer (some ⟨b, j * sz, none⟩)) := by
  have := P_idx (ty := ty) hx hq ht hi hs (by omega) (by omega)
  simpa using this
attribute [local irreducible] W Lst Qst Pu seqQ blkQ rndQ cutQ retQ Does Enters IntKind.wrap bits sb World.alloc World.putObj Blk
theorem c_rfind (k : Id) (hn : N.Nodup) (hu : ∀ j ∈ N, (ρ j).u.id = j) (hlen : N.length ≤ 1000000000) (h : RfAt w p F N ρ rt ord) : Does Try.prog 38 #[.pointer (some ⟨p, 0, none⟩), idv k] w fun v w' => v = .int .i64 (fx N k) ∧ Below w.heap.size w w' := by
  refine Does_of (args := [.pointer (some ⟨p, 0, none⟩), idv k]) Try.func38 (by kernel_rfl) rfl rfl rfl rfl rfl ?_
  have hbX : Below w.heap.size w (w.alloc (.cells (idcs k).toArray 32)) := Bel
  have kX : Blk (w.alloc (.cells (idcs k).toArray 32)) w.heap.size (idcs k) 32 := (by (repeat (first | assumption | (apply Blk.below (hb := hb1); rotate_left; (focus ((try simp only [Sx.sizes]); omega)); rotate_right) | (apply Blk.below (hb := hb2); rotate_left; (focus ((try simp only [Sx.sizes]); omega)); rotate_right) | (apply Blk.below (hb := hb3); rotate_left; (focus ((try simp only [Sx.sizes]); omega)); rotate_right) | (apply Blk.below (hb := hb4); rotate_left; (focus ((try simp only [Sx.sizes]); omega)); rotate_right) | (apply Blk.below (hb := hb5); rotate_left; (focus ((try simp only [Sx.sizes]); omega)); rotate_right) | (apply Blk.below (hb := hb6); rotate_left; (focus ((try simp only [Sx.sizes]); omega)); rotate_right) | (apply Blk.below (hb := hb7); rotate_left; (focus ((try simp only [Sx.sizes]); omega)); rotate_right) | (apply Blk.below (hb := hb8); rotate_left; (focus ((try simp only [Sx.sizes]); omega)); rotate_right) | (apply Blk.below (hb := hb9); rotate_left; (focus ((try simp only [Sx.sizes]); omega)); rotate_right) | exact Blk.newE (by first | rfl | ((try simp only [Sx.sizes]); first | done | omega)) _ _ | exact Blk.put_same (by (try simp only [Sx.sizes]); first | done | omega) _ _ | (apply Blk.put_ne; (focus omega)) | apply Blk.alloc | apply Blk.drew)); done)
  have hX := h.grown hbX
  unfold idcs at kX
  (refine Ga ?_)
  refine W_loop (α := Nat) (fun i => [(0, .pointer (some ⟨p, 0, none⟩)), (3, .pointer (some ⟨w.heap.size, 0, none⟩)), (5, .int .i64 (i : Int))]) (fun i A => i ≤ N.length ∧ k ∉ N.take i ∧ Grown (w.alloc (.cells (idcs k).toArray 32)) A) (fun i _ => N.length - i) 0 ⟨Nat.zero_le _, by simp, Below.refl _ _⟩ ⟨rfl, rfl, rfl, trivial⟩ ?_
  rintro J i A ⟨hi, hni, hbA⟩
  have hA := hX.grown hbA
  have kA := kX.below hbA kX.lt
  obtain ⟨a, c, a1, c1, a2, c2, hS, hc, _, _, _, hN⟩ := hA.view
  have ltp := hS.lt
  have ltA := kA.lt
  by_cases hil : i < N.length
  · obtain ⟨g, b, b1, d1, b2, d2, rfl, hcell, _⟩ := hN N[i] (List.getElem_mem hil)
    rw [idxOf_at hn hil, show (rcs N (ρ N[i]) b (.slice b1 (ρ N[i]).L.length d1) (.slice b2 (ρ N[i]).R.length d2)) = idcs (ρ N[i]).u.id ++ (rcs N (ρ N[i]) b (.slice b1 (ρ N[i]).L.length d1) (.slice b2 (ρ N[i]).R.length d2)).drop 2 from rfl, hu _ (List.getElem_mem hil)] at hcell
    have hc0 := hcell 0 _ rfl
    have hc1 := hcell 1 _ rfl
    clear hcell hN
    have hk : ∀ A', Grown A A' → ∀ (j : Nat) (v : Value), (idcs N[i])[j]? = some v → A'.cell? ⟨g, i * 10 + j, none⟩ = some v := fun A' hA' => cells2 (cell_below hA' hc0) (cell_below hA' hc1) rfl
    have htake : N.take (i + 1) = N.take i ++ [N[i]] := by rw [List.take_succ_eq_append_getElem hil]
    have hidx := idxOf_at hn hil
    generalize hx : N[i] = x at *
    by_cases hkx : x = k
    · subst hkx
      (refine Ga ?_)
      refine W_draws (Grown _) rfl (by kernel_rfl) (grown_start _) ?_
      (refine Qb ?_)
      apply Qst_pu
      · apply P_idxn (j := i)
        focus rfl
        focus rfl
        focus rfl
        focus rfl
        focus rfl
        focus exact hil
      focus rfl
      (refine Qb ?_)
      apply Qst_loadS (cs := idcs x)
      focus rfl
      focus rfl
      focus rfl
      focus rfl
      focus rfl
      focus exact hk
      focus rfl
      (refine Qb ?_)
      intro w9 hb9
      (refine Ga ?_)
      apply retQ1
      focus rfl
      refine ⟨congrArg (Value.int .i64) ?_, hbX.trans ((hbA.trans (hb9.mono hbA.size)).mono hbX.size)⟩
      unfold fx ix
      rw [if_pos (hx ▸ List.getElem_mem hil), hidx]
    · have hno : Eqv Try.prog 3 32 (idv x) (idv k) false := by
        have := id_eq x k
        rwa [decide_eq_false hkx] at this
      (refine Ga ?_)
      refine W_draws (Grown _) rfl (by kernel_rfl) (grown_start _) ?_
      (refine Qb ?_)
      apply Qst_pu
      · apply P_idxn (j := i)
        focus rfl
        focus rfl
        focus rfl
        focus rfl
        focus rfl
        focus exact hil
      focus rfl
      (refine Qb ?_)
      apply Qst_loadS (cs := idcs x)
      focus rfl
      focus rfl
      focus rfl
      focus rfl
      focus rfl
      focus exact hk
      focus rfl
      (refine Qb ?_)
      apply Qst_pu
      · apply P_eqA
        focus rfl
        focus rfl
        focus kernel_rfl
        focus exact hno
        focus rfl
      focus rfl
      (refine Qb ?_)
      intro w9 hb9
      (refine Ga ?_)
      refine rndQ_n (α := Nat) (i + 1) ⟨hil, ?_, hbA.trans (hb9.mono hbA.size)⟩ ⟨rfl, rfl, rfl, trivial⟩ (by omega)
      rw [htake, List.mem_append, List.mem_singleton]
      exact fun h => h.elim hni fun e => hkx e.symm
  · (refine Ga ?_)
    apply retQ1
    focus rfl
    obtain rfl : i = N.length := by omega
    rw [List.take_length] at hni
    exact ⟨congrArg (Value.int .i64) (if_neg hni).symm, hbX.trans (hbA.mono hbX.size)⟩
theorem c_place (k : Id) (hk : k ∈ N) (ho : ∀ j ∈ ord, j ∈ N) (hnd : ord.Nodup) (hlen : ord.length ≤ 1000000000) (h : RfAt w p F N ρ rt ord) : Does Try.prog 40 #[.pointer (some ⟨p, 0, none⟩), .int .i64 (ix N k)] w fun v w' => v = .int .i64 (findV ord ord k) ∧ w = w' := by
  refine Does_of (args := [.pointer (some ⟨p, 0, none⟩), .int .i64 (ix N k)]) Try.func40 (by kernel_rfl) rfl rfl rfl rfl rfl ?_
  (refine Ga ?_)
  refine W_loop (α := Nat) (fun i => [(0, .pointer (some ⟨p, 0, none⟩)), (1, .int .i64 (ix N k)), (5, .int .i64 (i : Int))]) (fun i A => i ≤ ord.length ∧ k ∉ ord.take i ∧ w = A) (fun i _ => ord.length - i) 0 ⟨Nat.zero_le _, by simp, rfl⟩ ⟨rfl, rfl, rfl, trivial⟩ ?_
  rintro J i A ⟨hi, hni, rfl⟩
  obtain ⟨a, c, a1, c1, a2, c2, hS, hc, _, _, hO, hN⟩ := h.view
  have ltp := hS.lt
  by_cases hil : i < ord.length
  · obtain ⟨g, off, rfl, hcell⟩ := hO.at hil
    rw [ix_map_at hil] at hcell
    have htake : ord.take (i + 1) = ord.take i ++ [ord[i]] := by rw [List.take_succ_eq_append_getElem hil]
    have hidx := idxOf_at hnd hil
    have hxN := ho _ (List.getElem_mem hil)
    generalize hx : ord[i] = x at *
    by_cases hkx : x = k
    · subst hkx
      (refine Ga ?_)
      apply retQ1
      focus rfl
      refine ⟨congrArg (Value.int .i64) ?_, rfl⟩
      unfold findV
      rw [if_pos (hx ▸ List.getElem_mem hil), hidx]
    · have hne : ix N x ≠ ix N k := fun e => hkx (ix_inj hxN hk e)
      (refine Ga ?_)
      refine rndQ_n (α := Nat) (i + 1) ⟨hil, ?_, rfl⟩ ⟨rfl, rfl, rfl, trivial⟩ (by omega)
      rw [htake, List.mem_append, List.mem_singleton]
      exact fun h => h.elim hni fun e => hkx e.symm
  · (refine Ga ?_)
    apply retQ1
    focus rfl
    obtain rfl : i = ord.length := by omega
    rw [List.take_length] at hni
    exact ⟨congrArg (Value.int .i64) (if_neg hni).symm, rfl⟩
theorem c_rFind (k : Id) (hn : N.Nodup) (hu : ∀ j ∈ N, (ρ j).u.id = j) (hlN : N.length ≤ 1000000000) (ho : ∀ j ∈ ord, j ∈ N) (hnd : ord.Nodup) (hlen : ord.length ≤ 1000000000) (h : RfAt w p F N ρ rt ord) : Does Try.prog 58 #[.pointer (some ⟨p, 0, none⟩), idv k] w fun v w' => v = .int .i64 (findV ord ord k) ∧ Below w.heap.size w w' := by
  refine Does_of (args := [.pointer (some ⟨p, 0, none⟩), idv k]) Try.func58 (by kernel_rfl) rfl rfl rfl rfl rfl ?_
  have hbX : Below w.heap.size w (w.alloc (.cells (idcs k).toArray 32)) := Bel
  have kX : Blk (w.alloc (.cells (idcs k).toArray 32)) w.heap.size (idcs k) 32 := (by (repeat (first | assumption | (apply Blk.below (hb := hb1); rotate_left; (focus ((try simp only [Sx.sizes]); omega)); rotate_right) | (apply Blk.below (hb := hb2); rotate_left; (focus ((try simp only [Sx.sizes]); omega)); rotate_right) | (apply Blk.below (hb := hb3); rotate_left; (focus ((try simp only [Sx.sizes]); omega)); rotate_right) | (apply Blk.below (hb := hb4); rotate_left; (focus ((try simp only [Sx.sizes]); omega)); rotate_right) | (apply Blk.below (hb := hb5); rotate_left; (focus ((try simp only [Sx.sizes]); omega)); rotate_right) | (apply Blk.below (hb := hb6); rotate_left; (focus ((try simp only [Sx.sizes]); omega)); rotate_right) | (apply Blk.below (hb := hb7); rotate_left; (focus ((try simp only [Sx.sizes]); omega)); rotate_right) | (apply Blk.below (hb := hb8); rotate_left; (focus ((try simp only [Sx.sizes]); omega)); rotate_right) | (apply Blk.below (hb := hb9); rotate_left; (focus ((try simp only [Sx.sizes]); omega)); rotate_right) | exact Blk.newE (by first | rfl | ((try simp only [Sx.sizes]); first | done | omega)) _ _ | exact Blk.put_same (by (try simp only [Sx.sizes]); first | done | omega) _ _ | (apply Blk.put_ne; (focus omega)) | apply Blk.alloc | apply Blk.drew)); done)
  have hX := h.grown hbX
  unfold idcs at kX
  (refine Ga ?_)
  (apply Lst_call; (focus rfl); (focus rfl))
  refine (c_rfind k hn hu hlN hX).mono ?_
  rintro v w2 ⟨rfl, hb2⟩
  have h2 := hX.grown hb2
  have b2 := hbX.trans (hb2.mono hbX.size)
  by_cases hk : k ∈ N
  · have hf : fx N k = ix N k := if_pos hk
    have h0 : 0 ≤ ix N k := by unfold ix; omega
    rw [hf]
    (refine Ga ?_)
    (apply Lst_call; (focus rfl); (focus rfl))
    refine (c_place k hk ho hnd hlen h2).mono ?_
    rintro v w3 ⟨rfl, rfl⟩
    (refine Ga ?_)
    apply retQ1
    focus rfl
    exact ⟨rfl, b2⟩
  · have hf : fx N k = -1 := if_neg hk
    rw [hf]
    (refine Ga ?_)
    apply retQ1
    focus rfl
    exact ⟨congrArg (Value.int .i64) (if_neg fun hm => hk (ho k hm)).symm, b2⟩
theorem c_rLen (h : RfAt w p F N ρ rt ord) : Does Try.prog 30 #[.pointer (some ⟨p, 0, none⟩)] w fun v w' => v = .int .i64 (ord.length : Int) ∧ w = w' := by
  refine Does_of (args := [.pointer (some ⟨p, 0, none⟩)]) Try.func30 (by kernel_rfl) rfl rfl rfl rfl rfl ?_
  obtain ⟨a, c, a1, c1, a2, c2, hS, hc, _, _, hO, hN⟩ := h.view
  have ltp := hS.lt
  (refine Ga ?_)
  apply retQ1
  focus rfl
  exact ⟨rfl, rfl⟩
theorem c_rAt (i : Int) (ho : ∀ j ∈ ord, j ∈ N) (h : RfAt w p F N ρ rt ord) : Does Try.prog 31 #[.pointer (some ⟨p, 0, none⟩), .int .i64 i] w fun v w' =>
    (v = if 0 ≤ i ∧ i < ord.length then .tuple #[.agg (ucs (ρ (ord.getD i.toNat (0, 0))).u).toArray, .bool true] else .tuple #[.agg (ucs ⟨(0, 0), (0, 0), (0, 0)⟩).toArray, .bool false]) ∧ Below w.heap.size w w' := by
  refine Does_of (args := [.pointer (some ⟨p, 0, none⟩), .int .i64 i]) Try.func31 (by kernel_rfl) rfl rfl rfl rfl rfl ?_
  (refine Ga ?_)
  have hbX : Below w.heap.size w (w.alloc (.cells [.int .u64 0, .int .u64 0, .int .u64 0, .int .u64 0, .int .u64 0, .int .u64 0].toArray 34)) := Bel
  have kX : Blk (w.alloc (.cells [.int .u64 0, .int .u64 0, .int .u64 0, .int .u64 0, .int .u64 0, .int .u64 0].toArray 34)) w.heap.size [.int .u64 0, .int .u64 0, .int .u64 0, .int .u64 0, .int .u64 0, .int .u64 0] 34 := (by (repeat (first | assumption | (apply Blk.below (hb := hb1); rotate_left; (focus ((try simp only [Sx.sizes]); omega)); rotate_right) | (apply Blk.below (hb := hb2); rotate_left; (focus ((try simp only [Sx.sizes]); omega)); rotate_right) | (apply Blk.below (hb := hb3); rotate_left; (focus ((try simp only [Sx.sizes]); omega)); rotate_right) | (apply Blk.below (hb := hb4); rotate_left; (focus ((try simp only [Sx.sizes]); omega)); rotate_right) | (apply Blk.below (hb := hb5); rotate_left; (focus ((try simp only [Sx.sizes]); omega)); rotate_right) | (apply Blk.below (hb := hb6); rotate_left; (focus ((try simp only [Sx.sizes]); omega)); rotate_right) | (apply Blk.below (hb := hb7); rotate_left; (focus ((try simp only [Sx.sizes]); omega)); rotate_right) | (apply Blk.below (hb := hb8); rotate_left; (focus ((try simp only [Sx.sizes]); omega)); rotate_right) | (apply Blk.below (hb := hb9); rotate_left; (focus ((try simp only [Sx.sizes]); omega)); rotate_right) | exact Blk.newE (by first | rfl | ((try simp only [Sx.sizes]); first | done | omega)) _ _ | exact Blk.put_same (by (try simp only [Sx.sizes]); first | done | omega) _ _ | (apply Blk.put_ne; (focus omega)) | apply Blk.alloc | apply Blk.drew)); done)
  have hX := h.grown hbX
  generalize w.alloc (.cells [.int .u64 0, .int .u64 0, .int .u64 0, .int .u64 0, .int .u64 0, .int .u64 0].toArray 34) = X at *
  obtain ⟨a, c, a1, c1, a2, c2, hS, hc, _, _, hO, hN⟩ := hX.view
  have ltp := hS.lt
  have hlx := kX.lt
  have bw : Below w.heap.size w (X.putObj w.heap.size (.cells [.int .u64 0, .int .u64 0, .int .u64 0, .int .u64 0, .int .u64 0, .int .u64 0].toArray 34)) := Bel
  by_cases h0 : i < 0
  · rw [if_neg (by omega)]
    (refine Ga ?_)
    (refine Retat ?_)
    exact ⟨rfl, bw⟩
  · obtain ⟨n, rfl⟩ : ∃ n : Nat, i = n := ⟨i.toNat, by omega⟩
    rw [Int.toNat_natCast]
    by_cases hi : n < ord.length
    · rw [if_pos ⟨by omega, by omega⟩]
      obtain ⟨g2, off, rfl, hco⟩ := hO.at hi
      rw [ix_map_at hi] at hco
      have hxN := ho _ (List.getElem_mem hi)
      have hlt := List.idxOf_lt_length_iff.2 hxN
      rw [List.getD_eq_getElem?_getD, List.getElem?_eq_getElem hi, Option.getD_some]
      obtain ⟨g, b, b1, d1, b2, d2, rfl, hcell, _⟩ := hN _ hxN
      generalize hx : ord[n] = x at *
      have hu : ∀ A', Grown X A' → ∀ (j : Nat) (v : Value), (ucs (ρ x).u)[j]? = some v → A'.cell? ⟨g, N.idxOf x * 10 + j, none⟩ = some v := fun A' hA' j v hv => cell_below hA' (hcell j v (rcs_u hv))
      have hlg := cell_lt (hcell 0 _ rfl)
      (refine Ga ?_)
      refine W_draw 14 (Grown X) rfl (by kernel_rfl) (grown_start X) ?_
      (refine Qb ?_)
      apply Qst_loadc
      focus rfl
      focus rfl
      focus rfl
      focus exact fun A9 hA9 => cell_below hA9 hco
      focus rfl
      (refine Qb ?_)
      apply Qst_pu
      · apply P_idxn (j := N.idxOf x)
        focus rfl
        focus rfl
        focus rfl
        focus rfl
        focus rfl
        focus exact hlt
      focus rfl
      (refine Qb ?_)
      apply Qst_loadS (cs := ucs (ρ x).u)
      focus rfl
      focus rfl
      focus rfl
      focus rfl
      focus rfl
      focus exact hu
      focus rfl
      (refine Qb ?_)
      intro w8 hb8
      have k8 := kX.below hb8 kX.lt
      have l8 := k8.lt
      have b8 := hbX.trans (hb8.mono hbX.size)
      have bu : Below w.heap.size w (w8.putObj w.heap.size (.cells (ucs (ρ x).u).toArray 34)) := Bel
      unfold ucs at *
      (refine Ga ?_)
      (refine Retat ?_)
      exact ⟨rfl, bu⟩
    · rw [if_neg (by omega)]
      (refine Ga ?_)
      (refine Retat ?_)
      exact ⟨rfl, bw⟩
end Sq
end Go.Proofs.Ytmammcgdjjldbaa
