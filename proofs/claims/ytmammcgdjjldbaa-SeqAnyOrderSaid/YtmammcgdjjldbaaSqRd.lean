/- The reference: rows of numbers; within, among, walk. -/
import Derived.Laws.OwnMore
import Derived.Test.YtmammcgdjjldbaaSqRc
import Derived.Test.YtmammcgdjjldbaaSxE
namespace Go.Proofs.Ytmammcgdjjldbaa
set_option maxRecDepth 100000
namespace Sq
open Go Go.RowKit Sx Tl
/-- A row of numbers of one's own. -/
def OwnZ (B : Nat) (w : World) (v : Value) (zs : List Int) : Prop := w.ownsRow B 3 1 v zs.length (zs.map (Value.int .i64))
theorem OwnZ.nil (B : Nat) (w : World) : OwnZ B w (.slice none 0 0) [] := ⟨rfl, .inl ⟨rfl, rfl⟩⟩
theorem OwnZ.ints {B : Nat} {w : World} {v : Value} {zs : List Int} (h : OwnZ B w v zs) : Ints w .i64 v zs := Ints.of_own h
section rules
variable {P : Program} {rd : Option Nat} {n : Nat} {ops : Array Oper} {Q : Post} {rest : List Oper} {F : Fr} {ds : List Deferred} {w : World} {ty : TypeId} {pos : String} {after : Array Edge}
theorem Lst_appendZ {d : Nat} {s x : Operand} {t B : Nat} {i : TypeInfo} {z v y : Value} {l k : List Int} (hown : OwnZ B w v l) (hs : ev F s = v) (hx : ev F x = y) (hy : Ints w .i64 y k) (ht : P.underlying t = some (.slice 3)) (hi : P.info? 3 = some i) (hz : i.zero = some z)
    (hsize : i.size = 1) (hby : i.bytes = 8) (hzs : z.cells.size = 1) (hlen : l.length + k.length ≤ 10000000000) (hbase : B ≤ w.heap.size) (hd : Nat.blt d n = true)
    (h : ∀ v' w', OwnZ B w' v' (l ++ k) → w.grownBy w' v.ownBlock → Lst P rd n ops Q rest (upd F d v') ds w') :
    Lst P rd n ops Q (⟨some d, .call { callee := .builtin .append, args := #[s, x], argTypes := #[t, t] }, ty, pos, after, none⟩ :: rest) F ds w := by
  obtain ⟨g, off, cap, h1, h2, h3⟩ := hy
  rcases h1 with rfl | ⟨⟨a0, rfl⟩, hk⟩
  · refine Lst_append (news := k.map (Value.int .i64)) hs hx ht hi hz hsize hby hzs rfl hown ?_ (by rw [List.length_map]; omega) (fun u hu => by obtain ⟨q, _, rfl⟩ := List.mem_map.1 hu; rfl) (by omega) (by omega) hbase hd ?_
    · intro j u hu
      have hj : j < k.length := by
        have := (List.getElem?_eq_some_iff.1 hu).1
        simpa using this
      rw [h3 j hj]
      rw [List.getElem?_map, List.getElem?_eq_getElem hj] at hu
      rw [← Option.some.inj hu]
    · intro v' w' ho hg _
      refine h v' w' ?_ hg
      unfold OwnZ
      rw [List.length_append, List.map_append]
      exact ho
  · obtain rfl : k = [] := hk
    cases a0 with
    | none =>
      have hrun := run_append_owned_none (P := P) (w := w) B t ty _ i 1 ht hi v l.length (l.map (Value.int .i64)) hown
      refine Lst_value (v := v) (w' := w) rfl ?_ hd (h v w (by rw [List.append_nil]; exact hown) ⟨rfl, rfl, rfl, Nat.le_refl _, fun _ _ _ => rfl⟩)
      simp [execOp, resolve, invoke, builtin, hs, hx, hrun]
    | some a0 => exact Lst_append0 hs hx ht hi hz hsize hby hzs rfl hown (by simp at hlen; omega) (by simp at hlen; omega) hbase hd fun v' w' ho hg => h v' w' (by rw [List.append_nil]; exact ho) hg
end rules
theorem OwnZ.up {B : Nat} {w w' : World} {v : Value} {zs : List Int} (h : OwnZ B w v zs) (hb : Below w.heap.size w w') : OwnZ B w' v zs := own_below h hb (Nat.le_refl _)
theorem lit_ints (n : Int) (w : World) : Ints (w.alloc (.cells [.int .i64 n].toArray 3)) .i64 (.slice (some ⟨w.heap.size, 0, none⟩) 1 1) [n] :=
  ⟨w.heap.size, 0, 1, .inl rfl, fun _ => by rw [World.size_alloc]; omega, fun j hj => by
    have hj' : j < 1 := hj
    obtain rfl : j = 0 := by omega
    exact (Blk.new w _ _).cell (0 + 0)⟩
variable {w : World} {p : Nat} {F : Nat → Prop} {N rt ord : List Id} {ρ : Id → Rec}
section
attribute [local irreducible] RnS
attribute [local irreducible] W Lst Qst Pu seqQ blkQ rndQ cutQ retQ Does Enters IntKind.wrap bits sb World.alloc World.putObj Blk
attribute [local irreducible] Rn Tk rnQ
theorem c_within (at' : Nat) (n : Int) (a : Option Addr) (c : Nat) (zs : List Int) (ha : at' ≤ zs.length) (hc : zs.length ≤ c) (hl : zs.length ≤ 1000000000) (w : World) (h : Ints w .i64 (.slice a zs.length c) zs) :
    Does Try.prog 42 #[.slice a zs.length c, .int .i64 (at' : Int), .int .i64 n] w fun v w' => OwnZ w.heap.size w' v (zs.take at' ++ n :: zs.drop at') ∧ Below w.heap.size w w' := by
  refine Does_of (args := [.slice a zs.length c, .int .i64 (at' : Int), .int .i64 n]) Try.func42 (by kernel_rfl) rfl rfl rfl rfl rfl ?_
  have hs1 : Ints w .i64 (sliced a 0 (at' : Int).toNat c 1) (zs.take at') := by
    have := h.sub hc (Nat.zero_le at') ha
    simpa using this
  have hs2 : Ints w .i64 (sliced a (at' : Int).toNat zs.length c 1) (zs.drop at') := by
    have := h.sub hc ha (Nat.le_refl _)
    rw [List.take_length] at this
    simpa using this
  (refine Ga ?_)
  apply Lst_appendZ (hown := OwnZ.nil w.heap.size w) (hy := hs1)
  focus rfl
  focus rfl
  focus rfl
  focus rfl
  focus rfl
  focus rfl
  focus rfl
  focus rfl
  focus (rw [List.length_nil, List.length_take]; omega)
  focus exact Nat.le_refl _
  focus rfl
  intro v1 w1 ho hg
  have hb1 := Below.own (Below.refl w.heap.size w) (OwnZ.nil w.heap.size w) hg (Nat.le_refl _) (Nat.le_refl _)
  rw [List.nil_append] at ho
  obtain ⟨x1, x2, x3, rfl⟩ := own_slice ho
  (refine Ga ?_)
  refine W_drawS 9 (fun _ => True) rfl rfl ?_
  refine S_takeV 0 8 rfl (by kernel_rfl) (by repeat (first | exact retQ_p | apply seqQ_p | apply blkQ_p | apply rndQ_p | apply cutQ_p)) trivial ?_
  (refine Qb ?_)
  refine S_takeV 1 7 rfl (by kernel_rfl) (by repeat (first | exact retQ_p | apply seqQ_p | apply blkQ_p | apply rndQ_p | apply cutQ_p)) trivial ?_
  (refine Qb ?_)
  refine S_takeV 4 6 rfl (by kernel_rfl) (by repeat (first | exact retQ_p | apply seqQ_p | apply blkQ_p | apply rndQ_p | apply cutQ_p)) trivial ?_
  (refine Qb ?_)
  refine S_takeV 5 5 rfl (by kernel_rfl) (by repeat (first | exact retQ_p | apply seqQ_p | apply blkQ_p | apply rndQ_p | apply cutQ_p)) trivial ?_
  (refine Qb ?_)
  refine S_takeV 6 4 rfl (by kernel_rfl) (by repeat (first | exact retQ_p | apply seqQ_p | apply blkQ_p | apply rndQ_p | apply cutQ_p)) trivial ?_
  apply Qst_pu
  · apply P_lslice_lo (n' := zs.length)
    focus rfl
    focus rfl
    focus rfl
    focus rfl
    focus rfl
    focus omega
    focus omega
  focus rfl
  (refine Qb ?_)
  refine S_any [2] 3 rfl (by kernel_rfl) (all1 ?_)
  (apply Lst_lit1; (focus constructor); (focus rfl); (focus rfl); (focus rfl); (focus rfl); (focus rfl); (focus rfl); (focus rfl); (focus rfl); (focus ((try simp only [Sx.sizes]); first | done | rfl)); (focus rfl))
  apply Lst_nil
  apply rnQ_n
  refine ⟨trivial, ?_⟩
  refine S_any [3] 2 rfl (by kernel_rfl) (all1 ?_)
  apply Lst_appendZ (hown := own_alloc (own_drew ho) (.cells [.int .i64 n].toArray 3)) (hy := lit_ints n w1.drew)
  focus rfl
  focus rfl
  focus rfl
  focus rfl
  focus rfl
  focus rfl
  focus rfl
  focus rfl
  focus (rw [List.length_take]; show _ + 1 ≤ _; omega)
  focus (simp only [Sx.sizes]; have := hb1.size; omega)
  focus rfl
  intro v2 w2 ho2 hg2
  have hb2 : Below w.heap.size w w2 := Below.own (Below.alloc (Below.drew hb1) (by simp only [Sx.sizes]; exact hb1.size) _) (own_alloc (own_drew ho) (.cells [.int .i64 n].toArray 3)) hg2 (Nat.le_refl _) (by simp only [Sx.sizes]; have := hb1.size; omega)
  obtain ⟨y1, y2, y3, rfl⟩ := own_slice ho2
  apply Lst_nil
  apply rnQ_n
  refine ⟨trivial, ?_⟩
  refine S_any [7] 1 rfl (by kernel_rfl) (all1 ?_)
  apply Lst_appendZ (hown := ho2) (hy := hs2.below hb2 (Nat.le_refl _))
  focus rfl
  focus rfl
  focus rfl
  focus rfl
  focus rfl
  focus rfl
  focus rfl
  focus rfl
  focus (rw [List.length_append, List.length_take, List.length_drop]; show _ + 1 + _ ≤ _; omega)
  focus exact hb2.size
  focus rfl
  intro v3 w3 ho3 hg3
  have hb3 : Below w.heap.size w w3 := Below.own hb2 ho2 hg3 (Nat.le_refl _) hb2.size
  obtain ⟨z1, z2, z3, rfl⟩ := own_slice ho3
  apply Lst_nil
  apply rnQ_n
  refine ⟨trivial, ?_⟩
  refine S_takeV 8 0 rfl (by kernel_rfl) (by repeat (first | exact retQ_p | apply seqQ_p | apply blkQ_p | apply rndQ_p | apply cutQ_p)) trivial ?_
  (refine Qb ?_)
  refine S_done (by kernel_rfl) ?_
  (refine Ga ?_)
  apply retQ1
  focus rfl
  refine ⟨?_, hb3⟩
  rw [List.append_assoc] at ho3
  exact ho3
theorem OwnZ.base {B B' : Nat} {w : World} {v : Value} {zs : List Int} (h : OwnZ B w v zs) (hB : B' ≤ B) : OwnZ B' w v zs := by
  refine ⟨h.1, ?_⟩
  rcases h.2 with h1 | ⟨g, cap, cur, h1, h2, h3⟩
  · exact .inl h1
  · exact .inr ⟨g, cap, cur, h1, Nat.le_trans hB h2, h3⟩
theorem c_among (m : Id) (L : List Id) (a : Option Addr) (c k : Nat) (hm : m ∈ N) (hL : ∀ j ∈ L, j ∈ N) (hLl : L.length ≤ 1000000000) (hc : L.length ≤ c) (hv : Ints w .i64 (.slice a L.length c) (L.map (ix N)))
    (hkl : k ≤ L.length) (hk1 : ∀ i (hi : i < L.length), i < k → fartherV ord (ρ L[i]).u (ρ m).u = true) (hk2 : ∀ i (hi : i < L.length), i = k → fartherV ord (ρ L[i]).u (ρ m).u = false)
    (hn : N.Nodup) (hu : ∀ j ∈ N, (ρ j).u.id = j) (hlN : N.length ≤ 1000000000) (ho : ∀ j ∈ ord, j ∈ N) (hnd : ord.Nodup) (hlen : ord.length ≤ 1000000000) (h : RfAt w p F N ρ rt ord) :
    Does Try.prog 43 #[.pointer (some ⟨p, 0, none⟩), .slice a L.length c, .int .i64 (ix N m)] w fun v w' => OwnZ w.heap.size w' v ((L.take k ++ m :: L.drop k).map (ix N)) ∧ Below w.heap.size w w' := by
  refine Does_of (args := [.pointer (some ⟨p, 0, none⟩), .slice a L.length c, .int .i64 (ix N m)]) Try.func43 (by kernel_rfl) rfl rfl rfl rfl rfl ?_
  (refine Ga ?_)
  refine W_cutB (α := Unit) (fun _ => [(0, .pointer (some ⟨p, 0, none⟩)), (1, .slice a L.length c), (2, .int .i64 (ix N m)), (7, .int .i64 (k : Int))]) (fun _ A => Grown w A) ?_ ?_
  · refine W_loop (α := Nat) (fun i => [(0, .pointer (some ⟨p, 0, none⟩)), (1, .slice a L.length c), (2, .int .i64 (ix N m)), (7, .int .i64 (i : Int))]) (fun i A => i ≤ k ∧ Grown w A) (fun i _ => k - i) 0 ⟨Nat.zero_le _, Below.refl _ _⟩ ⟨rfl, rfl, rfl, rfl, trivial⟩ ?_
    rintro J i A ⟨hik, hbA⟩
    have hA := h.grown hbA
    by_cases hil : i < L.length
    · obtain ⟨g, off, rfl, hcell⟩ := (hv.below hbA (Nat.le_refl _)).at hil
      rw [ix_map_at hil] at hcell
      have hxN := hL _ (List.getElem_mem hil)
      have h1 := hk1 i hil
      have h2 := hk2 i hil
      generalize L[i] = x at *
      (refine Ga ?_)
      (apply Lst_call; (focus rfl); (focus rfl))
      refine (c_farther x m hxN hm hn hu hlN ho hnd hlen hA).mono ?_
      rintro v w2 ⟨rfl, hb2⟩
      have b2 := hbA.trans (hb2.mono hbA.size)
      by_cases hik' : i = k
      · rw [h2 hik']
        subst hik'
        (refine Ga ?_)
        exact cutQ_n () b2 ⟨rfl, rfl, rfl, rfl, trivial⟩
      · rw [h1 (by omega)]
        (refine Ga ?_)
        exact rndQ_n (α := Nat) (i + 1) ⟨by omega, b2⟩ ⟨rfl, rfl, rfl, rfl, trivial⟩ (by omega)
    · obtain rfl : i = k := by omega
      (refine Ga ?_)
      exact cutQ_n () hbA ⟨rfl, rfl, rfl, rfl, trivial⟩
  · intro J _ A hbA
    have hvA := hv.below hbA (Nat.le_refl _)
    have hml : (L.map (ix N)).length = L.length := List.length_map _
    (refine Ga ?_)
    (apply Lst_call; (focus rfl); (focus rfl))
    have hw := c_within k (ix N m) a c (L.map (ix N)) (by rw [hml]; exact hkl) (by rw [hml]; exact hc) (by rw [hml]; exact hLl) A (by rw [hml]; exact hvA)
    rw [hml] at hw
    refine hw.mono ?_
    rintro v w2 ⟨ho2, hb2⟩
    obtain ⟨z1, z2, z3, rfl⟩ := own_slice ho2
    (refine Ga ?_)
    apply retQ1
    focus rfl
    refine ⟨?_, hbA.trans (hb2.mono hbA.size)⟩
    rw [List.map_append, List.map_cons, List.map_take, List.map_drop]
    exact ho2.base hbA.size
end
end Sq
end Go.Proofs.Ytmammcgdjjldbaa
