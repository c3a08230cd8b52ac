/- grown: units that may be inserted one after the other. -/
import Derived.Test.YtmammcgdjjldbaaSqRg
import Derived.Test.YtmammcgdjjldbaaSqO
namespace Go.Proofs.Ytmammcgdjjldbaa
set_option maxRecDepth 100000
namespace Sq
open Go Go.RowKit Sx Tl
/-! ### Plain: units put in one after the other -/
namespace Fo
def putL (t : Fo) (us : List Un) : Fo := us.foldl put t
def okL : Fo → List Un → Prop
  | _, [] => True
  | t, u :: us => may t u = true ∧ okL (put t u) us
theorem putL_cons (t : Fo) (u : Un) (us : List Un) : putL t (u :: us) = putL (put t u) us := rfl
theorem putL_snoc (t : Fo) (us : List Un) (u : Un) : putL t (us ++ [u]) = put (putL t us) u := by unfold putL; rw [List.foldl_append]; rfl
theorem okL_snoc : ∀ {us : List Un} {t : Fo} {u : Un}, okL t us → may (putL t us) u = true → okL t (us ++ [u])
  | [], _, _, _, h => ⟨h, trivial⟩
  | _ :: us, _, _, h, k => ⟨h.1, okL_snoc (us := us) h.2 k⟩
theorem Good.putL : ∀ {us : List Un} {t : Fo}, Good t → okL t us → Good (putL t us)
  | [], _, h, _ => h
  | _ :: us, _, h, k => Good.putL (us := us) (h.put (may_iff.1 k.1).toCan) k.2
theorem put_sz {t : Fo} {u : Un} (h : t.ids.Nodup) : (put t u).sz = t.sz + 1 := by
  obtain ⟨A, B, h1, h2⟩ := put_in (u := u) h
  unfold sz
  rw [h1, h2]
  simp only [List.length_append, List.length_cons]
  omega
theorem putL_sz : ∀ {us : List Un} {t : Fo}, Good t → okL t us → (putL t us).sz = t.sz + us.length
  | [], _, _, _ => rfl
  | u :: us, t, h, k => by
    rw [putL_cons, putL_sz (us := us) (h.put (may_iff.1 k.1).toCan) k.2, put_sz h.nd]
    show t.sz + 1 + us.length = t.sz + (us.length + 1)
    omega
theorem putL_ids : ∀ {us : List Un} {t : Fo}, Good t → okL t us → ∀ k, k ∈ (putL t us).ids ↔ k ∈ t.ids ∨ ∃ u ∈ us, u.id = k
  | [], t, _, _, k => ⟨.inl, fun h => h.elim id fun ⟨_, h, _⟩ => by cases h⟩
  | u :: us, t, h, hk, k => by
    rw [putL_cons, putL_ids (us := us) (h.put (may_iff.1 hk.1).toCan) hk.2, put_ids h.nd]
    constructor
    · rintro ((rfl | h) | ⟨v, hv, rfl⟩)
      · exact .inr ⟨u, List.mem_cons_self .., rfl⟩
      · exact .inl h
      · exact .inr ⟨v, List.mem_cons_of_mem _ hv, rfl⟩
    · rintro (h | ⟨v, hv, rfl⟩)
      · exact .inl (.inr h)
      · rcases List.mem_cons.1 hv with rfl | hv
        · exact .inl (.inl rfl)
        · exact .inr ⟨v, hv, rfl⟩
end Fo
/-! ### The reference, kept -/
variable {w w' : World} {p : Nat} {F F' G G' : Nat → Prop} {t : Fo}
theorem RefAt.kept (h : RefAt w p F t) (hs : w.heap.size ≤ w'.heap.size) (hb : ∀ g, F g → w'.heap[g]? = w.heap[g]?) : RefAt w' p F t := by
  obtain ⟨N, ρ, h1, h2⟩ := h
  exact ⟨N, ρ, h1.kept hs hb, h2⟩
theorem RefAt.lt (h : RefAt w p F t) {g : Nat} (hg : F g) : g < w.heap.size := by
  obtain ⟨N, ρ, h1, h2⟩ := h
  exact h1.lt g hg
theorem RefAt.good (h : RefAt w p F t) : Fo.Good t := by
  obtain ⟨N, ρ, h1, h2, h3, _⟩ := h
  exact h3
theorem RefAt.below (h : RefAt w p F t) (hb : Below w.heap.size w w') : RefAt w' p F t := h.kept hb.size fun _ hg => hb.block _ (h.lt hg)
theorem RefAt.other (h : RefAt w p F t) (hT : Turn G G' w w') (hd : ∀ g, F g → ¬ G g) : RefAt w' p F t := h.kept hT.size fun g hg => hT.block g (h.lt hg) (hd g hg)
theorem RefAt.put (h : RefAt w p F t) {b : Nat} (hb : ¬ F b) (o : Obj) : RefAt (w.putObj b o) p F t :=
  h.kept (by rw [World.putObj_size]; exact Nat.le_refl _) fun g hg => World.putObj_heap_other fun e => hb (e ▸ hg)
theorem r_Len (h : RefAt w p F t) : Does Try.prog 30 #[.pointer (some ⟨p, 0, none⟩)] w fun v w' => v = .int .i64 (t.sz : Int) ∧ w = w' := by
  obtain ⟨N, ρ, h1, h2⟩ := h
  have := c_rLen h1
  rwa [Fo.ids_len] at this
theorem r_At (i : Int) (h : RefAt w p F t) : Does Try.prog 31 #[.pointer (some ⟨p, 0, none⟩), .int .i64 i] w fun v w' =>
    (v = if 0 ≤ i ∧ i < t.sz then .tuple #[.agg (ucs (t.flat.getD i.toNat default)).toArray, .bool true] else .tuple #[.agg (ucs ⟨(0, 0), (0, 0), (0, 0)⟩).toArray, .bool false]) ∧ Below w.heap.size w w' := by
  obtain ⟨N, ρ, h1, h2, h3, h4, h5⟩ := h
  refine (c_rAt i (fun j hj => (h5 j).2 hj) h1).mono ?_
  rintro v w' ⟨rfl, hb⟩
  refine ⟨?_, hb⟩
  rw [Fo.ids_len]
  by_cases hi : 0 ≤ i ∧ i < t.sz
  · rw [if_pos hi, if_pos hi, fits_ord h2 _ (by omega)]
  · rw [if_neg hi, if_neg hi]
theorem RefAt.new {w : World} {b : Nat} (h : Blk w b [.slice none 0 0, .slice none 0 0, .slice none 0 0] 59) : RefAt w b (fun g => g = b) .nil := by
  refine ⟨[], fun _ => ⟨default, none, [], [], 0⟩, ⟨fun g hg => by rw [hg]; exact h.lt, rfl, .slice none 0 0, .slice none 0 0, .slice none 0 0, [], h, ⟨rfl, .inl ⟨rfl, rfl⟩⟩, ?_, rfl, ?_, Lz.nil _ _ _, Lz.nil _ _ _, ?_⟩, trivial, Fo.Good.nil, List.nodup_nil, fun k => Iff.rfl⟩
  · intro g hg
    cases hg
  · intro l hl
    cases hl
  · intro k hk
    cases hk
/-! ### A row of units of one's own -/
def OwnU (B : Nat) (w : World) (v : Value) (us : List Un) : Prop := w.ownsRow B 34 6 v us.length (us.map ucs).flatten
theorem OwnU.nil (B : Nat) (w : World) : OwnU B w (.slice none 0 0) [] := ⟨rfl, .inl ⟨rfl, rfl⟩⟩
theorem OwnU.rows {B : Nat} {w : World} {v : Value} {us : List Un} (h : OwnU B w v us) : SRows w 6 v (us.map ucs) := by
  have h' : w.ownsRow B 34 6 v (us.map ucs).length (us.map ucs).flatten := by rw [List.length_map]; exact h
  exact SRows.of_own h' (fun l hl => by obtain ⟨u, _, rfl⟩ := List.mem_map.1 hl; rfl) (by decide)
/-- What grown's units are like. -/
def Small (u : Un) : Prop := 1 ≤ u.id.1 ∧ u.id.1 ≤ 4 ∧ 1 ≤ u.id.2 ∧ u.id.2 ≤ 100
def nexts (q : List Nat) : List Value := q.map fun (n : Nat) => .int .u64 (n : Int)
structure GI (w A : World) (r b : Nat) (v : Value) (us : List Un) (q : List Nat) (F : Nat → Prop) : Prop where
  ref : RefAt A r F (Fo.putL .nil us)
  nx : Blk A b (nexts q) 66
  out : OwnU w.heap.size A v us
  low : ∀ g, F g → w.heap.size ≤ g
  nb : ¬ F b
  nv : ∀ g, v.ownBlock = some g → ¬ F g ∧ g ≠ b
  bl : w.heap.size ≤ b
  bel : Below w.heap.size w A
  ql : q.length = 4
  ok : Fo.okL .nil us
  sm : ∀ u ∈ us, Small u
theorem P_buildArr {P : Program} {F : Fr} {t e n sz ty : Nat} {ps : List (Nat × Operand)} {it ie : TypeInfo} {z : Value} {zl cs : List Value} (ht : P.underlying t = some (.array n e)) (hi : P.info? t = some it) (hz : it.zero = some z) (hzc : z.cells = zl.toArray) (hie : P.info? e = some ie) (hs : ie.size = sz) (hf : FillO F (fun j => some (j * sz, sz)) zl ps cs) : Pu P F (.build t ps.toArray) ty (.agg cs.toArray) := fun dst pos after w => by
  have hb : P.built t ((ps.toArray.map fun p => (p.1, ev F p.2))).toList = some cs.toArray := by
    unfold Program.built
    simp only [hi, ht, hz, hie, hzc, hs]
    have := hf.fillR.eq
    simpa using this
  have := run_build (P := P) w t (ps.toArray.map fun p => (p.1, ev F p.2)) cs.toArray hb
  simp only [execOp, Sem.run_bind]
  rw [show (ps.toArray.map fun (x : Nat × Operand) => match x with | (i, x) => (i, ev F x)) = ps.toArray.map fun p => (p.1, ev F p.2) from rfl, this]
  rfl
theorem GI.grown {w A A' : World} {r b : Nat} {v : Value} {us : List Un} {q : List Nat} {F : Nat → Prop} (h : GI w A r b v us q F) (hb : Below A.heap.size A A') : GI w A' r b v us q F :=
  ⟨h.ref.below hb, h.nx.below hb h.nx.lt, own_below h.out hb (Nat.le_refl _), h.low, h.nb, h.nv, h.bl, h.bel.trans (hb.mono h.bel.size), h.ql, h.ok, h.sm⟩
theorem Blk.grown {w w' : World} {b : Nat} {l : List Value} {e : TypeId} {row : Option Nat} (h : Blk w b l e) (hg : w.grownBy w' row) (hne : some b ≠ row) : Blk w' b l e := (hg.block b h.lt hne).trans h
attribute [local irreducible] W Lst Qst Pu seqQ blkQ rndQ cutQ retQ Does Enters IntKind.wrap bits sb World.alloc World.putObj Blk
theorem c_grown (zs : List Int) (a : Option Addr) (c : Nat) (hz : ∀ z ∈ zs, 0 ≤ z ∧ z < 65536) (hl : zs.length ≤ 60) (w : World) (h : Ints w .u16 (.slice a zs.length c) zs) :
    Does Try.prog 13 #[.slice a zs.length c] w fun v w' => ∃ us, OwnU w.heap.size w' v us ∧ us.length ≤ zs.length ∧ Fo.okL .nil us ∧ (∀ u ∈ us, Small u) ∧ Below w.heap.size w w' := by
  refine Does_of (args := [.slice a zs.length c]) Try.func13 (by kernel_rfl) rfl rfl rfl rfl rfl ?_
  (refine Ga ?_)
  apply Lst_pu
  · apply P_buildArr (ps := [(0, .const (.int .u64 1)), (1, .const (.int .u64 1)), (2, .const (.int .u64 1)), (3, .const (.int .u64 1))])
    focus rfl
    focus rfl
    focus rfl
    focus rfl
    focus rfl
    focus rfl
    focus (repeat (first | apply FillO.nil | (apply FillO.cons; (focus constructor); (focus rfl); (focus rfl); (focus (repeat constructor)))))
  focus rfl
  (refine Ga ?_)
  obtain ⟨A0, hA0⟩ : ∃ A0, ((w.alloc (.cells [.slice none 0 0, .slice none 0 0, .slice none 0 0].toArray 59)).alloc (.cells [.int .u64 0, .int .u64 0, .int .u64 0, .int .u64 0].toArray 66)).putObj (w.heap.size + 1) (.cells [.int .u64 1, .int .u64 1, .int .u64 1, .int .u64 1].toArray 66) = A0 := ⟨_, rfl⟩
  have hb0 : Below w.heap.size w A0 := by rw [← hA0]; exact Bel
  have k0 : Blk A0 w.heap.size [.slice none 0 0, .slice none 0 0, .slice none 0 0] 59 := by rw [← hA0]; exact (by (repeat (first | assumption | (apply Blk.below (hb := hb1); rotate_left; (focus ((try simp only [Sx.sizes]); omega)); rotate_right) | (apply Blk.below (hb := hb2); rotate_left; (focus ((try simp only [Sx.sizes]); omega)); rotate_right) | (apply Blk.below (hb := hb3); rotate_left; (focus ((try simp only [Sx.sizes]); omega)); rotate_right) | (apply Blk.below (hb := hb4); rotate_left; (focus ((try simp only [Sx.sizes]); omega)); rotate_right) | (apply Blk.below (hb := hb5); rotate_left; (focus ((try simp only [Sx.sizes]); omega)); rotate_right) | (apply Blk.below (hb := hb6); rotate_left; (focus ((try simp only [Sx.sizes]); omega)); rotate_right) | (apply Blk.below (hb := hb7); rotate_left; (focus ((try simp only [Sx.sizes]); omega)); rotate_right) | (apply Blk.below (hb := hb8); rotate_left; (focus ((try simp only [Sx.sizes]); omega)); rotate_right) | (apply Blk.below (hb := hb9); rotate_left; (focus ((try simp only [Sx.sizes]); omega)); rotate_right) | exact Blk.newE (by first | rfl | ((try simp only [Sx.sizes]); first | done | omega)) _ _ | exact Blk.put_same (by (try simp only [Sx.sizes]); first | done | omega) _ _ | (apply Blk.put_ne; (focus omega)) | apply Blk.alloc | apply Blk.drew)); done)
  have n0 : Blk A0 (w.heap.size + 1) [.int .u64 1, .int .u64 1, .int .u64 1, .int .u64 1] 66 := by rw [← hA0]; exact (by (repeat (first | assumption | (apply Blk.below (hb := hb1); rotate_left; (focus ((try simp only [Sx.sizes]); omega)); rotate_right) | (apply Blk.below (hb := hb2); rotate_left; (focus ((try simp only [Sx.sizes]); omega)); rotate_right) | (apply Blk.below (hb := hb3); rotate_left; (focus ((try simp only [Sx.sizes]); omega)); rotate_right) | (apply Blk.below (hb := hb4); rotate_left; (focus ((try simp only [Sx.sizes]); omega)); rotate_right) | (apply Blk.below (hb := hb5); rotate_left; (focus ((try simp only [Sx.sizes]); omega)); rotate_right) | (apply Blk.below (hb := hb6); rotate_left; (focus ((try simp only [Sx.sizes]); omega)); rotate_right) | (apply Blk.below (hb := hb7); rotate_left; (focus ((try simp only [Sx.sizes]); omega)); rotate_right) | (apply Blk.below (hb := hb8); rotate_left; (focus ((try simp only [Sx.sizes]); omega)); rotate_right) | (apply Blk.below (hb := hb9); rotate_left; (focus ((try simp only [Sx.sizes]); omega)); rotate_right) | exact Blk.newE (by first | rfl | ((try simp only [Sx.sizes]); first | done | omega)) _ _ | exact Blk.put_same (by (try simp only [Sx.sizes]); first | done | omega) _ _ | (apply Blk.put_ne; (focus omega)) | apply Blk.alloc | apply Blk.drew)); done)
  rw [hA0]
  clear hA0
  have g0 : GI w A0 w.heap.size (w.heap.size + 1) (.slice none 0 0) [] [1, 1, 1, 1] (fun g => g = w.heap.size) := by
    refine ⟨RefAt.new k0, n0, OwnU.nil _ _, ?_, ?_, ?_, by omega, hb0, rfl, trivial, ?_⟩
    · intro g hg
      omega
    · omega
    · intro g hg
      cases hg
    · intro u hu
      cases hu
  refine W_loop (α := Nat × Value × List Un × List Nat × (Nat → Prop)) (fun x => [(0, .slice a zs.length c), (3, x.2.1), (4, .pointer (some ⟨w.heap.size, 0, none⟩)), (5, .pointer (some ⟨w.heap.size + 1, 0, none⟩)), (6, .int .i64 (x.1 : Int))])
    (fun x A => x.1 ≤ zs.length ∧ x.2.2.1.length ≤ x.1 ∧ (∀ n ∈ x.2.2.2.1, 1 ≤ n ∧ n ≤ x.1 + 1) ∧ GI w A w.heap.size (w.heap.size + 1) x.2.1 x.2.2.1 x.2.2.2.1 x.2.2.2.2) (fun x _ => zs.length - x.1) (0, .slice none 0 0, [], [1, 1, 1, 1], fun g => g = w.heap.size)
    ⟨Nat.zero_le _, Nat.le_refl _, fun n hn => ?_, g0⟩ ⟨rfl, rfl, rfl, rfl, rfl, trivial⟩ ?_
  · simp only [List.mem_cons, List.not_mem_nil, or_false, or_self] at hn
    omega
  clear hb0 k0 n0 g0
  rintro J ⟨i, v, us, q, F⟩ A ⟨hi, hus, hq, hG⟩
  dsimp only at hi hus hq hG ⊢
  obtain ⟨v1, v2, v3, rfl⟩ := own_slice hG.out
  by_cases hil : i < zs.length
  · have hzA := h.below hG.bel (Nat.le_refl _)
    obtain ⟨g, off, rfl, hci⟩ := hzA.at hil
    have hzi := hz _ (List.getElem_mem hil)
    rw [List.getD_eq_getElem?_getD, List.getElem?_eq_getElem hil, Option.getD_some] at hci
    obtain ⟨n, hn⟩ : ∃ n : Nat, zs[i] = (n : Int) := ⟨zs[i].toNat, by omega⟩
    rw [hn] at hci hzi
    have hm4 : (n : Int).tmod 4 = ((n % 4 : Nat) : Int) := (Int.ofNat_tmod n 4).symm
    have hw1 : IntKind.u64.wrap ((n : Int).tmod 4) = ((n % 4 : Nat) : Int) := by rw [hm4]; exact wu64 (by omega) (by omega)
    have hd : ∀ d : Nat, IntKind.i64.wrap (IntKind.u16.wrap ((n : Int).tdiv (d : Int))) = ((n / d : Nat) : Int) := fun d => by
      have h1 : n / d ≤ n := Nat.div_le_self n d
      rw [← Int.ofNat_tdiv]
      generalize n / d = e at *
      rw [wu16 (by omega) (by omega), wi64 (by omega) (by omega)]
    have hw2 : IntKind.i64.wrap (IntKind.u16.wrap ((n : Int).tdiv 4)) = ((n / 4 : Nat) : Int) := hd 4
    have hw3 : IntKind.i64.wrap (IntKind.u16.wrap ((n : Int).tdiv 256)) = ((n / 256 : Nat) : Int) := hd 256
    have hc4 : n % 4 < 4 := Nat.mod_lt _ (by omega)
    generalize n % 4 = cc at *
    have hnx := hG.nx
    have hnxl := hnx.lt
    (refine Ga ?_)
    have hccq : cc < q.length := by have := hG.ql; omega
    obtain ⟨m, hm⟩ : ∃ m, q[cc] = m := ⟨_, rfl⟩
    have hmq : 1 ≤ m ∧ m ≤ i + 1 := hq m (hm ▸ List.getElem_mem hccq)
    have hnv : (nexts q)[0 + ((cc : Int)).toNat]? = some (.int .u64 (m : Int)) := by
      unfold nexts
      rw [show 0 + ((cc : Int)).toNat = cc by omega, List.getElem?_map, List.getElem?_eq_getElem hccq, hm]
      rfl
    apply Lst_load (hb := hnx) (v := .int .u64 (m : Int))
    focus rfl
    focus rfl
    focus rfl
    focus exact hnv
    focus rfl
    (refine Ga ?_)
    (apply Lst_call; (focus rfl); (focus rfl))
    refine (c_id (cc + 1) m A).mono ?_
    rintro v' A1 ⟨rfl, hb1⟩
    unfold idv idcs
    obtain ⟨W1, hW1⟩ : ∃ W1, (A1.alloc (.cells [.int .u64 0, .int .u64 0, .int .u64 0, .int .u64 0, .int .u64 0, .int .u64 0].toArray 34)).putObj A1.heap.size (.cells [.int .u64 (((cc + 1 : Nat) : Int)), .int .u64 (m : Int), .int .u64 (0), .int .u64 (0), .int .u64 (0), .int .u64 (0)].toArray 34) = W1 := ⟨_, rfl⟩
    have bW1 : Below A.heap.size A W1 := by rw [← hW1]; have := hb1.size; exact Bel
    have kW1 : Blk W1 A1.heap.size [.int .u64 (((cc + 1 : Nat) : Int)), .int .u64 (m : Int), .int .u64 (0), .int .u64 (0), .int .u64 (0), .int .u64 (0)] 34 := by rw [← hW1]; exact (by (repeat (first | assumption | (apply Blk.below (hb := hb1); rotate_left; (focus ((try simp only [Sx.sizes]); omega)); rotate_right) | (apply Blk.below (hb := hb2); rotate_left; (focus ((try simp only [Sx.sizes]); omega)); rotate_right) | (apply Blk.below (hb := hb3); rotate_left; (focus ((try simp only [Sx.sizes]); omega)); rotate_right) | (apply Blk.below (hb := hb4); rotate_left; (focus ((try simp only [Sx.sizes]); omega)); rotate_right) | (apply Blk.below (hb := hb5); rotate_left; (focus ((try simp only [Sx.sizes]); omega)); rotate_right) | (apply Blk.below (hb := hb6); rotate_left; (focus ((try simp only [Sx.sizes]); omega)); rotate_right) | (apply Blk.below (hb := hb7); rotate_left; (focus ((try simp only [Sx.sizes]); omega)); rotate_right) | (apply Blk.below (hb := hb8); rotate_left; (focus ((try simp only [Sx.sizes]); omega)); rotate_right) | (apply Blk.below (hb := hb9); rotate_left; (focus ((try simp only [Sx.sizes]); omega)); rotate_right) | exact Blk.newE (by first | rfl | ((try simp only [Sx.sizes]); first | done | omega)) _ _ | exact Blk.put_same (by (try simp only [Sx.sizes]); first | done | omega) _ _ | (apply Blk.put_ne; (focus omega)) | apply Blk.alloc | apply Blk.drew)); done)
    have sA1 := hb1.size
    (refine Ga ?_)
    rw [hW1]
    clear hW1
    have hW1G := hG.grown bW1
    have hzW := h.below hW1G.bel (Nat.le_refl _)
    have hsz : (Fo.putL .nil us).sz ≤ 60 := by
      have := Fo.putL_sz Fo.Good.nil hG.ok
      have h0 : Fo.nil.sz = 0 := rfl
      omega
    obtain ⟨tt, htt⟩ : ∃ tt, Fo.putL .nil us = tt := ⟨_, rfl⟩
    rw [htt] at hsz
    have hrefW : RefAt W1 w.heap.size F tt := htt ▸ hW1G.ref
    obtain ⟨at', hat⟩ : ∃ at', n / 4 % (tt.sz + 1) = at' := ⟨_, rfl⟩
    have hatm : ((n / 4 : Nat) : Int).tmod ((tt.sz : Int) + 1) = (at' : Int) := by
      have := Int.ofNat_tmod (n / 4) (tt.sz + 1)
      rw [hat] at this
      exact this.symm
    have hatl : at' ≤ tt.sz := by have := Nat.mod_lt (n / 4) (show 0 < tt.sz + 1 by omega); omega
    refine W_draws (Grown _) rfl (by kernel_rfl) (grown_start _) ?_
    (refine Qb ?_)
    apply Qst_loadc
    focus rfl
    focus rfl
    focus rfl
    focus exact fun A9 hA9 => cell_below (bW1.trans (hA9.mono bW1.size)) hci
    focus rfl
    apply Qst_pu
    · apply P_quo
      focus rfl
      focus rfl
      focus decide
      focus rfl
    focus rfl
    apply Qst_pu
    · apply P_conv
      focus rfl
      focus rfl
      focus rfl
      focus exact hw2
    focus rfl
    (refine Qb ?_)
    apply Qst_call (.int .i64 (tt.sz : Int))
    focus rfl
    focus rfl
    focus exact fun A9 hb9 => (r_Len (hrefW.below hb9)).mono fun v w' h => ⟨h.1, h.2 ▸ hb9⟩
    (refine Qb ?_)
    apply Qst_pu
    · apply P_rem
      focus rfl
      focus rfl
      focus omega
      focus exact hatm
    focus rfl
    (refine Qb ?_)
    intro W2 hb2
    have bW2 := bW1.trans (hb2.mono bW1.size)
    have hci2 := cell_below bW2 hci
    have kW2 := kW1.below hb2 kW1.lt
    have lW2 := kW2.lt
    have hfm : ((n / 256 : Nat) : Int).tmod 5 = ((n / 256 % 5 : Nat) : Int) := (Int.ofNat_tmod (n / 256) 5).symm
    have hfl : n / 256 % 5 < 5 := Nat.mod_lt _ (by omega)
    obtain ⟨far, hfar⟩ : ∃ far, n / 256 % 5 = far := ⟨_, rfl⟩
    rw [hfar] at hfm hfl
    clear hzW hrefW hW1G hnx hnxl
    apply seqQ_n
    apply W_seq
    refine W_cut2 (α := Id) (fun _ => [(0, .slice (some ⟨g, off, none⟩) zs.length c), (3, .slice v1 v2 v3), (4, .pointer (some ⟨w.heap.size, 0, none⟩)), (5, .pointer (some ⟨w.heap.size + 1, 0, none⟩)), (6, .int .i64 (i : Int)), (7, .int .u64 (cc : Int)), (8, .pointer (some ⟨A1.heap.size, 0, none⟩)), (9, .int .i64 (at' : Int)), (10, .int .i64 (far : Int))]) (fun l Z => Below A.heap.size A Z ∧ Blk Z A1.heap.size [.int .u64 (((cc + 1 : Nat) : Int)), .int .u64 (m : Int), .int .u64 (l.1 : Int), .int .u64 (l.2 : Int), .int .u64 ((0, 0).1 : Int), .int .u64 ((0, 0).2 : Int)] 34) ?_ ?_
    · have hrefA : RefAt W2 w.heap.size F tt := htt ▸ (hG.grown bW2).ref
      by_cases h0 : at' = 0
      · (refine Ga ?_)
        exact cutQ_n (0, 0) ⟨bW2, kW2⟩ ⟨rfl, rfl, rfl, rfl, rfl, rfl, rfl, rfl, congrArg (Value.int .i64) hfm, trivial⟩
      · (refine Ga ?_)
        (apply Lst_call; (focus rfl); (focus rfl))
        refine (r_At ((at' : Int) - 1) hrefA).mono ?_
        rintro v' B ⟨rfl, hbB⟩
        rw [if_pos (by omega)]
        generalize tt.flat.getD ((at' : Int) - 1).toNat default = x
        have kB := kW2.below hbB lW2
        have bB := bW2.trans (hbB.mono bW2.size)
        have lB := kB.lt
        have sB := hbB.size
        unfold ucs
        (refine Ga ?_)
        refine cutQ_n x.id ⟨Bel, (by (repeat (first | assumption | (apply Blk.below (hb := hb1); rotate_left; (focus ((try simp only [Sx.sizes]); omega)); rotate_right) | (apply Blk.below (hb := hb2); rotate_left; (focus ((try simp only [Sx.sizes]); omega)); rotate_right) | (apply Blk.below (hb := hb3); rotate_left; (focus ((try simp only [Sx.sizes]); omega)); rotate_right) | (apply Blk.below (hb := hb4); rotate_left; (focus ((try simp only [Sx.sizes]); omega)); rotate_right) | (apply Blk.below (hb := hb5); rotate_left; (focus ((try simp only [Sx.sizes]); omega)); rotate_right) | (apply Blk.below (hb := hb6); rotate_left; (focus ((try simp only [Sx.sizes]); omega)); rotate_right) | (apply Blk.below (hb := hb7); rotate_left; (focus ((try simp only [Sx.sizes]); omega)); rotate_right) | (apply Blk.below (hb := hb8); rotate_left; (focus ((try simp only [Sx.sizes]); omega)); rotate_right) | (apply Blk.below (hb := hb9); rotate_left; (focus ((try simp only [Sx.sizes]); omega)); rotate_right) | exact Blk.newE (by first | rfl | ((try simp only [Sx.sizes]); first | done | omega)) _ _ | exact Blk.put_same (by (try simp only [Sx.sizes]); first | done | omega) _ _ | (apply Blk.put_ne; (focus omega)) | apply Blk.alloc | apply Blk.drew)); done)⟩ ⟨rfl, rfl, rfl, rfl, rfl, rfl, rfl, rfl, congrArg (Value.int .i64) hfm, trivial⟩
    · rintro J l Z ⟨bZ, kZ⟩
      apply W_seq
      refine W_cutS (α := Id) (fun _ => [(0, .slice (some ⟨g, off, none⟩) zs.length c), (3, .slice v1 v2 v3), (4, .pointer (some ⟨w.heap.size, 0, none⟩)), (5, .pointer (some ⟨w.heap.size + 1, 0, none⟩)), (6, .int .i64 (i : Int)), (7, .int .u64 (cc : Int)), (8, .pointer (some ⟨A1.heap.size, 0, none⟩))]) (fun r Z' => Below A.heap.size A Z' ∧ Blk Z' A1.heap.size [.int .u64 (((cc + 1 : Nat) : Int)), .int .u64 (m : Int), .int .u64 (l.1 : Int), .int .u64 (l.2 : Int), .int .u64 (r.1 : Int), .int .u64 (r.2 : Int)] 34) ?_ ?_
      · have hrefA : RefAt Z w.heap.size F tt := htt ▸ (hG.grown bZ).ref
        have lZ := kZ.lt
        (refine Ga ?_)
        (apply Lst_call; (focus rfl); (focus rfl))
        refine (r_At ((at' : Int) + (far : Int)) hrefA).mono ?_
        rintro v' B ⟨rfl, hbB⟩
        have kB := kZ.below hbB lZ
        have bB := bZ.trans (hbB.mono bZ.size)
        have lB := kB.lt
        have sB := hbB.size
        by_cases hin : 0 ≤ (at' : Int) + (far : Int) ∧ (at' : Int) + (far : Int) < tt.sz
        · rw [if_pos hin]
          generalize tt.flat.getD ((at' : Int) + (far : Int)).toNat default = x
          unfold ucs
          (refine Ga ?_)
          refine cutQ_n x.id ⟨Bel, (by (repeat (first | assumption | (apply Blk.below (hb := hb1); rotate_left; (focus ((try simp only [Sx.sizes]); omega)); rotate_right) | (apply Blk.below (hb := hb2); rotate_left; (focus ((try simp only [Sx.sizes]); omega)); rotate_right) | (apply Blk.below (hb := hb3); rotate_left; (focus ((try simp only [Sx.sizes]); omega)); rotate_right) | (apply Blk.below (hb := hb4); rotate_left; (focus ((try simp only [Sx.sizes]); omega)); rotate_right) | (apply Blk.below (hb := hb5); rotate_left; (focus ((try simp only [Sx.sizes]); omega)); rotate_right) | (apply Blk.below (hb := hb6); rotate_left; (focus ((try simp only [Sx.sizes]); omega)); rotate_right) | (apply Blk.below (hb := hb7); rotate_left; (focus ((try simp only [Sx.sizes]); omega)); rotate_right) | (apply Blk.below (hb := hb8); rotate_left; (focus ((try simp only [Sx.sizes]); omega)); rotate_right) | (apply Blk.below (hb := hb9); rotate_left; (focus ((try simp only [Sx.sizes]); omega)); rotate_right) | exact Blk.newE (by first | rfl | ((try simp only [Sx.sizes]); first | done | omega)) _ _ | exact Blk.put_same (by (try simp only [Sx.sizes]); first | done | omega) _ _ | (apply Blk.put_ne; (focus omega)) | apply Blk.alloc | apply Blk.drew)); done)⟩ ⟨rfl, rfl, rfl, rfl, rfl, rfl, rfl, trivial⟩
        · rw [if_neg hin]
          unfold ucs
          (refine Ga ?_)
          refine cutQ_n (0, 0) ⟨Bel, (by (repeat (first | assumption | (apply Blk.below (hb := hb1); rotate_left; (focus ((try simp only [Sx.sizes]); omega)); rotate_right) | (apply Blk.below (hb := hb2); rotate_left; (focus ((try simp only [Sx.sizes]); omega)); rotate_right) | (apply Blk.below (hb := hb3); rotate_left; (focus ((try simp only [Sx.sizes]); omega)); rotate_right) | (apply Blk.below (hb := hb4); rotate_left; (focus ((try simp only [Sx.sizes]); omega)); rotate_right) | (apply Blk.below (hb := hb5); rotate_left; (focus ((try simp only [Sx.sizes]); omega)); rotate_right) | (apply Blk.below (hb := hb6); rotate_left; (focus ((try simp only [Sx.sizes]); omega)); rotate_right) | (apply Blk.below (hb := hb7); rotate_left; (focus ((try simp only [Sx.sizes]); omega)); rotate_right) | (apply Blk.below (hb := hb8); rotate_left; (focus ((try simp only [Sx.sizes]); omega)); rotate_right) | (apply Blk.below (hb := hb9); rotate_left; (focus ((try simp only [Sx.sizes]); omega)); rotate_right) | exact Blk.newE (by first | rfl | ((try simp only [Sx.sizes]); first | done | omega)) _ _ | exact Blk.put_same (by (try simp only [Sx.sizes]); first | done | omega) _ _ | (apply Blk.put_ne; (focus omega)) | apply Blk.alloc | apply Blk.drew)); done)⟩ ⟨rfl, rfl, rfl, rfl, rfl, rfl, rfl, trivial⟩
      · clear kZ bZ
        rintro J r Z ⟨bZ, kZ⟩
        have hGZ := hG.grown bZ
        have lZ := kZ.lt
        obtain ⟨u, hue⟩ : ∃ u : Un, u = ⟨(cc + 1, m), l, r⟩ := ⟨_, rfl⟩
        have kZ : Blk Z A1.heap.size (ucs u) 34 := by rw [hue]; exact kZ
        have hn8 : ¬ F A1.heap.size := fun hf => by have := hG.ref.lt hf; omega
        have hrefZ : RefAt Z w.heap.size F tt := htt ▸ hGZ.ref
        have kZ' := kZ
        unfold ucs at kZ'
        (refine Ga ?_)
        (apply Lst_call; (focus rfl); (focus rfl))
        refine (c_rInsert u tt (by omega) hrefZ).mono ?_
        rintro v' D ⟨rfl, F', hrefD, hT⟩
        have hlow := hT.low hGZ.low hGZ.bel.size
        have kD := hT.blk kZ hn8
        have nD := hT.blk hGZ.nx hGZ.nb
        have hbl : w.heap.size + 1 < Z.heap.size := hGZ.nx.lt
        have oD : OwnU w.heap.size D (.slice v1 v2 v3) us := own_kept hGZ.out fun q hq => hT.block q (own_ltg hGZ.out hq) (hGZ.nv q hq).1
        have nb' : ¬ F' (w.heap.size + 1) := fun hf => hGZ.nb ((hT.own _ hbl).1 hf)
        have n8' : ¬ F' A1.heap.size := fun hf => hn8 ((hT.own _ lZ).1 hf)
        have nv' : ∀ q, (Value.slice v1 v2 v3).ownBlock = some q → ¬ F' q ∧ q ≠ w.heap.size + 1 := fun q hq => ⟨fun hf => (hGZ.nv q hq).1 ((hT.own q (own_ltg hGZ.out hq)).1 hf), (hGZ.nv q hq).2⟩
        have bD : Below w.heap.size w D := hGZ.bel.trans hlow.2
        have lnD := nD.lt
        have lkD := kD.lt
        cases hmay : Fo.may tt u with
        | false =>
          have hi' : (Fo.insert tt u).1 = tt := by unfold Fo.insert; rw [hmay]; rfl
          rw [hi', ← htt] at hrefD
          (refine Ga ?_)
          refine rndQ_n (α := Nat × Value × List Un × List Nat × (Nat → Prop)) (i + 1, .slice v1 v2 v3, us, q, F') ⟨hil, by dsimp only; omega, fun n' hn' => by have := hq n' hn'; dsimp only; omega, ⟨hrefD, nD, oD, hlow.1, nb', nv', hG.bl, bD, hG.ql, hG.ok, hG.sm⟩⟩ ⟨rfl, rfl, rfl, rfl, ?_, trivial⟩ (by dsimp only; omega)
          exact congrArg (Value.int .i64) (by dsimp only; omega)
        | true =>
          have hi' : (Fo.insert tt u).1 = Fo.putL .nil (us ++ [u]) := by
            unfold Fo.insert
            rw [hmay, Fo.putL_snoc, htt]
            rfl
          rw [hi'] at hrefD
          (refine Ga ?_)
          apply Lst_load (hb := nD) (v := .int .u64 (m : Int))
          focus rfl
          focus rfl
          focus rfl
          focus exact hnv
          focus rfl
          (refine Ga ?_)
          have hbA : w.heap.size + 1 < A.heap.size := hG.nx.lt
          apply Lst_storeN (hb := nD)
          focus rfl
          focus constructor
          focus rfl
          focus rfl
          focus rfl
          focus rfl
          focus (unfold nexts; rw [List.length_map]; omega)
          have hset : (nexts q).set (0 + ((cc : Int)).toNat) (.int .u64 ((m : Int) + 1)) = nexts (q.set cc (m + 1)) := by
            unfold nexts
            rw [show 0 + ((cc : Int)).toNat = cc by omega, List.map_set]
            rfl
          rw [hset]
          obtain ⟨D1, hD1⟩ : ∃ D1, D.putObj (w.heap.size + 1) (.cells (nexts (q.set cc (m + 1))).toArray 66) = D1 := ⟨_, rfl⟩
          have n1 : Blk D1 (w.heap.size + 1) (nexts (q.set cc (m + 1))) 66 := by rw [← hD1]; exact Blk.put_same lnD _ _
          have k1 : Blk D1 A1.heap.size (ucs u) 34 := by rw [← hD1]; exact Blk.put_ne (by omega) kD
          have b1 : Below w.heap.size w D1 := by rw [← hD1]; exact Sx.Below.put bD (by omega) _
          have o1 : OwnU w.heap.size D1 (.slice v1 v2 v3) us := by
            rw [← hD1]
            exact own_kept oD fun q hq => World.putObj_heap_other (nv' q hq).2
          have r1 : RefAt D1 w.heap.size F' (Fo.putL .nil (us ++ [u])) := by rw [← hD1]; exact hrefD.put nb' _
          rw [hD1]
          clear hD1 nD kD bD oD hrefD
          have l1 := k1.lt
          have ln1 := n1.lt
          have hsz1 := b1.size
          unfold ucs at k1
          (refine Ga ?_)
          (apply Lst_lit1; (focus constructor); (focus rfl); (focus rfl); (focus rfl); (focus rfl); (focus rfl); (focus rfl); (focus rfl); (focus rfl); (focus ((try simp only [Sx.sizes]); first | done | rfl)); (focus rfl))
          have bL : Below D1.heap.size D1 (D1.alloc (.cells [.int .u64 (u.id.1 : Int), .int .u64 (u.id.2 : Int), .int .u64 (u.l.1 : Int), .int .u64 (u.l.2 : Int), .int .u64 (u.r.1 : Int), .int .u64 (u.r.2 : Int)].toArray 34)) := Bel
          have kL : Blk (D1.alloc (.cells [.int .u64 (u.id.1 : Int), .int .u64 (u.id.2 : Int), .int .u64 (u.l.1 : Int), .int .u64 (u.l.2 : Int), .int .u64 (u.r.1 : Int), .int .u64 (u.r.2 : Int)].toArray 34)) D1.heap.size (ucs u) 34 := (by (repeat (first | assumption | (apply Blk.below (hb := hb1); rotate_left; (focus ((try simp only [Sx.sizes]); omega)); rotate_right) | (apply Blk.below (hb := hb2); rotate_left; (focus ((try simp only [Sx.sizes]); omega)); rotate_right) | (apply Blk.below (hb := hb3); rotate_left; (focus ((try simp only [Sx.sizes]); omega)); rotate_right) | (apply Blk.below (hb := hb4); rotate_left; (focus ((try simp only [Sx.sizes]); omega)); rotate_right) | (apply Blk.below (hb := hb5); rotate_left; (focus ((try simp only [Sx.sizes]); omega)); rotate_right) | (apply Blk.below (hb := hb6); rotate_left; (focus ((try simp only [Sx.sizes]); omega)); rotate_right) | (apply Blk.below (hb := hb7); rotate_left; (focus ((try simp only [Sx.sizes]); omega)); rotate_right) | (apply Blk.below (hb := hb8); rotate_left; (focus ((try simp only [Sx.sizes]); omega)); rotate_right) | (apply Blk.below (hb := hb9); rotate_left; (focus ((try simp only [Sx.sizes]); omega)); rotate_right) | exact Blk.newE (by first | rfl | ((try simp only [Sx.sizes]); first | done | omega)) _ _ | exact Blk.put_same (by (try simp only [Sx.sizes]); first | done | omega) _ _ | (apply Blk.put_ne; (focus omega)) | apply Blk.alloc | apply Blk.drew)); done)
          have sLe : (D1.alloc (.cells [.int .u64 (u.id.1 : Int), .int .u64 (u.id.2 : Int), .int .u64 (u.l.1 : Int), .int .u64 (u.l.2 : Int), .int .u64 (u.r.1 : Int), .int .u64 (u.r.2 : Int)].toArray 34)).heap.size = D1.heap.size + 1 := World.size_alloc _ _
          have o1L := own_below o1 bL (Nat.le_refl _)
          have r1L := r1.below bL
          have n1L := n1.below bL ln1
          have b1L := b1.trans (bL.mono hsz1)
          generalize D1.alloc (.cells [.int .u64 (u.id.1 : Int), .int .u64 (u.id.2 : Int), .int .u64 (u.l.1 : Int), .int .u64 (u.l.2 : Int), .int .u64 (u.r.1 : Int), .int .u64 (u.r.2 : Int)].toArray 34) = DL at *
          apply Lst_appendAt (hown := o1L) (bytes := 48) (news := ucs u)
          focus rfl
          focus rfl
          focus rfl
          focus rfl
          focus rfl
          focus rfl
          focus rfl
          focus rfl
          focus rfl
          focus exact fun j w' hw' => by rw [add_none, kL.cell, Nat.zero_add]; exact hw'
          focus rfl
          focus exact ucs_one u
          focus omega
          focus omega
          focus omega
          focus rfl
          intro v4 D2 o2 hg2 hat2
          have ho2 : OwnU w.heap.size D2 v4 (us ++ [u]) := by
            unfold OwnU
            rw [List.length_append, List.map_append, List.flatten_append]
            have e : ([u].map ucs).flatten = ucs u := by simp
            rw [e]
            exact o2
          have b2 : Below w.heap.size w D2 := Below.own b1L o1L hg2 (Nat.le_refl _) (by omega)
          have r2 : RefAt D2 w.heap.size F' (Fo.putL .nil (us ++ [u])) := r1L.kept hg2.size fun q hq => hg2.block q (r1L.lt hq) fun e => (nv' q e.symm).1 hq
          have n2 : Blk D2 (w.heap.size + 1) (nexts (q.set cc (m + 1))) 66 := Blk.grown n1L hg2 fun e => (nv' _ e.symm).2 rfl
          have hnv2 : ∀ q, v4.ownBlock = some q → ¬ F' q ∧ q ≠ w.heap.size + 1 := fun q hq => by
            rcases hat2 with e | e
            · exact nv' q (e ▸ hq)
            · rw [e] at hq
              have e2 : DL.heap.size = q := Option.some.inj hq
              refine ⟨fun hf => ?_, ?_⟩
              · have := r1L.lt hf
                omega
              · have := n1L.lt
                omega
          obtain ⟨x1, x2, x3, rfl⟩ := own_slice ho2
          have hok : Fo.okL .nil (us ++ [u]) := Fo.okL_snoc hG.ok (by rw [htt]; exact hmay)
          have hql := hG.ql
          (refine Ga ?_)
          refine rndQ_n (α := Nat × Value × List Un × List Nat × (Nat → Prop)) (i + 1, .slice x1 x2 x3, us ++ [u], q.set cc (m + 1), F') ⟨hil, by dsimp only; rw [List.length_append]; show us.length + 1 ≤ _; omega, fun n' hn' => ?_, ⟨r2, n2, ho2, hlow.1, nb', hnv2, hG.bl, b2, by dsimp only; rw [List.length_set]; exact hql, hok, fun u' hu' => ?_⟩⟩ ⟨rfl, rfl, rfl, rfl, ?_, trivial⟩ (by dsimp only; omega)
          · dsimp only at hn' ⊢
            rcases List.mem_or_eq_of_mem_set hn' with h1 | h1
            · have := hq n' h1
              omega
            · omega
          · rcases List.mem_append.1 hu' with h1 | h1
            · exact hG.sm u' h1
            · rw [List.mem_singleton.1 h1, hue]
              refine ⟨?_, ?_, ?_, ?_⟩
              all_goals
                dsimp only
                omega
          · exact congrArg (Value.int .i64) (by dsimp only; omega)
  · (refine Ga ?_)
    apply retQ1
    focus rfl
    exact ⟨us, hG.out, by omega, hG.ok, hG.sm, hG.bel⟩
end Sq
end Go.Proofs.Ytmammcgdjjldbaa
