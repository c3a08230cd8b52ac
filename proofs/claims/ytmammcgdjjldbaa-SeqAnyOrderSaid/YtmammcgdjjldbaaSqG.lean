/- Far, ahead, under; Len, At. -/
import Derived.Test.YtmammcgdjjldbaaSqF
import Derived.LaidEqlPtr
namespace Go.Proofs.Ytmammcgdjjldbaa
set_option maxRecDepth 100000
namespace Sq
open Go Go.RowKit Sx Tl
section rules
variable {P : Program} {rd : Option Nat} {n : Nat} {ops : Array Oper} {Q : Post} {rest : List Oper} {F : Fr} {ds : List Deferred} {w : World} {ty : TypeId} {pos : String} {after : Array Edge}
theorem Lst_ptreq {d : Nat} {t t' te : TypeId} {x y : Operand} {a b : Nat} {j : TypeInfo} {la lb : List Value} {ea eb : TypeId} (r : Bool) (hx : ev F x = .pointer (some ⟨a, 0, none⟩)) (hy : ev F y = .pointer (some ⟨b, 0, none⟩)) (ht : P.underlying t = some (.pointer te)) (hj : P.info? te = some j) (hsz : j.size ≠ 0)
    (ha : Blk w a la ea) (hb : Blk w b lb eb) (hr : decide (a = b) = r) (hd : Nat.blt d n = true) (h : Lst P rd n ops Q rest (upd F d (.bool r)) ds w) : Lst P rd n ops Q (⟨some d, .binOp .eql t x y t', ty, pos, after, none⟩ :: rest) F ds w := by
  refine Lst_value (v := .bool r) (w' := w) rfl ?_ hd h
  refine bin_run hx hy guard_ptr ?_
  subst hr
  by_cases e : a = b
  · subst e
    rw [decide_eq_true rfl]
    exact run_eql_ptr_same w ⟨a, 0, none⟩ ht hj
  · rw [decide_eq_false e]
    exact run_eql_ptr_other w ht hj hsz (fun h => e (by injection h)) ha hb
theorem retQ_g {rs : List ResultVar} {R : Value → World → Prop} : ∀ l F ds w, ¬ retQ P rs R (.goto l) F ds w := fun _ _ _ _ h => h
end rules
variable {E : Env} {ord rt N D : List Id} {ρ : Id → Rec} {w : World}
/-- How far behind a right child's Right stands. -/
def farV (ord D : List Id) (u : Un) : Int := if u.r = Fo.none' then (ord.length : Int) else findV ord D u.r
def aheadV (ord D : List Id) (a b : Un) : Bool := if farV ord D a = farV ord D b then Fo.lt a.id b.id else decide (farV ord D b < farV ord D a)
/-- Those above one. -/
def Chain (ρ : Id → Rec) (N : List Id) : Id → List Id → Prop
  | k, [] => (ρ k).par = none
  | k, j :: c => (ρ k).par = some j ∧ j ∈ N ∧ Chain ρ N j c
theorem Core.ad_inj (h : Core w E ord rt N D ρ) {j k : Id} (hj : j ∈ N) (hk : k ∈ N) (e : E.ad j = E.ad k) : j = k := by
  have h1 := (h.nodes j hj).tag
  rw [e, (h.nodes k hk).tag] at h1
  cases h1
  rfl
attribute [local irreducible] W Lst Qst Pu seqQ blkQ rndQ cutQ retQ Does Enters IntKind.wrap bits sb World.alloc World.putObj Blk
theorem c_Len (h : Core w E ord rt N D ρ) : Does Try.prog 17 #[.pointer (some ⟨E.p, 0, none⟩)] w fun v w' => v = .int .i64 (ord.length : Int) ∧ w = w' := by
  refine Does_of (args := [.pointer (some ⟨E.p, 0, none⟩)]) Try.func17 (by kernel_rfl) rfl rfl rfl rfl rfl ?_
  obtain ⟨so, sr, fresh, m, hS, hO, hR, hM, hF⟩ := h.seq
  obtain ⟨a, c, rfl, _, _⟩ := hO.at
  (refine Ga ?_)
  (apply retQ1; (focus rfl))
  exact ⟨rfl, rfl⟩
theorem c_far (k : Id) (hkN : k ∈ N) (hD : ∀ j, j ∈ ord ↔ j ∈ D) (hN : ∀ j ∈ ord, j ∈ N ∧ (ρ j).u.id = j) (hnd : ord.Nodup) (hlen : ord.length ≤ 1000000000) (h : Core w E ord rt N D ρ) :
    Does Try.prog 59 #[.pointer (some ⟨E.p, 0, none⟩), pv E k] w fun v w' => v = .int .i64 (farV ord D (ρ k).u) ∧ Core w' E ord rt N D ρ ∧ Kept E SF w w' := by
  refine Does_of (args := [.pointer (some ⟨E.p, 0, none⟩), pv E k]) Try.func59 (by kernel_rfl) rfl rfl rfl rfl rfl ?_
  have hn0 := h.nodes k hkN
  obtain ⟨_, sl, sr, hn, _, _⟩ := hn0
  unfold ncs at hn
  unfold pv
  (refine Ga ?_)
  (apply Lst_call; (focus rfl); (focus rfl))
  refine (n_none (ρ k).u.r w).mono ?_
  rintro v w1 ⟨rfl, hb1⟩
  by_cases hr : (ρ k).u.r = Fo.none'
  · rw [decide_eq_true hr]
    have h1 := h.below hb1
    obtain ⟨so, sr, fresh, m, hS, hO, hR, hM, hF⟩ := h1.seq
    obtain ⟨a, c, rfl, _, _⟩ := hO.at
    (refine Ga ?_)
    (apply retQ1; (focus rfl))
    exact ⟨by rw [farV, if_pos hr]; rfl, h1, .of hb1⟩
  · rw [decide_eq_false hr]
    have h1 := h.below hb1
    have hn := hn.below hb1 hn.lt
    (refine Ga ?_)
    (apply Lst_call; (focus rfl); (focus rfl))
    refine (c_Find (ρ k).u.r hD hN hnd hlen h1).mono ?_
    rintro v w2 ⟨rfl, h2, hk2⟩
    (refine Ga ?_)
    (apply retQ1; (focus rfl))
    exact ⟨by rw [farV, if_neg hr]; rfl, h2, (Kept.of hb1).trans hk2⟩
theorem c_under (k top : Id) (l : List Id) (hkN : k ∈ N) (htN : top ∈ N) (hc : Chain ρ N k l) (h : Core w E ord rt N D ρ) :
    Does Try.prog 47 #[.pointer (some ⟨E.p, 0, none⟩), pv E k, pv E top] w fun v w' => v = .bool (decide (top ∈ l)) ∧ w = w' := by
  refine Does_of (args := [.pointer (some ⟨E.p, 0, none⟩), pv E k, pv E top]) Try.func47 (by kernel_rfl) rfl rfl rfl rfl rfl ?_
  (refine Ga ?_)
  apply W_scope
  focus exact retQ_g
  (refine Ga ?_)
  apply W_label
  (refine Ga ?_)
  refine W_loop (α := Id × List Id) (fun x => [(1, pv E x.1), (2, pv E top)]) (fun x A => x.1 ∈ N ∧ Chain ρ N x.1 x.2 ∧ (top ∈ l ↔ top ∈ x.2) ∧ w = A) (fun x _ => x.2.length) (k, l) ⟨hkN, hc, Iff.rfl, rfl⟩ ⟨rfl, rfl, trivial⟩ ?_
  rintro J ⟨j, c⟩ A ⟨hj, hc, hi, rfl⟩
  obtain ⟨_, sl, sr, hn, _, _⟩ := h.nodes j hj
  obtain ⟨_, tl, tr, ht, _, _⟩ := h.nodes top htN
  unfold ncs at hn ht
  unfold pv
  cases c with
  | nil =>
    have hp : (ρ j).par = none := hc
    rw [hp] at hn
    unfold parv at hn
    (refine Ga ?_)
    (apply retQ1; (focus rfl))
    refine ⟨?_, rfl⟩
    rw [decide_eq_false (fun hm => by have := hi.1 hm; cases this)]
    rfl
  | cons i c =>
    obtain ⟨hp, hiN, hc⟩ := hc
    rw [hp] at hn
    unfold parv pv at hn
    have hni := h.nodes i hiN
    obtain ⟨_, il, ir, hbi, _, _⟩ := hni
    (refine Ga ?_)
    apply Lst_ptreq (decide (i = top)) (ha := hbi) (hb := ht)
    focus rfl
    focus rfl
    focus rfl
    focus rfl
    focus decide
    focus (rw [decide_eq_decide]; exact ⟨fun e => h.ad_inj hiN htN e, fun e => by rw [e]⟩)
    focus rfl
    by_cases e : i = top
    · rw [decide_eq_true e]
      (refine Ga ?_)
      (apply retQ1; (focus rfl))
      refine ⟨?_, rfl⟩
      rw [decide_eq_true (hi.2 (by rw [← e]; exact List.mem_cons_self ..))]
      rfl
    · rw [decide_eq_false e]
      (refine Ga ?_)
      refine rndQ_n (α := Id × List Id) (i, c) ⟨hiN, hc, hi.trans ⟨fun hm => ?_, fun hm => List.mem_cons_of_mem _ hm⟩, rfl⟩ ⟨rfl, rfl, trivial⟩ (by simp)
      rcases List.mem_cons.1 hm with hm | hm
      · exact absurd hm.symm e
      · exact hm
theorem c_ahead (i j : Id) (hiN : i ∈ N) (hjN : j ∈ N) (hD : ∀ j, j ∈ ord ↔ j ∈ D) (hN : ∀ j ∈ ord, j ∈ N ∧ (ρ j).u.id = j) (hnd : ord.Nodup) (hlen : ord.length ≤ 1000000000) (h : Core w E ord rt N D ρ) :
    Does Try.prog 55 #[.pointer (some ⟨E.p, 0, none⟩), pv E i, pv E j] w fun v w' => v = .bool (aheadV ord D (ρ i).u (ρ j).u) ∧ Core w' E ord rt N D ρ ∧ Kept E SF w w' := by
  refine Does_of (args := [.pointer (some ⟨E.p, 0, none⟩), pv E i, pv E j]) Try.func55 (by kernel_rfl) rfl rfl rfl rfl rfl ?_
  (refine Ga ?_)
  (apply Lst_call; (focus rfl); (focus rfl))
  refine (c_far i hiN hD hN hnd hlen h).mono ?_
  rintro v w1 ⟨rfl, h1, hk1⟩
  (refine Ga ?_)
  (apply Lst_call; (focus rfl); (focus rfl))
  refine (c_far j hjN hD hN hnd hlen h1).mono ?_
  rintro v w2 ⟨rfl, h2, hk2⟩
  have hk := hk1.trans hk2
  clear h1 hk1 hk2
  by_cases he : farV ord D (ρ i).u = farV ord D (ρ j).u
  · obtain ⟨_, il, ir, hi, _, _⟩ := h2.nodes i hiN
    obtain ⟨_, jl, jr, hj, _, _⟩ := h2.nodes j hjN
    have hli := hi.lt
    have hlj := hj.lt
    unfold ncs at hi hj
    unfold pv
    have ha : aheadV ord D (ρ i).u (ρ j).u = Fo.lt (ρ i).u.id (ρ j).u.id := if_pos he
    rw [he]
    (refine Ga ?_)
    refine W_draws (Grown _) rfl (by kernel_rfl) (grown_start _) ?_
    (refine Qb ?_)
    apply Qst_call (.bool (Fo.lt (ρ i).u.id (ρ j).u.id))
    focus rfl
    focus rfl
    · intro A9 hb9
      exact (n_Less (ρ i).u.id (ρ j).u.id A9).mono fun v w' h => ⟨h.1, Sx.Below.after hb9 h.2⟩
    (refine Qb ?_)
    intro w8 hb8
    (refine Ga ?_)
    (apply retQ1; (focus rfl))
    exact ⟨by rw [ha]; rfl, h2.below hb8, hk.trans (.of hb8)⟩
  · have ha : aheadV ord D (ρ i).u (ρ j).u = decide (farV ord D (ρ j).u < farV ord D (ρ i).u) := if_neg he
    generalize farV ord D (ρ i).u = x at *
    generalize farV ord D (ρ j).u = y at *
    (refine Ga ?_)
    by_cases hl : y < x
    · (refine Ga ?_)
      (apply retQ1; (focus rfl))
      exact ⟨by rw [ha, decide_eq_true hl]; rfl, h2, hk⟩
    · (refine Ga ?_)
      (apply retQ1; (focus rfl))
      exact ⟨by rw [ha, decide_eq_false hl]; rfl, h2, hk⟩
theorem c_At (i : Int) (hN : ∀ j ∈ ord, j ∈ N ∧ (ρ j).u.id = j) (h : Core w E ord rt N D ρ) :
    Does Try.prog 18 #[.pointer (some ⟨E.p, 0, none⟩), .int .i64 i] w fun v w' =>
      (v = if 0 ≤ i ∧ i < ord.length then .tuple #[.agg (ucs (ρ (ord.getD i.toNat (0, 0))).u).toArray, .bool true] else .tuple #[.agg (ucs ⟨(0, 0), (0, 0), (0, 0)⟩).toArray, .bool false]) ∧ Below w.heap.size w w' := by
  refine Does_of (args := [.pointer (some ⟨E.p, 0, none⟩), .int .i64 i]) Try.func18 (by kernel_rfl) rfl rfl rfl rfl rfl ?_
  (refine Ga ?_)
  have hbX : Below w.heap.size w (w.alloc (.cells [.int .u64 0, .int .u64 0, .int .u64 0, .int .u64 0, .int .u64 0, .int .u64 0].toArray 34)) := Bel
  have kX : Blk (w.alloc (.cells [.int .u64 0, .int .u64 0, .int .u64 0, .int .u64 0, .int .u64 0, .int .u64 0].toArray 34)) w.heap.size [.int .u64 0, .int .u64 0, .int .u64 0, .int .u64 0, .int .u64 0, .int .u64 0] 34 := (by (repeat (first | assumption | (apply Blk.below (hb := hb1); rotate_left; (focus ((try simp only [Sx.sizes]); omega)); rotate_right) | (apply Blk.below (hb := hb2); rotate_left; (focus ((try simp only [Sx.sizes]); omega)); rotate_right) | (apply Blk.below (hb := hb3); rotate_left; (focus ((try simp only [Sx.sizes]); omega)); rotate_right) | (apply Blk.below (hb := hb4); rotate_left; (focus ((try simp only [Sx.sizes]); omega)); rotate_right) | (apply Blk.below (hb := hb5); rotate_left; (focus ((try simp only [Sx.sizes]); omega)); rotate_right) | (apply Blk.below (hb := hb6); rotate_left; (focus ((try simp only [Sx.sizes]); omega)); rotate_right) | (apply Blk.below (hb := hb7); rotate_left; (focus ((try simp only [Sx.sizes]); omega)); rotate_right) | (apply Blk.below (hb := hb8); rotate_left; (focus ((try simp only [Sx.sizes]); omega)); rotate_right) | (apply Blk.below (hb := hb9); rotate_left; (focus ((try simp only [Sx.sizes]); omega)); rotate_right) | exact Blk.newE (by first | rfl | ((try simp only [Sx.sizes]); first | done | omega)) _ _ | exact Blk.put_same (by (try simp only [Sx.sizes]); first | done | omega) _ _ | (apply Blk.put_ne; (focus omega)) | apply Blk.alloc | apply Blk.drew)); done)
  have hX := h.below hbX
  generalize w.alloc (.cells [.int .u64 0, .int .u64 0, .int .u64 0, .int .u64 0, .int .u64 0, .int .u64 0].toArray 34) = X at *
  obtain ⟨so, sr, fresh, m, hS, hO, hR, hM, hF⟩ := hX.seq
  obtain ⟨a, c, rfl, _, hat⟩ := hO.at
  have hlp := hS.lt
  have hlx := kX.lt
  have bw : Below w.heap.size w (X.putObj w.heap.size (.cells [.int .u64 0, .int .u64 0, .int .u64 0, .int .u64 0, .int .u64 0, .int .u64 0].toArray 34)) := Bel
  by_cases h0 : i < 0
  · rw [if_neg (by omega)]
    (refine Ga ?_)
    (refine Retat ?_)
    exact ⟨rfl, bw⟩
  · obtain ⟨n, rfl⟩ : ∃ n : Nat, i = n := ⟨i.toNat, by omega⟩
    rw [Int.toNat_natCast]
    by_cases hi : n < ord.length
    · rw [if_pos ⟨by omega, by omega⟩]
      obtain ⟨g, rfl, hc⟩ := hat n hi
      obtain ⟨_, il, ir, hn, _, _⟩ := hX.nodes _ (hN _ (List.getElem_mem hi)).1
      unfold ncs at hn
      unfold pv at hc
      rw [List.getD_eq_getElem?_getD, List.getElem?_eq_getElem hi, Option.getD_some]
      generalize ord[n] = j at *
      have bu : Below w.heap.size w (X.putObj w.heap.size (.cells (ucs (ρ j).u).toArray 34)) := Bel
      unfold ucs at *
      (refine Ga ?_)
      (refine Retat ?_)
      exact ⟨rfl, bu⟩
    · rw [if_neg (by omega)]
      (refine Ga ?_)
      (refine Retat ?_)
      exact ⟨rfl, bw⟩
end Sq
end Go.Proofs.Ytmammcgdjjldbaa
