/- Runs unit by unit: the reference's Units, the program's units. -/
import Derived.Test.YtglfoofclicfpaaDoorVwC
import Derived.Laws.Runes
namespace Go.Proofs.YtglfoofclicfpaaDoor
set_option maxRecDepth 100000
namespace Vw
open Go Go.RowKit Sx Tl Fl Val Mk
open Utf (rs tl Tabs cutS)
theorem own_ltg {w : World} {v : Value} {B e n nn : Nat} {xs : List Value} (h : w.ownsRow B e n v nn xs) {g : Nat} (hg : v.ownBlock = some g) : g < w.heap.size := by
  rcases h.2 with ⟨rfl, _⟩ | ⟨g', cap, cur, rfl, _, hc, _⟩
  · cases hg
  · cases hg
    exact lt_of_some hc
theorem own_kept {w w' : World} {v : Value} {B e n nn : Nat} {xs : List Value} (h : w.ownsRow B e n v nn xs) (hk : ∀ g, v.ownBlock = some g → w'.heap[g]? = w.heap[g]?) : w'.ownsRow B e n v nn xs := by
  refine ⟨h.1, ?_⟩
  rcases h.2 with ⟨rfl, hn⟩ | ⟨g, cap, cur, rfl, hb, hc, h1, h2, h3, h4⟩
  · exact .inl ⟨rfl, hn⟩
  · exact .inr ⟨g, cap, cur, rfl, hb, (hk g rfl).trans hc, h1, h2, h3, h4⟩
theorem own_ne {w : World} {B C e e' s s' n n' : Nat} {u v : Value} {xs ys : List Value} (h : w.ownsRow B e s u n xs) (k : w.ownsRow C e' s' v n' ys) (he : e ≠ e') : ∀ g, u.ownBlock = some g → v.ownBlock ≠ some g := fun g hu hv => by
  rcases h.2 with ⟨rfl, _⟩ | ⟨g1, c1, cur1, rfl, _, h1, _⟩
  · cases hu
  · cases hu
    rcases k.2 with ⟨rfl, _⟩ | ⟨g2, c2, cur2, rfl, _, h2, _⟩
    · cases hv
    · cases hv
      rw [h1] at h2
      injection h2 with h2
      injection h2 with _ h2
      exact he h2
/-- append: where the row is then: where it was, or at a new place. -/
theorem run_append_where {P : Program} {w : World} (base : Nat) (t ty e : TypeId) (i : TypeInfo) (z : Value) (size bytes : Nat) (ht : P.underlying t = some (.slice e)) (hi : P.info? e = some i) (hz : i.zero = some z)
    (hsize : i.size = size) (hby : i.bytes = bytes) (hzs : z.cells.size = size) (hsz : 0 < size) (v : Value) (n : Nat) (xs : List Value) (hown : w.ownsRow base e size v n xs)
    (a : Addr) (m c : Nat) (news : List Value) (hl : news.length = m * size) (hnews : ∀ j u, news[j]? = some u → w.cell? (a.add j) = some u) (h1 : ∀ u ∈ news, u.oneCell' = true)
    (h63 : n + m ≤ maxLen) (hbytes : (n + m) * bytes ≤ 140737488355328) (hbase : base ≤ w.heap.size) :
    ∃ v' w', (Builtin.append_ #[t, t] ty #[v, .slice (some a) m c]).run P w = .ok v' w' ∧ w'.ownsRow base e size v' (n + m) (xs ++ news) ∧ w.grownBy w' v.ownBlock ∧ (v'.ownBlock = v.ownBlock ∨ v'.ownBlock = some w.heap.size) := by
  obtain ⟨v', w', hr, h2, h3, h4⟩ := run_append_own (P := P) w base t ty e i z size bytes ht hi hz hsize hby hzs hsz v n xs hown a m c news hl hnews h1 h63 hbytes hbase
  refine ⟨v', w', hr, h2, h3, ?_⟩
  subst hsize
  subst hby
  have hsmall : n + m ≤ 9223372036854775807 := by simp only [maxLen] at h63; omega
  rcases hown.2 with ⟨rfl, rfl⟩ | ⟨g, cap, cur, rfl, hbg, hg, hnc, hcm, hcs, htake⟩
  · have hx : xs = [] := List.eq_nil_of_length_eq_zero (by simpa using hown.1)
    subst hx
    by_cases hm : m = 0
    · rw [h4.2 ⟨rfl, hm⟩]
      exact .inl rfl
    · have hr2 := run_append_nil (P := P) w t ty e i z ht hi hz a m c news hl hnews (by omega) (by omega) (by have hb := hbytes; simp only [Nat.zero_add] at hb; omega)
      rw [hr] at hr2
      injection hr2 with hr2 _
      rw [hr2]
      exact .inr rfl
  · by_cases hroom : n + m ≤ cap
    · have hfit : n * i.size + news.length ≤ cur.size := by rw [hl, hcs, ← Nat.add_mul]; exact Nat.mul_le_mul_right _ hroom
      have hr2 := run_append_room (P := P) w t ty e i ht hi g n cap cur hg a m c news hl hnews h1 hroom hfit
      rw [hr] at hr2
      injection hr2 with hr2 _
      rw [hr2]
      exact .inl rfl
    · have holds : ∀ j u, xs[j]? = some u → w.cell? ((⟨g, 0, none⟩ : Addr).add j) = some u := hown.cells (g := g) rfl
      have hr2 := run_append_grow (P := P) w t ty e i z ht hi hz ⟨g, 0, none⟩ n cap xs hown.1 holds a m c news hl hnews (by omega) (by omega) (growslice_fits (by omega) hbytes)
      rw [hr] at hr2
      injection hr2 with hr2 _
      rw [hr2]
      exact .inr rfl
/-- append of one run; a block that the row is not in stays. -/
theorem Lst_append1 {rd : Option Nat} {n : Nat} {ops : Array Oper} {Q : Post} {rest : List Oper} {F : Fr} {ds : List Deferred} {w : World} {ty : TypeId} {pos : String} {after : Array Edge} {d A B b : Nat} {s x : Operand} {v : Value} {P : List Rv} {p : Rv}
    (hown : OwnR A B w v P) (hb : Blk w b (pcs p) 40) (hm : MkO A w p.2 p.1.ms) (hAB : A ≤ B) (hl : P.length + 1 ≤ 1000000) (hbase : B ≤ w.heap.size) (hs : ev F s = v) (hx : ev F x = .slice (some ⟨b, 0, none⟩) 1 1) (hd : Nat.blt d n = true)
    (h : ∀ v' w', OwnR A B w' v' (P ++ [p]) → Below B w w' → w.grownBy w' v.ownBlock → (v'.ownBlock = v.ownBlock ∨ v'.ownBlock = some w.heap.size) → Lst Tryd.prog rd n ops Q rest (upd F d v') ds w') :
    Lst Tryd.prog rd n ops Q (⟨some d, .call { callee := .builtin .append, args := #[s, x], argTypes := #[22, 22] }, ty, pos, after, none⟩ :: rest) F ds w := by
  obtain ⟨v', w', hrun, h2, h3, h4⟩ := run_append_where (P := Tryd.prog) (w := w) B 22 ty 40 _ _ 7 88 (by rfl) (by rfl) (by rfl) (by rfl) (by rfl) (by rfl) (by decide) v P.length _ hown.row ⟨b, 0, none⟩ 1 1 (pcs p) (by rfl) (fun j u hu => by
    have := (hb.cell j).trans hu
    by_cases hj : j = 0
    · subst hj; simpa [Addr.add] using this
    · simpa [Addr.add, hj] using this) (fun u hu => pcs_one (P := [p]) (A := A) (w := w) (fun q hq => by rw [List.mem_singleton.1 hq]; exact hm) u (by simpa using hu)) (by simp only [maxLen]; omega) (by omega) hbase
  refine Lst_value (v := v') (w' := w') rfl ?_ hd (h v' w' ⟨?_, fun q hq => ?_⟩ (Below.own (Below.refl B w) hown.row h3 (Nat.le_refl _) hbase) h3 h4)
  · simp [execOp, resolve, invoke, builtin, hs, hx, hrun]
  · rw [List.length_append, List.length_singleton, List.map_append, List.flatten_append]
    simpa using h2
  · refine MkO.row ?_ hown.row hAB h3.size h3.block
    rcases List.mem_append.1 hq with hq | hq
    · exact hown.mks q hq
    · rw [List.mem_singleton.1 hq]
      exact hm
/-- string(c). -/
theorem P_rstr {P : Program} {F : Fr} {ty t t' : TypeId} {x : Operand} {k : IntKind} {u : TypeDesc} {c : Int} (hx : ev F x = .int k c) (ht : P.underlying t = some u) (ht' : P.underlying t' = some .string) : Pu P F (.convert t t' x) ty (.string (runesBytes [c])) :=
  fun dst pos after w => by
    have h := run_convert_int_string (P := P) w t t' k c (by rw [ht]; rfl) ht'
    have e : runesBytes [c] = Utf8.encode c := ByteArray.empty_append
    rw [e]
    simp [execOp, hx, h]
/-- A run, unit by unit, and its slice of marks. -/
def splitV (p : Rv) : List Rv := (split p.1).map fun r => (r, p.2)
theorem splitV_fst : ∀ P : List Rv, (P.flatMap splitV).map Prod.fst = (P.map Prod.fst).flatMap split
  | [] => rfl
  | p :: P => by
    rw [List.flatMap_cons, List.map_append, splitV_fst P, List.map_cons, List.flatMap_cons]
    congr 1
    unfold splitV
    rw [List.map_map]
    exact List.map_id _
theorem splits : ∀ {L : List Rn}, (∀ r ∈ L, OkR r) → Uni (L.flatMap split) ∧ us (L.flatMap split) = us L
  | [], _ => ⟨fun r h => absurd h List.not_mem_nil, rfl⟩
  | r :: L, h => by
    obtain ⟨h1, h2⟩ := split_uni (h r List.mem_cons_self)
    obtain ⟨h3, h4⟩ := splits (L := L) fun x hx => h x (List.mem_cons_of_mem _ hx)
    refine ⟨fun x hx => ?_, ?_⟩
    · rw [List.flatMap_cons] at hx
      rcases List.mem_append.1 hx with hx | hx
      · exact h1 x hx
      · exact h3 x hx
    · rw [List.flatMap_cons, us_append, h2, h4]
      rfl
theorem splitV_text {r : Rn} {mv : Value} (h : r.em = false) : splitV (r, mv) = (rs (tl r.tx)).map fun c => (⟨runesBytes [c], false, zeroV, r.ms⟩, mv) := by
  unfold splitV split
  rw [if_neg (by rw [h]; simp), List.map_map]
  rfl
theorem splitV_emb {r : Rn} {mv : Value} (h : r.em = true) : splitV (r, mv) = [(r, mv)] := by
  unfold splitV split
  rw [if_pos h]
  rfl
theorem splitV_len (p : Rv) : (splitV p).length = lenR p.1 := by
  unfold splitV split lenR
  rw [List.length_map]
  split
  · rfl
  · rw [List.length_map]
theorem flat_len2 : ∀ P : List Rv, (P.flatMap splitV).length = lenP P
  | [] => rfl
  | p :: P => by rw [List.flatMap_cons, List.length_append, flat_len2 P, splitV_len, lenP_cons]
theorem size_one (c : Int) : (runesBytes [c]).size ≤ 4 := by
  have e : runesBytes [c] = Utf8.encode c := ByteArray.empty_append
  rw [e]
  exact encode_size_le c
theorem splitV_tot {p : Rv} (h : OkR p.1) : tot (splitV p) ≤ 5 * lenR p.1 := by
  obtain ⟨r, mv⟩ := p
  cases he : r.em with
  | true =>
    rw [splitV_emb he, tot_one]
    have : r.tx.size = 0 := by rw [h.em he]; rfl
    show 1 + r.tx.size ≤ 5 * lenR r
    unfold lenR
    rw [if_pos he]
    omega
  | false =>
    rw [splitV_text he]
    show _ ≤ 5 * lenR r
    unfold lenR
    rw [if_neg (by rw [he]; simp)]
    generalize rs (tl r.tx) = R
    induction R with
    | nil => exact Nat.le_refl _
    | cons c R ih =>
      rw [List.map_cons, ← List.singleton_append, tot_append, tot_one, List.length_cons]
      have := size_one c
      dsimp only
      omega
theorem flat_tot : ∀ {P : List Rv}, (∀ p ∈ P, OkR p.1) → tot (P.flatMap splitV) ≤ 5 * lenP P
  | [], _ => Nat.le_refl _
  | p :: P, h => by
    have h1 := splitV_tot (h p List.mem_cons_self)
    have h2 := flat_tot (P := P) fun x hx => h x (List.mem_cons_of_mem _ hx)
    rw [List.flatMap_cons, tot_append, lenP_cons]
    omega
theorem splitV_ms {p q : Rv} (h : q ∈ splitV p) : q.2 = p.2 ∧ q.1.ms = p.1.ms := by
  obtain ⟨r, hr, rfl⟩ := List.mem_map.1 h
  refine ⟨rfl, ?_⟩
  unfold split at hr
  split at hr
  · rw [List.mem_singleton.1 hr]
  · obtain ⟨c, _, rfl⟩ := List.mem_map.1 hr
    rfl
/-- A range over a string goes on: marks and rows stay. -/
theorem MkO.iter {A it p : Nat} {w : World} {mv : Value} {ms : List Mk} {s : ByteArray} (h : MkO A w mv ms) (hi : w.heap[it]? = some (.stringIter s p)) (hA : A ≤ it) (o : Obj) : MkO A (w.putObj it o) mv ms := by
  refine MkO.keep h (by rw [World.putObj_size]; exact Nat.le_refl _) fun b off c h0 e => World.putObj_heap_other fun e2 => ?_
  rcases h with ⟨h1, _⟩ | ⟨_, _, b', off', c', e', hl, ht⟩
  · exact absurd h1 h0
  · rw [e] at e'
    cases e'
    rcases ht with ht | ⟨cur, ht⟩
    · exact absurd (Nat.lt_of_lt_of_le ht hA) (by rw [e2]; exact Nat.lt_irrefl _)
    · rw [e2, hi] at ht
      cases ht
theorem own_noit {B it p e n nn : Nat} {w : World} {v : Value} {xs : List Value} {s : ByteArray} (h : w.ownsRow B e n v nn xs) (hi : w.heap[it]? = some (.stringIter s p)) : v.ownBlock ≠ some it := fun hg => by
  rcases h.2 with ⟨rfl, _⟩ | ⟨g', cap, cur, rfl, _, hc, _⟩
  · cases hg
  · cases hg
    rw [hi] at hc
    cases hc
theorem OwnR.iter {A B it p : Nat} {w : World} {v : Value} {P : List Rv} {s : ByteArray} (h : OwnR A B w v P) (hi : w.heap[it]? = some (.stringIter s p)) (hA : A ≤ it) (o : Obj) : OwnR A B (w.putObj it o) v P :=
  ⟨own_kept h.row fun _ hg => World.putObj_heap_other fun e => own_noit h.row hi (by rw [hg, e]), fun q hq => (h.mks q hq).iter hi hA o⟩
section
attribute [local irreducible] RnS RnT
attribute [local irreducible] W Lst Qst Pu seqQ blkQ rndQ cutQ retQ Does Enters IntKind.wrap bits sb World.alloc World.putObj Blk
set_option maxHeartbeats 8000000 in
theorem r_Units (P : List Rv) (A : Nat) (a : Option Addr) (c : Nat) (w : World) (hA : A ≤ w.heap.size) (h : RunS A w (.slice a P.length c) P) (ok : ∀ p ∈ P, OkR p.1) (ht : tot P ≤ 100000) (hL : lenP P ≤ 100000) : Does Tryd.prog 13 #[.slice a P.length c] w fun v w' => (OwnR A w.heap.size w' v (P.flatMap splitV)) ∧ Below w.heap.size w w' := by
  refine Does_of (args := [.slice a P.length c]) Tryd.func13 (by kernel_rfl) rfl rfl rfl rfl rfl ?_
  have hlP := tot_len P
  (refine Ga ?_)
  refine W_loop (α := Nat × Value) (fun x => [(0, .slice a P.length c), (3, x.2), (4, .int .i64 (x.1 : Int))])
    (fun x X => x.1 ≤ P.length ∧ OwnR A w.heap.size X x.2 ((P.take x.1).flatMap splitV) ∧ Below w.heap.size w X) (fun x _ => P.length - x.1) (0, .slice none 0 0) ⟨Nat.zero_le _, OwnR.nil _ _ _, Bel⟩ ⟨rfl, rfl, rfl, trivial⟩ ?_
  rintro J ⟨i, v⟩ X ⟨hi, hoX, bX⟩
  dsimp only at hi hoX bX ⊢
  have sX := bX.size
  obtain ⟨v1, n1, v3, rfl⟩ := own_slice hoX.row
  by_cases hil : i < P.length
  · have hX := h.below bX
    obtain ⟨g, off, rfl, _, hc⟩ := hX.at hil
    have hmk := hX.mks _ (List.getElem_mem hil)
    have hmk2 : ∀ Z, Below w.heap.size w Z → MkO A Z P[i].2 P[i].1.ms := fun Z hZ => (h.below hZ).mks _ (List.getElem_mem hil)
    have hok := ok _ (List.getElem_mem hil)
    have hsz := tot_mem (List.getElem_mem hil)
    have hta : (P.take (i + 1)).flatMap splitV = (P.take i).flatMap splitV ++ splitV P[i] := by rw [List.take_succ_eq_append_getElem hil, List.flatMap_append, List.flatMap_cons, List.flatMap_nil, List.append_nil]
    have hl1 := flat_len2 (P.take i)
    have hl2 := lenP_take_le P (i + 1)
    rw [lenP_take_succ hil] at hl2
    obtain ⟨p, hp⟩ : ∃ p, P[i] = p := ⟨_, rfl⟩
    rw [hp] at hc hmk hmk2 hok hsz hta hl2
    obtain ⟨r, mv⟩ := p
    obtain ⟨ma, mc, he⟩ := hmk.form
    dsimp only at he hok hsz hmk hmk2 hl2
    subst he
    have hpe := hc 1 (.bool r.em) rfl
    have hpt0 := hc 0 (.string r.tx) rfl
    have hpt : X.cell? ⟨g, off + i * 7, none⟩ = some (.string r.tx) := hpt0
    have hpm := hc 6 (.slice ma r.ms.length mc) rfl
    cases hem : r.em with
    | true =>
      rw [hem] at hpe
      rw [splitV_emb hem] at hta
      have hl3 : lenR r = 1 := by unfold lenR; rw [if_pos hem]
      (refine Ga ?_)
      apply Lst_pu
      · apply P_idxm (j := i) (sz := 7)
        focus rfl
        focus rfl
        focus rfl
        focus rfl
        focus rfl
        focus omega
      focus rfl
      (refine Ga ?_)
      apply Lst_pu
      · apply P_idxm (j := i) (sz := 7)
        focus rfl
        focus rfl
        focus rfl
        focus rfl
        focus rfl
        focus omega
      focus rfl
      (refine Ga ?_)
      apply Lst_loadS' (cs := pcs (r, .slice ma r.ms.length mc))
      focus rfl
      focus rfl
      focus rfl
      focus rfl
      focus rfl
      focus exact hc
      focus rfl
      unfold pcs rcs
      dsimp only
      (refine Ga ?_)
      (apply Lst_slit; (focus rfl); (focus rfl); (focus rfl); (focus rfl); (focus rfl); (focus rfl); (focus rfl); (focus rfl); (focus rfl); (focus (repeat (first | apply FillO.nil | (apply FillO.cons; (focus constructor); (focus rfl); (focus rfl); (focus (repeat constructor)))))); (focus ((try simp only [Sx.sizes]); first | done | rfl)); (focus rfl))
      refine Lst_abs (fun E => Below X.heap.size X E ∧ Blk E X.heap.size (pcs (r, .slice ma r.ms.length mc)) 40) ⟨Bel, by unfold pcs rcs; exact (by (repeat (first | assumption | (apply Blk.below (hb := hb1); rotate_left; (focus ((try simp only [Sx.sizes]); omega)); rotate_right) | (apply Blk.below (hb := hb2); rotate_left; (focus ((try simp only [Sx.sizes]); omega)); rotate_right) | (apply Blk.below (hb := hb3); rotate_left; (focus ((try simp only [Sx.sizes]); omega)); rotate_right) | (apply Blk.below (hb := hb4); rotate_left; (focus ((try simp only [Sx.sizes]); omega)); rotate_right) | (apply Blk.below (hb := hb5); rotate_left; (focus ((try simp only [Sx.sizes]); omega)); rotate_right) | (apply Blk.below (hb := hb6); rotate_left; (focus ((try simp only [Sx.sizes]); omega)); rotate_right) | (apply Blk.below (hb := hb7); rotate_left; (focus ((try simp only [Sx.sizes]); omega)); rotate_right) | (apply Blk.below (hb := hb8); rotate_left; (focus ((try simp only [Sx.sizes]); omega)); rotate_right) | (apply Blk.below (hb := hb9); rotate_left; (focus ((try simp only [Sx.sizes]); omega)); rotate_right) | exact Blk.newE (by first | rfl | ((try simp only [Sx.sizes]); first | done | omega)) _ _ | exact Blk.put_same (by (try simp only [Sx.sizes]); first | done | omega) _ _ | (apply Blk.put_ne; (focus omega)) | apply Blk.alloc | apply Blk.drew)); done)⟩ ?_
      rintro E ⟨hE, kE⟩
      have bE := bX.trans (hE.mono sX)
      apply Lst_appendV (hown := hoX.below hE) (hy := one_run kE (hmk.below hE)) (hAB := hA)
      focus (simp only [List.length_singleton]; omega)
      focus exact bE.size
      focus rfl
      focus rfl
      focus rfl
      intro v' U hoU hU _
      obtain ⟨u1, u3, rfl, _⟩ := hoU.form
      (refine Ga ?_)
      refine rndQ_n (α := Nat × Value) (i + 1, _) ⟨hil, by dsimp only; rw [hta]; exact hoU, bE.trans (hU.mono (Nat.le_refl _))⟩ ⟨rfl, rfl, ?_, trivial⟩ (by dsimp only; omega)
      exact congrArg (Value.int .i64) (by dsimp only; omega)
    | false =>
      rw [hem] at hpe
      rw [splitV_text hem] at hta
      have hl3 : lenR r = (rs (tl r.tx)).length := by unfold lenR; rw [if_neg (by rw [hem]; simp)]
      (refine Ga ?_)
      apply Lst_pu
      · apply P_idxm (j := i) (sz := 7)
        focus rfl
        focus rfl
        focus rfl
        focus rfl
        focus rfl
        focus omega
      focus rfl
      (refine Ga ?_)
      apply Lst_pu
      · apply P_idxm (j := i) (sz := 7)
        focus rfl
        focus rfl
        focus rfl
        focus rfl
        focus rfl
        focus omega
      focus rfl
      (refine Ga ?_)
      (apply Lst_call; (focus rfl); (focus rfl))
      refine (Utf.r_Runes r.tx X (by omega)).mono ?_
      rintro v V ⟨u, rfl, hoU, hV⟩
      rw [hl3] at hl2
      have hgR := Utf.rs_good (tl r.tx)
      obtain ⟨R, hR⟩ : ∃ R, rs (tl r.tx) = R := ⟨_, rfl⟩
      rw [hR] at hoU hta hl2 hgR
      obtain ⟨u1, u3, rfl, hu13⟩ := own_form hoU
      have hiV := Ints.of_own hoU
      have bV := bX.trans (hV.mono sX)
      have sV := bV.size
      have hoV := hoX.below hV
      have hmV := hmk.below hV
      have hpmV := cell_below hV hpm
      clear hpt hpt0 hpe
      (refine Ga ?_)
      refine W_loop (α := Nat × Value) (fun x => [(0, .slice (some ⟨g, off, none⟩) P.length c), (3, x.2), (4, .int .i64 (i : Int)), (5, .slice u1 R.length u3), (7, .int .i64 (x.1 : Int))])
        (fun x Y => x.1 ≤ R.length ∧ OwnR A w.heap.size Y x.2 ((P.take i).flatMap splitV ++ (R.take x.1).map fun c => (⟨runesBytes [c], false, zeroV, r.ms⟩, .slice ma r.ms.length mc)) ∧ Y.ownsRow X.heap.size 21 1 (.slice u1 R.length u3) R.length (R.map (.int .i32)) ∧ Below w.heap.size w Y) (fun x _ => R.length - x.1) (0, .slice v1 n1 v3) ⟨Nat.zero_le _, by rw [List.take_zero, List.map_nil, List.append_nil]; exact hoV, hoU, bV⟩ ⟨rfl, rfl, rfl, rfl, rfl, trivial⟩ ?_
      clear hoV hoU hiV hmV hpmV bV sV
      rintro J ⟨k, v⟩ Y ⟨hk, hoY, hoU, bY⟩
      dsimp only at hk hoY hoU bY ⊢
      have sY := bY.size
      by_cases hkl : k < R.length
      · have hY := h.below bY
        obtain ⟨_, _, e2, _, hcY⟩ := hY.at hil
        cases e2
        rw [hp] at hcY
        have hmY := hmk2 Y bY
        have hgw : ∀ Z, Below w.heap.size w Z → Z.cell? ⟨g, off + i * 7 + 6, none⟩ = some (.slice ma r.ms.length mc) := fun Z hZ => by
          obtain ⟨_, _, e2, _, hcZ⟩ := (h.below hZ).at hil
          cases e2
          rw [hp] at hcZ
          exact hcZ 6 _ rfl
        have hiY := Ints.of_own hoU
        have hsub := Ints.sub hiY hu13 (l := k) (h := k + 1) (by omega) hkl
        have hone : (R.take (k + 1)).drop k = [R[k]] := by rw [List.take_succ_eq_append_getElem hkl, List.drop_append_of_le_length (by rw [List.length_take]; omega), List.drop_of_length_le (by rw [List.length_take]; omega)]; rfl
        rw [hone] at hsub
        have hgc := hgR R[k] (List.getElem_mem hkl)
        have htk : (R.take (k + 1)).map (fun c => (((⟨runesBytes [c], false, zeroV, r.ms⟩ : Rn), Value.slice ma r.ms.length mc) : Rv)) = (R.take k).map (fun c => (((⟨runesBytes [c], false, zeroV, r.ms⟩ : Rn), Value.slice ma r.ms.length mc) : Rv)) ++ [((⟨runesBytes [R[k]], false, zeroV, r.ms⟩ : Rn), Value.slice ma r.ms.length mc)] := by rw [List.take_succ_eq_append_getElem hkl, List.map_append]; rfl
        generalize R[k] = rk at *
        obtain ⟨w1, w2, w3, rfl⟩ := own_slice hoY.row
        (refine Ga ?_)
        refine W_drawS 16 (fun Z => Below w.heap.size w Z) rfl rfl ?_
        have hS := Below.drew bY
        have hYZ := Below.drew (Below.refl Y.heap.size Y)
        have hoZ := hoY.below hYZ
        have hmZ := hmY.below hYZ
        have hsZ := hsub.below hYZ (Nat.le_refl _)
        have hoUZ : Y.drew.ownsRow X.heap.size 21 1 (.slice u1 R.length u3) R.length (R.map (.int .i32)) := own_drew hoU
        clear hsub hoY hmY hoU hYZ bY hY hcY hiY
        generalize Y.drew = Z at *
        refine S_takeV 0 15 rfl (by kernel_rfl) (by repeat (first | exact retQ_p | apply seqQ_p | apply blkQ_p | apply rndQ_p | apply cutQ_p)) hS ?_
        (refine Qb ?_)
        refine S_takeV 1 14 rfl (by kernel_rfl) (by repeat (first | exact retQ_p | apply seqQ_p | apply blkQ_p | apply rndQ_p | apply cutQ_p)) hS ?_
        (refine Qb ?_)
        refine S_takeV 2 13 rfl (by kernel_rfl) (by repeat (first | exact retQ_p | apply seqQ_p | apply blkQ_p | apply rndQ_p | apply cutQ_p)) hS ?_
        (refine Qb ?_)
        refine S_takeV 3 12 rfl (by kernel_rfl) (by repeat (first | exact retQ_p | apply seqQ_p | apply blkQ_p | apply rndQ_p | apply cutQ_p)) hS ?_
        (refine Qb ?_)
        refine S_takeV 4 11 rfl (by kernel_rfl) (by repeat (first | exact retQ_p | apply seqQ_p | apply blkQ_p | apply rndQ_p | apply cutQ_p)) hS ?_
        (refine Qb ?_)
        refine S_takeV 5 10 rfl (by kernel_rfl) (by repeat (first | exact retQ_p | apply seqQ_p | apply blkQ_p | apply rndQ_p | apply cutQ_p)) hS ?_
        apply Qst_pu
        · apply P_lslice (m := (k : Int)) (m' := (k : Int) + 1) (sz := 1)
          focus rfl
          focus rfl
          focus rfl
          focus rfl
          focus rfl
          focus rfl
          focus omega
          focus omega
          focus omega
        focus rfl
        (refine Qb ?_)
        refine S_takeV 7 9 rfl (by kernel_rfl) (by repeat (first | exact retQ_p | apply seqQ_p | apply blkQ_p | apply rndQ_p | apply cutQ_p)) hS ?_
        (refine Qb ?_)
        refine S_takeV 8 8 rfl (by kernel_rfl) (by repeat (first | exact retQ_p | apply seqQ_p | apply blkQ_p | apply rndQ_p | apply cutQ_p)) hS ?_
        (refine Qb ?_)
        refine S_takeV 9 7 rfl (by kernel_rfl) (by repeat (first | exact retQ_p | apply seqQ_p | apply blkQ_p | apply rndQ_p | apply cutQ_p)) hS ?_
        apply Qst_pu
        · apply P_idxm (j := i) (sz := 7)
          focus rfl
          focus rfl
          focus rfl
          focus rfl
          focus rfl
          focus omega
        focus rfl
        (refine Qb ?_)
        refine S_takeV 10 6 rfl (by kernel_rfl) (by repeat (first | exact retQ_p | apply seqQ_p | apply blkQ_p | apply rndQ_p | apply cutQ_p)) hS ?_
        (refine Qb ?_)
        refine S_takeV 11 5 rfl (by kernel_rfl) (by repeat (first | exact retQ_p | apply seqQ_p | apply blkQ_p | apply rndQ_p | apply cutQ_p)) hS ?_
        apply Qst_loadc
        focus rfl
        focus rfl
        focus rfl
        focus exact fun A9 hA9 => hgw A9 hA9
        focus rfl
        (refine Qb ?_)
        refine S_any [6] 4 rfl (by kernel_rfl) (all1 ?_)
        apply Lst_runes (zs := [rk]) (hv := hsZ)
        focus rfl
        focus rfl
        focus rfl
        focus rfl
        focus rfl
        apply Lst_nil
        apply rnQ_n
        refine ⟨hS, ?_⟩
        refine S_takeV 12 3 rfl (by kernel_rfl) (by repeat (first | exact retQ_p | apply seqQ_p | apply blkQ_p | apply rndQ_p | apply cutQ_p)) hS ?_
        (refine Qb ?_)
        refine S_any [13] 2 rfl (by kernel_rfl) (all1 ?_)
        (apply Lst_slit; (focus rfl); (focus rfl); (focus rfl); (focus rfl); (focus rfl); (focus rfl); (focus rfl); (focus rfl); (focus rfl); (focus (repeat (first | apply FillO.nil | (apply FillO.cons; (focus constructor); (focus rfl); (focus rfl); (focus (repeat constructor)))))); (focus ((try simp only [Sx.sizes]); first | done | rfl)); (focus rfl))
        refine Lst_abs (fun E => Below Z.heap.size Z E ∧ Blk E Z.heap.size (pcs (⟨runesBytes [rk], false, zeroV, r.ms⟩, .slice ma r.ms.length mc)) 40) ⟨Bel, by unfold pcs rcs zeroV; exact (by (repeat (first | assumption | (apply Blk.below (hb := hb1); rotate_left; (focus ((try simp only [Sx.sizes]); omega)); rotate_right) | (apply Blk.below (hb := hb2); rotate_left; (focus ((try simp only [Sx.sizes]); omega)); rotate_right) | (apply Blk.below (hb := hb3); rotate_left; (focus ((try simp only [Sx.sizes]); omega)); rotate_right) | (apply Blk.below (hb := hb4); rotate_left; (focus ((try simp only [Sx.sizes]); omega)); rotate_right) | (apply Blk.below (hb := hb5); rotate_left; (focus ((try simp only [Sx.sizes]); omega)); rotate_right) | (apply Blk.below (hb := hb6); rotate_left; (focus ((try simp only [Sx.sizes]); omega)); rotate_right) | (apply Blk.below (hb := hb7); rotate_left; (focus ((try simp only [Sx.sizes]); omega)); rotate_right) | (apply Blk.below (hb := hb8); rotate_left; (focus ((try simp only [Sx.sizes]); omega)); rotate_right) | (apply Blk.below (hb := hb9); rotate_left; (focus ((try simp only [Sx.sizes]); omega)); rotate_right) | exact Blk.newE (by first | rfl | ((try simp only [Sx.sizes]); first | done | omega)) _ _ | exact Blk.put_same (by (try simp only [Sx.sizes]); first | done | omega) _ _ | (apply Blk.put_ne; (focus omega)) | apply Blk.alloc | apply Blk.drew)); done)⟩ ?_
        rintro E ⟨hE, kE⟩
        apply Lst_nil
        apply rnQ_n
        have hS2 := hS.trans (hE.mono hS.size)
        refine ⟨hS2, ?_⟩
        have sE := hS2.size
        clear hS
        have hS := hS2
        clear hS2
        have hoUE : E.ownsRow X.heap.size 21 1 (.slice u1 R.length u3) R.length (R.map (.int .i32)) := own_below hoUZ hE (Nat.le_refl _)
        have hoE := hoZ.below hE
        refine S_any [14] 1 rfl (by kernel_rfl) (all1 ?_)
        apply Lst_appendV (hown := hoE) (hy := one_run kE (hmZ.below hE)) (hAB := hA)
        focus (simp only [List.length_singleton, List.length_append, List.length_map, List.length_take]; omega)
        focus exact sE
        focus rfl
        focus rfl
        focus rfl
        intro v' U hoU2 hU hg
        have hoU3 : U.ownsRow X.heap.size 21 1 (.slice u1 R.length u3) R.length (R.map (.int .i32)) := own_kept hoUE fun g' hg' => hg.block g' (own_ltg hoUE hg') fun e => own_ne hoUE hoE.row (by decide) g' hg' e.symm
        apply Lst_nil
        apply rnQ_n
        have hS2 := hS.trans hU
        refine ⟨hS2, ?_⟩
        clear hS
        have hS := hS2
        clear hS2
        obtain ⟨x1, x2, x3, rfl⟩ := own_slice hoU2.row
        refine S_takeV 15 0 rfl (by kernel_rfl) (by repeat (first | exact retQ_p | apply seqQ_p | apply blkQ_p | apply rndQ_p | apply cutQ_p)) hS ?_
        (refine Qb ?_)
        refine S_done (by kernel_rfl) ?_
        (refine Ga ?_)
        refine rndQ_n (α := Nat × Value) (k + 1, .slice x1 x2 x3) ⟨hkl, by dsimp only; rw [htk, ← List.append_assoc]; exact hoU2, hoU3, hS⟩ ⟨rfl, rfl, rfl, rfl, ?_, trivial⟩ (by dsimp only; omega)
        exact congrArg (Value.int .i64) (by dsimp only; omega)
      · obtain rfl : k = R.length := by omega
        rw [List.take_length] at hoY
        (refine Ga ?_)
        refine rndQ_n (α := Nat × Value) (i + 1, v) ⟨hil, by dsimp only; rw [hta]; exact hoY, bY⟩ ⟨rfl, rfl, ?_, trivial⟩ (by dsimp only; omega)
        exact congrArg (Value.int .i64) (by dsimp only; omega)
  · obtain rfl : i = P.length := by omega
    (refine Ga ?_)
    (apply retQ1; (focus rfl))
    rw [List.take_length] at hoX
    exact ⟨hoX, bX⟩
set_option maxHeartbeats 8000000 in
theorem c_units (P : List Rv) (A : Nat) (a : Option Addr) (c : Nat) (w : World) (hA : A ≤ w.heap.size) (h : RunS A w (.slice a P.length c) P) (ok : ∀ p ∈ P, OkR p.1) (hz : ∀ p ∈ P, p.1.ms.length ≤ 1000000) (ht : tot P ≤ 100000) (hL : lenP P ≤ 100000) : Does Tryd.prog 29 #[.slice a P.length c] w fun v w' => (∃ K : List Rv, Cln (K.map Prod.fst) (P.map Prod.fst) ∧ OwnR A w.heap.size w' v (K.flatMap splitV) ∧ ∀ k ∈ K, k.1.ms.length ≤ 1000000) ∧ Below w.heap.size w w' := by
  refine Does_of (args := [.slice a P.length c]) Tryd.func29 (by kernel_rfl) rfl rfl rfl rfl rfl ?_
  (refine Ga ?_)
  (apply Lst_call; (focus rfl); (focus rfl))
  refine (c_Clean P A a c w hA h ok hz (by omega)).mono ?_
  rintro v V ⟨⟨K, hoK, hcl, hKt, hKz⟩, bV⟩
  obtain ⟨q1, q3, rfl, _⟩ := hoK.form
  have sV := bV.size
  have hlK := tot_len K
  have hLK : lenP K = lenP P := by unfold lenP; rw [hcl.us]
  have hAV : A ≤ V.heap.size := Nat.le_trans hA sV
  have hK := hoK.read
  clear hoK
  (refine Ga ?_)
  refine W_loop (α := Nat × Value) (fun x => [(3, x.2), (9, .slice q1 K.length q3), (10, .int .i64 (K.length : Int)), (11, .int .i64 (x.1 : Int))])
    (fun x X => x.1 ≤ K.length ∧ OwnR A V.heap.size X x.2 ((K.take x.1).flatMap splitV) ∧ Below V.heap.size V X) (fun x _ => K.length - x.1) (0, .slice none 0 0) ⟨Nat.zero_le _, OwnR.nil _ _ _, Below.refl _ _⟩ ⟨rfl, rfl, rfl, rfl, trivial⟩ ?_
  rintro J ⟨i, v⟩ X ⟨hi, hoX, bX⟩
  dsimp only at hi hoX bX ⊢
  have sX := bX.size
  obtain ⟨v1, n1, v3, rfl⟩ := own_slice hoX.row
  by_cases hil : i < K.length
  · have hX := hK.below bX
    obtain ⟨g, off, rfl, _, hc⟩ := hX.at hil
    have hmk := hX.mks _ (List.getElem_mem hil)
    have hok := hcl.ok K[i].1 (List.mem_map.2 ⟨_, List.getElem_mem hil, rfl⟩)
    have hsz := tot_mem (List.getElem_mem hil)
    have hta : (K.take (i + 1)).flatMap splitV = (K.take i).flatMap splitV ++ splitV K[i] := by rw [List.take_succ_eq_append_getElem hil, List.flatMap_append, List.flatMap_cons, List.flatMap_nil, List.append_nil]
    have hl1 := flat_len2 (K.take i)
    have hl2 := lenP_take_le K (i + 1)
    rw [lenP_take_succ hil] at hl2
    obtain ⟨p, hp⟩ : ∃ p, K[i] = p := ⟨_, rfl⟩
    rw [hp] at hc hmk hok hsz hta hl2
    obtain ⟨r, mv⟩ := p
    obtain ⟨ma, mc, he⟩ := hmk.form
    dsimp only at he hok hsz hmk hl2
    subst he
    (refine Ga ?_)
    apply Lst_pu
    · apply P_idxm (j := i) (sz := 7)
      focus rfl
      focus rfl
      focus rfl
      focus rfl
      focus rfl
      focus omega
    focus rfl
    (refine Ga ?_)
    apply Lst_loadS' (cs := pcs (r, .slice ma r.ms.length mc))
    focus rfl
    focus rfl
    focus rfl
    focus rfl
    focus rfl
    focus exact hc
    focus rfl
    unfold pcs rcs
    dsimp only
    (refine Ga ?_)
    refine W_abs (fun B => Below X.heap.size X B ∧ Blk B X.heap.size (pcs (r, .slice ma r.ms.length mc)) 40) ⟨Bel, by unfold pcs rcs; dsimp only; exact (by (repeat (first | assumption | (apply Blk.below (hb := hb1); rotate_left; (focus ((try simp only [Sx.sizes]); omega)); rotate_right) | (apply Blk.below (hb := hb2); rotate_left; (focus ((try simp only [Sx.sizes]); omega)); rotate_right) | (apply Blk.below (hb := hb3); rotate_left; (focus ((try simp only [Sx.sizes]); omega)); rotate_right) | (apply Blk.below (hb := hb4); rotate_left; (focus ((try simp only [Sx.sizes]); omega)); rotate_right) | (apply Blk.below (hb := hb5); rotate_left; (focus ((try simp only [Sx.sizes]); omega)); rotate_right) | (apply Blk.below (hb := hb6); rotate_left; (focus ((try simp only [Sx.sizes]); omega)); rotate_right) | (apply Blk.below (hb := hb7); rotate_left; (focus ((try simp only [Sx.sizes]); omega)); rotate_right) | (apply Blk.below (hb := hb8); rotate_left; (focus ((try simp only [Sx.sizes]); omega)); rotate_right) | (apply Blk.below (hb := hb9); rotate_left; (focus ((try simp only [Sx.sizes]); omega)); rotate_right) | exact Blk.newE (by first | rfl | ((try simp only [Sx.sizes]); first | done | omega)) _ _ | exact Blk.put_same (by (try simp only [Sx.sizes]); first | done | omega) _ _ | (apply Blk.put_ne; (focus omega)) | apply Blk.alloc | apply Blk.drew)); done)⟩ ?_
    rintro B ⟨hB, kB⟩
    have bB := bX.trans (hB.mono sX)
    have sB := bB.size
    have hoB := hoX.below hB
    have hmB := hmk.below hB
    have lB := kB.lt
    have hnb : (Value.slice v1 n1 v3).ownBlock ≠ some X.heap.size := fun e => Nat.lt_irrefl _ (own_ltg hoX.row e)
    have kB' := kB
    change Blk B X.heap.size [.string r.tx, .bool r.em, .int .i64 r.v.k, .int .i64 r.v.n, .float .f64 r.v.f, .string r.v.s, .slice ma r.ms.length mc] 40 at kB
    clear hX hoX hc
    cases hem : r.em with
    | true =>
      rw [hem] at kB
      rw [splitV_emb hem] at hta
      have hl3 : lenR r = 1 := by unfold lenR; rw [if_pos hem]
      (refine Ga ?_)
      (apply Lst_slit; (focus rfl); (focus rfl); (focus rfl); (focus rfl); (focus rfl); (focus rfl); (focus rfl); (focus rfl); (focus rfl); (focus (repeat (first | apply FillO.nil | (apply FillO.cons; (focus constructor); (focus rfl); (focus rfl); (focus (repeat constructor)))))); (focus ((try simp only [Sx.sizes]); first | done | rfl)); (focus rfl))
      refine Lst_abs (fun E => Below B.heap.size B E ∧ Blk E B.heap.size (pcs (r, .slice ma r.ms.length mc)) 40) ⟨Bel, by unfold pcs rcs; dsimp only; rw [hem]; exact (by (repeat (first | assumption | (apply Blk.below (hb := hb1); rotate_left; (focus ((try simp only [Sx.sizes]); omega)); rotate_right) | (apply Blk.below (hb := hb2); rotate_left; (focus ((try simp only [Sx.sizes]); omega)); rotate_right) | (apply Blk.below (hb := hb3); rotate_left; (focus ((try simp only [Sx.sizes]); omega)); rotate_right) | (apply Blk.below (hb := hb4); rotate_left; (focus ((try simp only [Sx.sizes]); omega)); rotate_right) | (apply Blk.below (hb := hb5); rotate_left; (focus ((try simp only [Sx.sizes]); omega)); rotate_right) | (apply Blk.below (hb := hb6); rotate_left; (focus ((try simp only [Sx.sizes]); omega)); rotate_right) | (apply Blk.below (hb := hb7); rotate_left; (focus ((try simp only [Sx.sizes]); omega)); rotate_right) | (apply Blk.below (hb := hb8); rotate_left; (focus ((try simp only [Sx.sizes]); omega)); rotate_right) | (apply Blk.below (hb := hb9); rotate_left; (focus ((try simp only [Sx.sizes]); omega)); rotate_right) | exact Blk.newE (by first | rfl | ((try simp only [Sx.sizes]); first | done | omega)) _ _ | exact Blk.put_same (by (try simp only [Sx.sizes]); first | done | omega) _ _ | (apply Blk.put_ne; (focus omega)) | apply Blk.alloc | apply Blk.drew)); done)⟩ ?_
      rintro E ⟨hE, kE⟩
      have bE := bB.trans (hE.mono sB)
      apply Lst_append1 (hown := hoB.below hE) (hb := kE) (hm := hmB.below hE) (hAB := hAV)
      focus omega
      focus exact bE.size
      focus rfl
      focus rfl
      focus rfl
      intro v' U hoU hU _ _
      obtain ⟨u1, u2, u3, rfl⟩ := own_slice hoU.row
      (refine Ga ?_)
      refine rndQ_n (α := Nat × Value) (i + 1, .slice u1 u2 u3) ⟨hil, by dsimp only; rw [hta]; exact hoU, bE.trans (hU.mono (Nat.le_refl _))⟩ ⟨rfl, rfl, rfl, ?_, trivial⟩ (by dsimp only; omega)
      exact congrArg (Value.int .i64) (by dsimp only; omega)
    | false =>
      rw [hem] at kB
      rw [splitV_text hem] at hta
      have hl3 : lenR r = (rs (tl r.tx)).length := by unfold lenR; rw [if_neg (by rw [hem]; simp)]
      (refine Ga ?_)
      have hbnd : (tl r.tx).length = r.tx.size := Array.length_toList
      have hrl := Utf.runesL_some hok.val
      obtain ⟨R, hR⟩ : ∃ R, rs (tl r.tx) = R := ⟨_, rfl⟩
      rw [hR] at hta hl3 hrl
      have hsa : Below B.heap.size B (B.alloc (.stringIter r.tx 0)) := Bel
      have hitA : A ≤ B.heap.size := Nat.le_trans hAV sB
      refine W_loop (α := Nat × Nat × Value) (fun x => [(3, x.2.2), (5, .pointer (some ⟨X.heap.size, 0, none⟩)), (9, .slice (some ⟨g, off, none⟩) K.length q3), (10, .int .i64 (K.length : Int)), (11, .int .i64 (i : Int)), (23, .pointer (some ⟨B.heap.size, 0, none⟩))])
        (fun x Y => x.1 ≤ R.length ∧ Y.heap[B.heap.size]? = some (.stringIter r.tx x.2.1) ∧ Utf.runesL ((tl r.tx).drop x.2.1) = some (R.drop x.1) ∧ OwnR A V.heap.size Y x.2.2 ((K.take i).flatMap splitV ++ (R.take x.1).map (fun c => (((⟨runesBytes [c], false, zeroV, r.ms⟩ : Rn), Value.slice ma r.ms.length mc) : Rv))) ∧ x.2.2.ownBlock ≠ some X.heap.size ∧ Blk Y X.heap.size (pcs (r, .slice ma r.ms.length mc)) 40 ∧ MkO A Y (.slice ma r.ms.length mc) r.ms ∧ Below V.heap.size V Y) (fun x _ => R.length - x.1) (0, 0, .slice v1 n1 v3)
        ⟨Nat.zero_le _, World.alloc_heap_new _ _, by simpa using hrl, by rw [List.take_zero, List.map_nil, List.append_nil]; exact hoB.below hsa, hnb, kB'.below hsa lB, hmB.below hsa, bB.trans (hsa.mono sB)⟩ ⟨rfl, rfl, rfl, rfl, rfl, rfl, trivial⟩ ?_
      rintro J ⟨k, pos, v⟩ Y ⟨hk, hit, hrun, hoY, hny, kY, hmY, bY⟩
      dsimp only at hk hit hrun hoY hny ⊢
      have sY := bY.size
      obtain ⟨w1, w2, w3, rfl⟩ := own_slice hoY.row
      have hlY := lt_of_some hit
      by_cases hpp : pos < r.tx.size
      · have hne : (tl r.tx).drop pos ≠ [] := fun e => by
          have := congrArg List.length e
          rw [List.length_drop, hbnd, List.length_nil] at this
          omega
        rw [Utf.runesL_step _ hne, Lib.decodeL_drop] at hrun
        by_cases hb : Utf.bad ((tl r.tx).drop pos) = true
        · rw [if_pos hb] at hrun; cases hrun
        · rw [if_neg hb] at hrun
          obtain ⟨t', ht', he'⟩ := Option.map_eq_some_iff.1 hrun
          have hkl : k < R.length := by
            have := congrArg List.length he'
            simp at this
            omega
          have hdk : R.drop k = R[k] :: R.drop (k + 1) := List.drop_eq_getElem_cons hkl
          rw [hdk, List.cons.injEq] at he'
          obtain ⟨hkk, hkt⟩ := he'
          have htk : (R.take (k + 1)).map (fun c => (((⟨runesBytes [c], false, zeroV, r.ms⟩ : Rn), Value.slice ma r.ms.length mc) : Rv)) = (R.take k).map (fun c => (((⟨runesBytes [c], false, zeroV, r.ms⟩ : Rn), Value.slice ma r.ms.length mc) : Rv)) ++ [((⟨runesBytes [R[k]], false, zeroV, r.ms⟩ : Rn), Value.slice ma r.ms.length mc)] := by rw [List.take_succ_eq_append_getElem hkl, List.map_append]; rfl
          have hit2 := World.putObj_heap_same (o := .stringIter r.tx (pos + (Utf8.decode r.tx pos).2)) hlY
          have hoZ := hoY.iter hit hitA (.stringIter r.tx (pos + (Utf8.decode r.tx pos).2))
          (refine Ga ?_)
          refine Lst_nextS_t rfl hit hpp rfl ?_
          rw [hkk]
          have kZ := Blk.put_ne (o := .stringIter r.tx (pos + (Utf8.decode r.tx pos).2)) (show X.heap.size ≠ B.heap.size by omega) kY
          have hmZ := hmY.iter hit hitA (.stringIter r.tx (pos + (Utf8.decode r.tx pos).2))
          have bZ := Sx.Below.put bY sB (.stringIter r.tx (pos + (Utf8.decode r.tx pos).2))
          have hgc : Utf.good R[k] := by
            have := Utf.rs_good (tl r.tx) R[k] (by rw [hR]; exact List.getElem_mem hkl)
            exact this
          have htt' : Utf.runesL ((tl r.tx).drop (pos + (Utf8.decode r.tx pos).2)) = some (R.drop (k + 1)) := by
            rw [List.drop_drop] at ht'
            rw [ht', hkt]
          have sZ := bZ.size
          generalize R[k] = rk at *
          obtain ⟨Z, hZe⟩ : ∃ Z, Y.putObj B.heap.size (.stringIter r.tx (pos + (Utf8.decode r.tx pos).2)) = Z := ⟨_, rfl⟩
          rw [hZe] at hit2 hoZ kZ hmZ bZ sZ ⊢
          have lZ := kZ.lt
          have hlit := lt_of_some hit2
          have kZ' : Blk Z X.heap.size [.string r.tx, .bool r.em, .int .i64 r.v.k, .int .i64 r.v.n, .float .f64 r.v.f, .string r.v.s, .slice ma r.ms.length mc] 40 := kZ
          clear hoY hit hmY bY kY hlY kB kB' hoB hmB
          (refine Ga ?_)
          apply Lst_pu
          · apply P_rstr (c := rk)
            focus rfl
            focus rfl
            focus rfl
          focus rfl
          (refine Ga ?_)
          (apply Lst_slit; (focus rfl); (focus rfl); (focus rfl); (focus rfl); (focus rfl); (focus rfl); (focus rfl); (focus rfl); (focus rfl); (focus (repeat (first | apply FillO.nil | (apply FillO.cons; (focus constructor); (focus rfl); (focus rfl); (focus (repeat constructor)))))); (focus ((try simp only [Sx.sizes]); first | done | rfl)); (focus rfl))
          refine Lst_abs (fun E => Below Z.heap.size Z E ∧ Blk E Z.heap.size (pcs (⟨runesBytes [rk], false, zeroV, r.ms⟩, .slice ma r.ms.length mc)) 40) ⟨Bel, by unfold pcs rcs zeroV; exact (by (repeat (first | assumption | (apply Blk.below (hb := hb1); rotate_left; (focus ((try simp only [Sx.sizes]); omega)); rotate_right) | (apply Blk.below (hb := hb2); rotate_left; (focus ((try simp only [Sx.sizes]); omega)); rotate_right) | (apply Blk.below (hb := hb3); rotate_left; (focus ((try simp only [Sx.sizes]); omega)); rotate_right) | (apply Blk.below (hb := hb4); rotate_left; (focus ((try simp only [Sx.sizes]); omega)); rotate_right) | (apply Blk.below (hb := hb5); rotate_left; (focus ((try simp only [Sx.sizes]); omega)); rotate_right) | (apply Blk.below (hb := hb6); rotate_left; (focus ((try simp only [Sx.sizes]); omega)); rotate_right) | (apply Blk.below (hb := hb7); rotate_left; (focus ((try simp only [Sx.sizes]); omega)); rotate_right) | (apply Blk.below (hb := hb8); rotate_left; (focus ((try simp only [Sx.sizes]); omega)); rotate_right) | (apply Blk.below (hb := hb9); rotate_left; (focus ((try simp only [Sx.sizes]); omega)); rotate_right) | exact Blk.newE (by first | rfl | ((try simp only [Sx.sizes]); first | done | omega)) _ _ | exact Blk.put_same (by (try simp only [Sx.sizes]); first | done | omega) _ _ | (apply Blk.put_ne; (focus omega)) | apply Blk.alloc | apply Blk.drew)); done)⟩ ?_
          rintro E ⟨hE, kE⟩
          have bE := bZ.trans (hE.mono sZ)
          have hoE := hoZ.below hE
          have kXE := kZ.below hE lZ
          have hitE := (hE.block _ hlit).trans hit2
          have sE := bE.size
          have lE := kE.lt
          apply Lst_append1 (hown := hoE) (hb := kE) (hm := hmZ.below hE) (hAB := hAV)
          focus (simp only [List.length_append, List.length_map, List.length_take]; omega)
          focus exact sE
          focus rfl
          focus rfl
          focus rfl
          intro v' U hoU hU hg hw
          have hkU := kXE.grown hg fun k' hk' e => hny (by rw [hk', e])
          have hitU := (hg.block _ (lt_of_some hitE) (fun e => own_noit hoE.row hitE e.symm)).trans hitE
          have hmU := MkO.row (hmZ.below hE) hoE.row hAV hg.size hg.block
          have hnU : v'.ownBlock ≠ some X.heap.size := fun e => by
            rcases hw with hw | hw
            · exact hny (by rw [← hw, e])
            · rw [hw] at e
              injection e with e
              omega
          obtain ⟨x1, x2, x3, rfl⟩ := own_slice hoU.row
          (refine Ga ?_)
          exact rndQ_n (α := Nat × Nat × Value) (k + 1, pos + (Utf8.decode r.tx pos).2, .slice x1 x2 x3) ⟨hkl, hitU, htt', by dsimp only; rw [htk, ← List.append_assoc]; exact hoU, hnU, hkU, hmU, bE.trans (hU.mono (Nat.le_refl _))⟩ ⟨rfl, rfl, rfl, rfl, rfl, rfl, trivial⟩ (by dsimp only; omega)
      · (refine Ga ?_)
        refine Lst_nextS_f rfl hit hpp rfl ?_
        (refine Ga ?_)
        have hz : (tl r.tx).drop pos = [] := List.drop_eq_nil_of_le (by omega)
        rw [hz, Utf.runesL_nil] at hrun
        have hkR := congrArg List.length (Option.some.inj hrun)
        rw [List.length_drop, List.length_nil] at hkR
        obtain rfl : k = R.length := by omega
        rw [List.take_length] at hoY
        refine rndQ_n (α := Nat × Value) (i + 1, .slice w1 w2 w3) ⟨hil, by dsimp only; rw [hta]; exact hoY, bY⟩ ⟨rfl, rfl, rfl, ?_, trivial⟩ (by dsimp only; omega)
        exact congrArg (Value.int .i64) (by dsimp only; omega)
  · obtain rfl : i = K.length := by omega
    (refine Ga ?_)
    (apply retQ1; (focus rfl))
    rw [List.take_length] at hoX
    exact ⟨⟨K, hcl, hoX.low sV, hKz⟩, bV.trans (bX.mono sV)⟩
end
end Vw
end Go.Proofs.YtglfoofclicfpaaDoor
