/- Walks: the small functions; New, Len, At; the iterator; Find. -/
import Derived.Test.YtmammcgdjjldbaaSqM
import Derived.Test.YtmammcgdjjldbaaIds
namespace Go.Proofs.Ytmammcgdjjldbaa
set_option maxRecDepth 100000
namespace Sq
open Go Go.RowKit Sx Tl
theorem n_none (k : Id) (w : World) : Does Try.prog 46 #[idv k] w fun v w' => v = .bool (decide (k = Fo.none')) ∧ Below w.heap.size w w' :=
  (Ids.c_none k.1 k.2 w).mono fun v w' h => ⟨h.1.trans (congrArg Value.bool (by
    rw [decide_eq_decide]
    exact ⟨fun h => Prod.ext (by show k.1 = 0; omega) (by show k.2 = 0; omega), fun h => by rw [h]; exact ⟨rfl, rfl⟩⟩)), h.2⟩
theorem n_Right (k : Id) (w : World) : Does Try.prog 35 #[idv k] w fun v w' => v = .bool (Fo.rightId k) ∧ Below w.heap.size w w' :=
  (Ids.c_Right k.1 k.2 w).mono fun v w' h => ⟨h.1.trans (congrArg Value.bool (by
    unfold Fo.rightId Fo.num
    rw [Bool.eq_iff_iff]
    simp
    omega)), h.2⟩
theorem n_Less (a b : Id) (w : World) : Does Try.prog 54 #[idv a, idv b] w fun v w' => v = .bool (Fo.lt a b) ∧ Below w.heap.size w w' :=
  (Ids.c_Less a.1 a.2 b.1 b.2 w).mono fun v w' h => ⟨h.1.trans (congrArg Value.bool (by
    unfold Fo.lt
    rw [Bool.eq_iff_iff]
    simp
    omega)), h.2⟩
/-- All cells are kept. -/
structure KC (A A' : World) : Prop where
  size : A.heap.size ≤ A'.heap.size
  same : ∀ (k : Nat) (o : Obj), A.heap[k]? = some o → o.isCells = true → A'.heap[k]? = some o
theorem KC.refl (A : World) : KC A A := ⟨Nat.le_refl _, fun _ _ h _ => h⟩
theorem KC.trans {A B C : World} (h : KC A B) (k : KC B C) : KC A C := ⟨Nat.le_trans h.size k.size, fun i o hi ho => k.same i o (h.same i o hi ho) ho⟩
theorem KC.blk {A A' : World} {b : Nat} {l : List Value} {e : TypeId} (h : KC A A') (hb : Blk A b l e) : Blk A' b l e := h.same _ _ hb rfl
theorem KC.cell {A A' : World} {p : Addr} {v : Value} (h : KC A A') (hb : A.cell? p = some v) : A'.cell? p = some v := by
  unfold World.cell? at hb ⊢
  cases hx : A.heap[p.block]? with
  | none => simp [hx] at hb
  | some o =>
    have : o.isCells = true := by
      cases o <;> simp [hx] at hb <;> rfl
    rw [h.same _ _ hx this]
    rw [hx] at hb
    exact hb
theorem KC.put {w : World} (A : World) (l : Nat) (r r' : Loop) (_ : w.heap.size ≤ l) (h : A.heap[l]? = some (.loop r)) : KC A (A.putObj l (.loop r')) :=
  ⟨by rw [World.putObj_size]; exact Nat.le_refl _, fun k o hk ho => by
    by_cases e : k = l
    · subst e
      rw [h] at hk
      cases hk
      cases ho
    · exact (World.putObj_heap_other e).trans hk⟩
/-- What the iterator hands over. -/
def encU (ord : List Id) (ρ : Id → Rec) (k : Nat) : List Value := [.int .i64 (k : Int), .agg (ucs (ρ (ord.getD k (0, 0))).u).toArray]
variable {E : Env} {ord rt N D : List Id} {ρ : Id → Rec} {w : World}
theorem Core.row (h : Core w E ord rt N D ρ) : ∃ so sr fresh m, Blk w E.p [.map (some E.ma), so, sr, .map (some E.mt), .bool fresh] 71 ∧ RowAt w E .order so ord ∧ RowAt w E .root sr rt ∧ SxG.MpAt idv w E.mt RI m ∧ (fresh = true → ∀ k ∈ ord, SxG.look m k = some (ord.idxOf k)) := h.seq
/-- One pointer of a row. -/
theorem RowAt.at {τ : Tag} {v : Value} {l : List Id} (h : RowAt w E τ v l) : ∃ a c, v = .slice a l.length c ∧ l.length ≤ c ∧ ∀ i (hi : i < l.length), ∃ g, a = some ⟨g, 0, none⟩ ∧ w.cell? ⟨g, 0 + i, none⟩ = some (pv E l[i]) := by
  obtain ⟨hl, h⟩ := h.own
  rcases h with ⟨rfl, hn⟩ | ⟨g, cap, cur, rfl, _, hc, h1, h2, h3, h4⟩
  · exact ⟨none, 0, by rw [hn], by omega, fun i hi => by omega⟩
  · refine ⟨_, cap, rfl, h1, fun i hi => ⟨g, rfl, ?_⟩⟩
    have e : (cur.toList.take (l.length * 1))[i]? = some (pv E l[i]) := by
      rw [h4, List.getElem?_map, List.getElem?_eq_getElem hi]
      rfl
    rw [List.getElem?_take] at e
    split at e
    · unfold World.cell?
      simp only [hc]
      simpa using e
    · cases e
attribute [local irreducible] W Lst Qst Pu seqQ blkQ rndQ cutQ retQ Does Enters IntKind.wrap bits sb World.alloc World.putObj Blk
set_option maxHeartbeats 2000000 in
theorem g_All (B : Nat) (hB : Blk w B [.pointer (some ⟨E.p, 0, none⟩)] 27) (h : Core w E ord rt N D ρ) (hN : ∀ j ∈ ord, j ∈ N) (hlen : ord.length ≤ 1000000000) :
    Gives Try.prog 51 #[.pointer (some ⟨B, 0, none⟩)] ord.length (fun k => (encU ord ρ k).toArray) KC w := by
  intro l J Jx W1 hb1 hJ hJx hY h0
  have hB1 := hB.below hb1 hB.lt
  have h1 := h.below hb1
  obtain ⟨so, sr, fresh, m, hS, hO, _, _, _⟩ := h1.seq
  obtain ⟨a, c, rfl, hc, hcell⟩ := hO.at
  have hd : Does Try.prog 51 #[.func (.yield l) #[] #[], .pointer (some ⟨B, 0, none⟩)] W1 fun v A' => (J ord.length A' ∨ ∃ k, 0 < k ∧ k ≤ ord.length ∧ Jx k A') := by
    refine Does_of (args := [.func (.yield l) #[] #[], .pointer (some ⟨B, 0, none⟩)]) Try.func51 (by kernel_rfl) rfl rfl rfl rfl rfl ?_
    (refine Ga ?_)
    refine W_loop (α := Nat) (fun i => [(0, .func (.yield l) #[] #[]), (8, .slice a ord.length c), (9, .int .i64 (ord.length : Int)), (10, .int .i64 (i : Int))]) (fun i A => i ≤ ord.length ∧ J i A ∧ KC W1 A) (fun i _ => ord.length - i) 0 ⟨Nat.zero_le _, h0, KC.refl _⟩ ⟨rfl, rfl, rfl, rfl, trivial⟩ ?_
    rintro K i A ⟨hi, hj, hk⟩
    by_cases hil : i < ord.length
    · obtain ⟨g, rfl, hci⟩ := hcell i hil
      obtain ⟨_, sl, sr', hn, _, _⟩ := h1.nodes _ (hN _ (List.getElem_mem hil))
      have hci := hk.cell hci
      have hn := hk.blk hn
      have henc : encU ord ρ i = [.int .i64 (i : Int), .agg (ucs (ρ ord[i]).u).toArray] := by
        unfold encU
        rw [List.getD_eq_getElem?_getD, List.getElem?_eq_getElem hil]
        rfl
      have hy := hY i A hil hj
      dsimp only at hy
      rw [henc] at hy
      unfold ucs at hy
      unfold ncs pv at *
      generalize ord[i] = j at *
      (refine Ga ?_)
      apply Lst_yield
      focus rfl
      focus rfl
      obtain ⟨fn, tmps, assign, body, y1, y2⟩ := hy
      refine ⟨fn, tmps, assign, body, y1, y2.mono ?_⟩
      rintro e A' (⟨rfl, hj', hkp⟩ | ⟨rfl, hjx⟩)
      · refine ⟨_, rfl, ?_⟩
        (refine Ga ?_)
        refine rndQ_n (α := Nat) (i + 1) ⟨hil, hj', hk.trans hkp⟩ ⟨rfl, rfl, rfl, ?_, trivial⟩ (by omega)
        exact congrArg (Value.int .i64) (by omega)
      · refine ⟨_, rfl, ?_⟩
        (refine Ga ?_)
        exact retQ0 (.inr ⟨i + 1, by omega, hil, hjx⟩)
    · obtain rfl : i = ord.length := by omega
      (refine Ga ?_)
      exact retQ0n (.inl hj)
  unfold Does at hd
  refine hd.2.mono ?_
  rintro e A ⟨v, rfl, h⟩
  exact ⟨⟨v, rfl⟩, h⟩
theorem e_All : Enters Try.prog 51 := enters_of Try.func51 (by kernel_rfl) rfl
theorem c_All (p : Nat) (w : World) (B : Nat) (hB : w.heap.size = B) : Does Try.prog 34 #[.pointer (some ⟨p, 0, none⟩)] w fun v w' => v = .func (.func 51) #[] #[.pointer (some ⟨B, 0, none⟩)] ∧ w' = w.alloc (.cells [.pointer (some ⟨p, 0, none⟩)].toArray 27) := by
  subst hB
  refine Does_of (args := [.pointer (some ⟨p, 0, none⟩)]) Try.func34 (by kernel_rfl) rfl rfl rfl rfl rfl ?_
  (refine Ga ?_)
  (apply retQ1; (focus rfl))
  exact ⟨rfl, rfl⟩
/-- What a look-up gives. -/
theorem Core.lookAll (h : Core w E ord rt N D ρ) (k : Id) : (Instr.lookup 67 (.map (some E.ma)) (idv k) false).run Try.prog w = .ok (if k ∈ D then pv E k else .pointer none) w := by
  obtain ⟨es, hm, he⟩ := h.all
  obtain ⟨v, there, hg, hrun⟩ := SxG.run_look (P := Try.prog) (k := k) (z := .pointer none) false Try.underlying67 idKey (by rfl) hm
  rw [hrun]
  rcases hg with ⟨h1, rfl, _⟩ | ⟨a, h1, h2, _⟩
  · rw [he] at h1
    split at h1
    · cases h1
    · rename_i hn
      rw [if_neg hn]
      rfl
  · rw [he] at h1
    split at h1
    · rename_i hn
      cases h1
      rw [if_pos hn]
      unfold RP at h2
      rw [h2]
      rfl
    · cases h1
theorem lookMt {m : List (Id × Nat)} {mt : Nat} (hm : SxG.MpAt idv w mt RI m) (k : Id) (i : Nat) (hk : SxG.look m k = some i) : (Instr.lookup 68 (.map (some mt)) (idv k) false).run Try.prog w = .ok (.int .i64 (i : Int)) w := by
  obtain ⟨v, there, hg, hrun⟩ := SxG.run_look (P := Try.prog) (k := k) (z := .int .i64 0) false Try.underlying68 idKey (by rfl) hm
  rw [hrun]
  rcases hg with ⟨h1, _, _⟩ | ⟨a, h1, h2, _⟩
  · rw [hk] at h1
    cases h1
  · rw [hk] at h1
    cases h1
    unfold RI at h2
    rw [h2]
    rfl
section rules
variable {P : Program} {n : Nat} {ops : Array Oper} {C : World → Prop} {K : Fr → Prop} {rest : List Oper} {F : Fr} {ds : List Deferred} {ty : TypeId} {pos : String} {after : Array Edge}
theorem Qst_lookup {d : Nat} {t : TypeId} {m x : Operand} {v u z : Value} (hm : ev F m = u) (hx : ev F x = z) (hrun : ∀ w, C w → (Instr.lookup t u z false).run P w = .ok v w) (hd : Nat.blt d n = true) (h : Qst P n ops C K rest (upd F d v) ds) : Qst P n ops C K (⟨some d, .lookup t m x false, ty, pos, after, none⟩ :: rest) F ds :=
  Qst_value rfl (fun w hw => by simp [execOp, hm, hx, hrun w hw]) hd h
end rules
end Sq
end Go.Proofs.Ytmammcgdjjldbaa
