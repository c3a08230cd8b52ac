/- Rules of our calculus for regions whose order is drawn: a head of operations that are quiet in a class of worlds, then a tail whose order is forced. Over any program. The library's laws on orders (Quiet, StillTail) are imported; here they are joined. -/
import Derived.Test.YtoljcnlmockpcaaSxOps
import Derived.Deep.Quiet
import Derived.StillTail
import Derived.OrdersIn
namespace Go.Proofs.Ytoljcnlmockpcaa
namespace Sx
open Go Go.RowKit

section order
variable {P : Program} {rd : Option Nat} {r : Nat} {ops : Array Oper} {md : Region.Mode} {C : World → Prop} {m : Nat}

/-- The first f operations that come up are of the head, each quiet; then E. -/
def Heads (P : Program) (md : Region.Mode) (ops : Array Oper) (C : World → Prop) (m : Nat) (X : Array Bool → Act → Prop) : Nat → Array Bool → Act → Prop
  | 0 => X
  | f + 1 => fun l a => Region.ready md ops l ≠ [] ∧ ∀ i ∈ Region.ready md ops l, i < m ∧ qOp P ops C i (Heads P md ops C m X f (l.setIfInBounds i true)) a

theorem opIn_of_q {i : Nat} {a : Act} {K : Act → Prop} {K' : Act → World → Prop} {Q : Exit → Act → World → Prop} {w : World} (hC : C w) (h : ∀ a w', C w' → K a → K' a w') (hh : qOp P ops C i K a) : wpOpIn (E rd) r P ops Q i K' a w := by
  unfold qOp at hh
  unfold wpOpIn
  split
  · rename_i ho; simp only [ho] at hh; exact h _ _ hC hh
  · rename_i o ho
    simp only [ho] at hh
    split
    · rename_i hw
      simp only [hw, if_true] at hh
      obtain ⟨v, h1, h2⟩ := hh
      have h3 := h1 w hC
      unfold Oper.quietAt at h3
      refine ⟨fun f _ => E_fn rd f, ?_⟩
      cases hrun : (execOp a.eval o).run P w with
      | halt x w' => rw [hrun] at h3; exact h3.elim
      | ok x w' =>
        rw [hrun] at h3
        cases x <;> simp only [Oper.quietUpon] at h3
        case value u =>
          rw [sem_same (no_defer hrun (by simp)), hrun, h3.1, h3.2]
          exact h _ _ hC h2
        case skip =>
          rw [sem_same (no_defer hrun (by simp)), hrun, h3.1, Oper.uponIn_skip, ← h3.2]
          exact h _ _ hC h2
        case enter f args =>
          rw [sem_same (no_defer hrun (by simp)), hrun, h3.1, Oper.uponIn_enter]
          refine ⟨E_one rd r, E_calls.2 (h3.2.mono ?_)⟩
          rintro e w2 ⟨rfl, hc⟩
          exact h _ _ hc h2
    · rename_i hw; simp only [hw] at hh; exact ⟨fun f _ => E_fn rd f, h _ _ hC hh⟩

theorem heads_any {g : Nat} {X : Array Bool → Act → Prop} {Q : Exit → Act → World → Prop} (hE : ∀ l a w, C w → X l a → wpAnyIn (E rd) r P md ops Q g l a w) (f : Nat) :
    ∀ (l : Array Bool) (a : Act) (w : World), C w → Heads P md ops C m X f l a → wpAnyIn (E rd) r P md ops Q (f + g) l a w := by
  induction f with
  | zero => intro l a w hw h; rw [Nat.zero_add]; exact hE l a w hw h
  | succ f ih =>
    intro l a w hw h
    have e : f + 1 + g = f + g + 1 := by omega
    rw [e]
    refine ⟨fun h0 => absurd h0 h.1, ?_⟩
    intro i hi
    exact opIn_of_q hw (fun a' w' hw' h' => ih _ a' w' hw' h') (h.2 i hi).2

theorem anyIn_of_quiet {X : Act → Prop} {Q : Exit → Act → World → Prop} (hX : ∀ a w, C w → X a → Q .normal a w) (f : Nat) :
    ∀ (l : Array Bool) (a : Act) (w : World), C w → wpAnyQ P md ops C X f l a → wpAnyIn (E rd) r P md ops Q f l a w := by
  induction f with
  | zero => intro l a w hw h; exact ⟨h.1, hX a w hw h.2⟩
  | succ f ih => intro l a w hw h; exact ⟨fun h0 => hX a w hw (h.1 h0), fun i hi => opIn_of_q hw (fun a' w' hw' h' => ih _ a' w' hw' h') (h.2 i hi)⟩

/-- The tail: one operation at a time can come up. -/
theorem anyIn_of_seq {Q : Exit → Act → World → Prop} (l : List Oper) : ∀ (k : Nat) (x : Array Bool) (a : Act) (w : World), (∀ j, l[j]? = ops[k + j]?) →
    Region.seqB md ops l.length k x = true → wpListIn (E rd) r P ops Q l a w → wpAnyIn (E rd) r P md ops Q l.length x a w := by
  induction l with
  | nil => intro k x a w _ hB h; exact ⟨by simpa [Region.seqB] using hB, h⟩
  | cons o l ih =>
    intro k x a w hl hB h
    have ho : ops[k]? = some o := by simpa using (hl 0).symm
    simp only [List.length_cons, Region.seqB, Bool.and_eq_true, decide_eq_true_eq] at hB
    refine ⟨fun e => (by rw [hB.1] at e; cases e), fun i hi => ?_⟩
    obtain rfl : i = k := by rw [hB.1] at hi; simpa using hi
    have hw : wpOpIn (E rd) r P ops Q i (wpListIn (E rd) r P ops Q l) a w := by
      unfold wpOpIn
      rw [ho]
      exact h
    refine wpOpIn_mono (fun a' w' h' => ih (i + 1) _ a' w' (fun j => ?_) hB.2 h') hw
    have := hl (j + 1)
    rw [Nat.add_assoc, Nat.add_comm 1 j]
    simpa using this

theorem heads_take {i : Nat} {o : Oper} {v : Value} {X : Array Bool → Act → Prop} (ho : ops[i]? = some o) (hsel : ∀ (j : Nat) (o : Oper) cs b, ops[j]? = some o → o.op ≠ .select cs b)
    (hs : Region.sinkB md ops m = true) (hc : Region.chainB md ops m = true) (hm : m < ops.size) (him : i < m) (hE : ∀ l a, X l a → ∀ j ∈ Region.ready md ops l, m ≤ j) (f : Nat) :
    ∀ (l : Array Bool) (a : Act), HeadInv md ops m l → i ∈ Region.ready md ops l → YieldsIn P ops C o v a →
      (∀ k ok, ops[k]? = some ok → k ≠ i → l.getD k true = false → (∀ e ∈ ok.after, Region.binds md e = true → e.on ≠ i) → o.apart ops ok = true) →
      Heads P md ops C m X f (l.setIfInBounds i true) (a.put o.dst v) → Heads P md ops C m X (f + 1) l a := by
  induction f with
  | zero =>
    intro l a inv hi hy _ h
    refine ⟨fun e => (by rw [e] at hi; cases hi), fun j hj => ?_⟩
    have hjm : j < m := Nat.lt_of_not_le fun hle => tail_waits hs hc hm inv _ i rfl him (mem_ready.1 hi).1 j hle hj
    by_cases e : j = i
    · subst e; exact ⟨hjm, hy.qOp ho h⟩
    · exact absurd (hE _ _ h j (ready_mono hj e)) (by omega)
  | succ f ih =>
    intro l a inv hi hy hap h
    refine ⟨fun e => (by rw [e] at hi; cases hi), fun j hj => ?_⟩
    have hjm : j < m := Nat.lt_of_not_le fun hle => tail_waits hs hc hm inv _ i rfl him (mem_ready.1 hi).1 j hle hj
    by_cases e : j = i
    · subst e; exact ⟨hjm, hy.qOp ho h⟩
    · refine ⟨hjm, ?_⟩
      obtain ⟨hju, oj, hoj, hall⟩ := mem_ready.1 hj
      have hni : ∀ e ∈ oj.after, Region.binds md e = true → e.on ≠ i := by
        intro x hx hb hxi
        have := hall x hx hb
        rw [hxi, getD_both (mem_ready.1 hi).1] at this
        cases this
      have hq := qOp_put hoj (hap j oj hoj e hju hni) (fun cs b => hsel i o cs b ho) (fun cs b => hsel j oj cs b hoj) hy (h.2 j (ready_mono hj e)).2
      refine qOp_mono (fun a' ha' => ?_) hq
      refine ih (l.setIfInBounds j true) a' (inv.set hj hjm) (ready_mono hi (Ne.symm e)) ha'.1 ?_ ?_
      · intro k ok hk hki hu hno
        refine hap k ok hk hki ?_ hno
        by_cases hjk : j = k
        · subst hjk; exact hju
        · rwa [getD_set_ne true hjk] at hu
      · rw [Array.setIfInBounds_comm _ _ e]
        exact ha'.2

theorem heads_lex {g : Nat} {K : Act → Prop} (hsel : Region.noSelect ops = true) (hs : Region.sinkB md ops m = true) (hc : Region.chainB md ops m = true) (hm : m < ops.size) :
    ∀ (l : List Oper) (k : Nat) (x : Array Bool) (a : Act), (∀ j, j < l.length → l[j]? = ops[k + j]?) → k + l.length = m → HeadInv md ops m x →
    Region.lexHead md ops g l.length k x = true → wpQuiet P ops C K l a → Heads P md ops C m (fun y b => Region.seqB md ops g m y = true ∧ K b) l.length x a := by
  intro l
  induction l with
  | nil =>
    intro k x a _ hk _ hB h
    obtain rfl : k = m := by simpa using hk
    exact ⟨by simpa [Region.lexHead] using hB, h⟩
  | cons o l ih =>
    intro k x a hl hk inv hB h
    have ho : ops[k]? = some o := by have := hl 0 (by simp); simpa using this.symm
    simp only [List.length_cons] at hk
    simp only [List.length_cons, Region.lexHead, Bool.and_eq_true] at hB
    have hr : k ∈ Region.ready md ops x := by simpa using hB.1.1
    have hq : qOp P ops C k (wpQuiet P ops C K l) a := by
      unfold qOp
      rw [ho]
      exact h
    obtain ⟨v, hy, hK⟩ := yieldsIn_of_qOp ho hq
    refine heads_take ho (Region.noSelect_spec hsel) hs hc hm (by omega) (fun y b hb => seqB_ready hb.1) l.length x a inv hr hy (Region.free_spec ho hB.1.2) ?_
    refine ih (k + 1) _ _ (fun j hj => ?_) (by omega) (inv.set hr (by omega)) hB.2 hK
    have := hl (j + 1) (by simp; omega)
    rw [Nat.add_assoc, Nat.add_comm 1 j]
    simpa using this

theorem region_head_tail {id : Nat} {Q : Exit → Act → World → Prop} {a : Act} {w : World} {l : List Oper} (m : Nat) (hm : P.follows .mixedOrders = true) (hB : Region.lexTailB .any l.toArray m = true) (hC : C w.drew)
    (h : wpQuiet P l.toArray C (fun a' => ∀ w', C w' → wpListIn (E rd) r P l.toArray Q (l.drop m) a' w') (l.take m) a) : (Code.region id l.toArray true).wpIn (E rd) r P Q a w := by
  simp only [Region.lexTailB, Bool.and_eq_true, decide_eq_true_eq] at hB
  obtain ⟨⟨⟨⟨hsel, hlt⟩, hs⟩, hc⟩, hlex⟩ := hB
  have hlen : (l.take m).length = m := by simp at hlt ⊢; omega
  have inv : HeadInv .any l.toArray m (Array.replicate l.toArray.size false) :=
    ⟨by simp, (fun j oj _ hl => by rw [getD_replicate_false] at hl; cases hl), fun t _ ht => getD_in (by simpa using ht) (getD_replicate_false _ _)⟩
  have H := heads_lex (md := .any) (g := l.toArray.size - m) hsel hs hc hlt (l.take m) 0 _ a (fun j hj => by rw [hlen] at hj; simp [hj]) (by simpa using hlen) inv (by rw [hlen]; exact hlex) h
  refine wpIn_region_any hm ?_
  have hd : (l.drop m).length = l.toArray.size - m := by simp
  have := heads_any (rd := rd) (r := r) (Q := Q) (g := l.toArray.size - m) (fun y b w' hw' hb => by
    have := anyIn_of_seq (rd := rd) (r := r) (md := .any) (Q := Q) (l.drop m) m y b w' (fun j => by simp [List.getElem?_drop]) (by rw [hd]; exact hb.1) (hb.2 w' hw')
    rwa [hd] at this) _ _ _ _ hC H
  have e : (l.take m).length + (l.toArray.size - m) = l.toArray.size := by rw [hlen]; omega
  rw [e] at this
  exact this
theorem region_quiet {id : Nat} {Q : Exit → Act → World → Prop} {a : Act} {w : World} {l : List Oper} (hm : P.follows .mixedOrders = true) (hB : Region.lexB .any l.toArray = true) (hC : C w.drew)
    (h : wpQuiet P l.toArray C (fun a' => ∀ w', C w' → Q .normal a' w') l a) : (Code.region id l.toArray true).wpIn (E rd) r P Q a w := by
  simp only [Region.lexB, Bool.and_eq_true] at hB
  refine wpIn_region_any hm ?_
  have := wpAnyQ_lex (C := C) (md := .any) hB.1 l 0 (Array.replicate l.toArray.size false) a (by simp) (by simpa using hB.2) h
  refine anyIn_of_quiet (X := fun a' => ∀ w', C w' → Q .normal a' w') (fun a w hw h => h w hw) _ _ _ _ hC ?_
  simpa using this
end order

section quiet
variable {P : Program} {rd : Option Nat} {n : Nat} {ops : Array Oper} {rest : List Oper} {F : Fr} {ds : List Deferred} {C : World → Prop} {K : Fr → Prop} {ty : TypeId} {pos : String} {after : Array Edge}
/-- The head of a drawn region, operation by operation in the text's order, each with one value in every world of the class. -/
def Qst (P : Program) (n : Nat) (ops : Array Oper) (C : World → Prop) (K : Fr → Prop) (rest : List Oper) (F : Fr) (ds : List Deferred) : Prop :=
  ∀ a, Fits n F ds a → wpQuiet P ops C (fun a' => ∃ G, Fits n G ds a' ∧ K G) rest a

theorem W_draw {id : Nat} {l : List Oper} {Q : Post} {w : World} (m : Nat) (C : World → Prop) (hm : P.follows .mixedOrders = true) (hB : Region.lexTailB .any l.toArray m = true) (hC : C w.drew)
    (h : Qst P n l.toArray C (fun G => ∀ w', C w' → Lst P rd n l.toArray Q (l.drop m) G ds w') (l.take m) F ds) : W P rd n (.region id l.toArray true) Q F ds w := fun r a hf => by
  refine region_head_tail m hm hB hC ?_
  have key : ∀ (k : List Oper) (a : Act), wpQuiet P l.toArray C (fun a' => ∃ G, Fits n G ds a' ∧ ∀ w', C w' → Lst P rd n l.toArray Q (l.drop m) G ds w') k a →
      wpQuiet P l.toArray C (fun a' => ∀ w', C w' → wpListIn (E rd) r P l.toArray (lift n Q) (l.drop m) a' w') k a := by
    intro k
    induction k with
    | nil => rintro a ⟨G, hg, h⟩ w' hw'; exact h w' hw' r a hg
    | cons o k ih =>
      intro a h
      unfold wpQuiet at h ⊢
      split at h
      · rename_i hw; rw [if_pos hw]; exact Oper.quiet_mono (fun a => ih a) h
      · rename_i hw; rw [if_neg hw]; exact ih _ h
  exact key _ _ (h a hf)
theorem W_draws {id : Nat} {l : List Oper} {Q : Post} {w : World} (C : World → Prop) (hm : P.follows .mixedOrders = true) (hB : Region.lexB .any l.toArray = true) (hC : C w.drew)
    (h : Qst P n l.toArray C (fun G => ∀ w', C w' → Q .normal G ds w') l F ds) : W P rd n (.region id l.toArray true) Q F ds w := fun r a hf => by
  refine region_quiet (C := C) hm hB hC ?_
  have key : ∀ (k : List Oper) (a : Act), wpQuiet P l.toArray C (fun a' => ∃ G, Fits n G ds a' ∧ ∀ w', C w' → Q .normal G ds w') k a →
      wpQuiet P l.toArray C (fun a' => ∀ w', C w' → lift n Q .normal a' w') k a := by
    intro k
    induction k with
    | nil => rintro a ⟨G, hg, h⟩ w' hw'; exact ⟨G, ds, hg, h w' hw'⟩
    | cons o k ih =>
      intro a h
      unfold wpQuiet at h ⊢
      split at h
      · rename_i hw; rw [if_pos hw]; exact Oper.quiet_mono (fun a => ih a) h
      · rename_i hw; rw [if_neg hw]; exact ih _ h
  exact key _ _ (h a hf)

theorem Qst_nil (h : K F) : Qst P n ops C K [] F ds := fun _ hf => ⟨F, hf, h⟩
theorem Qst_value {o : Oper} {v : Value} (hg : o.guard = none) (hrun : ∀ w, C w → (execOp (ev F) o).run P w = .ok (.value v) w) (hd : okd n o.dst = true) (h : Qst P n ops C K rest (updO F o.dst v) ds) : Qst P n ops C K (o :: rest) F ds := fun a hf => by
  unfold wpQuiet
  rw [if_pos (wanted_none hg _)]
  refine ⟨v, fun w hw => ?_, h _ (hf.put v hd)⟩
  unfold Oper.quietAt
  rw [hf.eval, hrun w hw]
  exact ⟨rfl, rfl⟩
theorem Qst_pu {d : Nat} {op : Op} {v : Value} (h : Pu P F op ty v) (hd : Nat.blt d n = true) (k : Qst P n ops C K rest (upd F d v) ds) : Qst P n ops C K (⟨some d, op, ty, pos, after, none⟩ :: rest) F ds :=
  Qst_value rfl (fun _ _ => h _ _ _ _) hd k
theorem Qst_pu0 {op : Op} {v : Value} (h : Pu P F op ty v) (k : Qst P n ops C K rest F ds) : Qst P n ops C K (⟨none, op, ty, pos, after, none⟩ :: rest) F ds :=
  Qst_value rfl (fun _ _ => h _ _ _ _) rfl k
theorem Qst_call {d : Option Nat} {f : Operand} {as : List Operand} {cs : List Value} {g : Nat} {ts : Array TypeId} (v : Value) (hf : ev F f = .func (.func g) #[] cs.toArray) (hd : okd n d = true)
    (h : ∀ w, C w → Does P g (evs F as ++ cs).toArray w fun u w' => u = v ∧ C w') (k : Qst P n ops C K rest (updO F d v) ds) : Qst P n ops C K (⟨d, .call { callee := .value f, args := as.toArray, argTypes := ts }, ty, pos, after, none⟩ :: rest) F ds := fun a hF => by
  unfold wpQuiet
  rw [if_pos (wanted_none rfl _)]
  refine ⟨v, fun w hw => ?_, k _ (hF.put v hd)⟩
  unfold Oper.quietAt
  have e := (h w hw).1 (evs F as ++ cs).toArray w
  have e2 := map_evs (F := F) as
  have hrun : (execOp (ev F) ⟨d, .call { callee := .value f, args := as.toArray, argTypes := ts }, ty, pos, after, none⟩).run P w = .ok (.enter g (evs F as ++ cs).toArray) w := by
    simp only [execOp, resolve, hf, Deferred.ofValue, invoke, Sem.run_bind, Sem.run_pure, Result.andThen, e2]
    simpa using e
  rw [hF.eval, hrun]
  refine ⟨rfl, (h w hw).2.mono ?_⟩
  rintro e w' ⟨u, rfl, rfl, hc⟩
  exact ⟨rfl, hc⟩
theorem Qst_loadc {d : Nat} {x : Operand} {t : TypeId} {u : TypeDesc} {p : Addr} {v : Value} (hx : ev F x = .pointer (some p)) (ht : P.underlying t = some u) (hu : aggT u = false) (hv : ∀ w, C w → w.cell? p = some v) (hd : Nat.blt d n = true)
    (h : Qst P n ops C K rest (upd F d v) ds) : Qst P n ops C K (⟨some d, .load t x, ty, pos, after, none⟩ :: rest) F ds :=
  Qst_value rfl (fun w hw => by simp [execOp, hx, Instr.loadAt, Instr.sureAddr, loadVar, run_isAgg ht, hu, load, Sem.run, hv w hw]) hd h
theorem Qst_load {d : Nat} {x : Operand} {t e : TypeId} {u : TypeDesc} {b off : Nat} {l : List Value} {v : Value} (hx : ev F x = .pointer (some ⟨b, off, none⟩)) (ht : P.underlying t = some u) (hu : aggT u = false) (hb : ∀ w, C w → Blk w b l e) (hv : l[off]? = some v) (hd : Nat.blt d n = true)
    (h : Qst P n ops C K rest (upd F d v) ds) : Qst P n ops C K (⟨some d, .load t x, ty, pos, after, none⟩ :: rest) F ds :=
  Qst_loadc hx ht hu (fun w hw => ((hb w hw).cell off).trans hv) hd h
theorem wpQuiet_guard_t {l : List Oper} {dst : Option Nat} {op : Op} {j d : Nat} {b : Bool} (hj : dstOf l j = some d) (hF : F d = .bool b)
    (h : Qst P n l.toArray C K (⟨dst, op, ty, pos, after, none⟩ :: rest) F ds) : Qst P n l.toArray C K (⟨dst, op, ty, pos, after, some (j, b)⟩ :: rest) F ds := fun a hf => by
  have h1 := h a hf
  have hy := yielded_at hj hF hf
  unfold wpQuiet at h1 ⊢
  rw [if_pos (wanted_none rfl _)] at h1
  rw [if_pos (by simp [Region.wanted, hy])]
  exact h1
theorem Qst_guard_t {l : List Oper} {dst : Option Nat} {op : Op} {j d : Nat} {b : Bool} (hj : dstOf l j = some d) (hF : F d = .bool b)
    (h : Qst P n l.toArray C K (⟨dst, op, ty, pos, after, none⟩ :: rest) F ds) : Qst P n l.toArray C K (⟨dst, op, ty, pos, after, some (j, b)⟩ :: rest) F ds := wpQuiet_guard_t hj hF h
theorem Qst_guard_f {l : List Oper} {dst : Option Nat} {op : Op} {j d : Nat} {b c : Bool} (hj : dstOf l j = some d) (hF : F d = .bool c) (hbc : (c == b) = false) (hd : okd n dst = true)
    (h : Qst P n l.toArray C K rest (updO F dst undef) ds) : Qst P n l.toArray C K (⟨dst, op, ty, pos, after, some (j, b)⟩ :: rest) F ds := fun a hf => by
  have hy := yielded_at hj hF hf
  unfold wpQuiet
  rw [if_neg (by simpa [Region.wanted, hy] using hbc)]
  exact h _ (hf.put undef hd)
theorem Qst_guard_u {l : List Oper} {dst : Option Nat} {op : Op} {j d : Nat} {b : Bool} (hj : dstOf l j = some d) (hF : F d = undef) (hd : okd n dst = true)
    (h : Qst P n l.toArray C K rest (updO F dst undef) ds) : Qst P n l.toArray C K (⟨dst, op, ty, pos, after, some (j, b)⟩ :: rest) F ds := fun a hf => by
  have hy := yielded_undef hj hF hf
  unfold wpQuiet
  rw [if_neg (by simp [Region.wanted, hy])]
  exact h _ (hf.put undef hd)
end quiet
end Sx
end Go.Proofs.Ytoljcnlmockpcaa
