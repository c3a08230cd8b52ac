/- Our calculus of walks: drawn regions, ranges over functions, slices, structs. Over any program. -/
import Derived.Test.YtfocnbmihcnaoaaGreatDoorSxB
import Derived.Deep.Quiet
import Derived.StillTail
import Derived.OrdersIn
import Derived.RangeFuncNested
import Derived.RangeFuncBound
import Derived.RangeFuncCalls
import Derived.RangeFuncLeaves
import Derived.Laws.Cover4
import Derived.Deep.MidRow
import Derived.Laws.StructEq
import Derived.Laws.Tables
namespace Go.Proofs.YtfocnbmihcnaoaaGreatDoor
namespace Sx
open Go Go.RowKit

section order
variable {P : Program} {rd : Option Nat} {r : Nat} {ops : Array Oper} {md : Region.Mode} {C : World → Prop} {m : Nat}

/-- The first f operations that come up are of the head, each quiet; then E. -/
def Heads (P : Program) (md : Region.Mode) (ops : Array Oper) (C : World → Prop) (m : Nat) (X : Array Bool → Act → Prop) : Nat → Array Bool → Act → Prop
  | 0 => X
  | f + 1 => fun l a => Region.ready md ops l ≠ [] ∧ ∀ i ∈ Region.ready md ops l, i < m ∧ qOp P ops C i (Heads P md ops C m X f (l.setIfInBounds i true)) a

theorem opIn_of_q {i : Nat} {a : Act} {K : Act → Prop} {K' : Act → World → Prop} {Q : Exit → Act → World → Prop} {w : World} (hC : C w) (h : ∀ a w', C w' → K a → K' a w') (hh : qOp P ops C i K a) : wpOpIn (E rd) r P ops Q i K' a w := by
  unfold qOp at hh
  unfold wpOpIn
  split
  · rename_i ho; simp only [ho] at hh; exact h _ _ hC hh
  · rename_i o ho
    simp only [ho] at hh
    split
    · rename_i hw
      simp only [hw, if_true] at hh
      obtain ⟨v, h1, h2⟩ := hh
      have h3 := h1 w hC
      unfold Oper.quietAt at h3
      refine ⟨fun f _ => E_fn rd f, ?_⟩
      cases hrun : (execOp a.eval o).run P w with
      | halt x w' => rw [hrun] at h3; exact h3.elim
      | ok x w' =>
        rw [hrun] at h3
        cases x <;> simp only [Oper.quietUpon] at h3
        case value u =>
          rw [sem_same (no_defer hrun (by simp)), hrun, h3.1, h3.2]
          exact h _ _ hC h2
        case skip =>
          rw [sem_same (no_defer hrun (by simp)), hrun, h3.1, Oper.uponIn_skip, ← h3.2]
          exact h _ _ hC h2
        case enter f args =>
          rw [sem_same (no_defer hrun (by simp)), hrun, h3.1, Oper.uponIn_enter]
          refine ⟨E_one rd r, E_calls.2 (h3.2.mono ?_)⟩
          rintro e w2 ⟨rfl, hc⟩
          exact h _ _ hc h2
    · rename_i hw; simp only [hw] at hh; exact ⟨fun f _ => E_fn rd f, h _ _ hC hh⟩

theorem heads_any {g : Nat} {X : Array Bool → Act → Prop} {Q : Exit → Act → World → Prop} (hE : ∀ l a w, C w → X l a → wpAnyIn (E rd) r P md ops Q g l a w) (f : Nat) :
    ∀ (l : Array Bool) (a : Act) (w : World), C w → Heads P md ops C m X f l a → wpAnyIn (E rd) r P md ops Q (f + g) l a w := by
  induction f with
  | zero => intro l a w hw h; rw [Nat.zero_add]; exact hE l a w hw h
  | succ f ih =>
    intro l a w hw h
    have e : f + 1 + g = f + g + 1 := by omega
    rw [e]
    refine ⟨fun h0 => absurd h0 h.1, ?_⟩
    intro i hi
    exact opIn_of_q hw (fun a' w' hw' h' => ih _ a' w' hw' h') (h.2 i hi).2

theorem anyIn_of_quiet {X : Act → Prop} {Q : Exit → Act → World → Prop} (hX : ∀ a w, C w → X a → Q .normal a w) (f : Nat) :
    ∀ (l : Array Bool) (a : Act) (w : World), C w → wpAnyQ P md ops C X f l a → wpAnyIn (E rd) r P md ops Q f l a w := by
  induction f with
  | zero => intro l a w hw h; exact ⟨h.1, hX a w hw h.2⟩
  | succ f ih => intro l a w hw h; exact ⟨fun h0 => hX a w hw (h.1 h0), fun i hi => opIn_of_q hw (fun a' w' hw' h' => ih _ a' w' hw' h') (h.2 i hi)⟩

/-- The tail: one operation at a time can come up. -/
theorem anyIn_of_seq {Q : Exit → Act → World → Prop} (l : List Oper) : ∀ (k : Nat) (x : Array Bool) (a : Act) (w : World), (∀ j, l[j]? = ops[k + j]?) →
    Region.seqB md ops l.length k x = true → wpListIn (E rd) r P ops Q l a w → wpAnyIn (E rd) r P md ops Q l.length x a w := by
  induction l with
  | nil => intro k x a w _ hB h; exact ⟨by simpa [Region.seqB] using hB, h⟩
  | cons o l ih =>
    intro k x a w hl hB h
    have ho : ops[k]? = some o := by simpa using (hl 0).symm
    simp only [List.length_cons, Region.seqB, Bool.and_eq_true, decide_eq_true_eq] at hB
    refine ⟨fun e => (by rw [hB.1] at e; cases e), fun i hi => ?_⟩
    obtain rfl : i = k := by rw [hB.1] at hi; simpa using hi
    have hw : wpOpIn (E rd) r P ops Q i (wpListIn (E rd) r P ops Q l) a w := by
      unfold wpOpIn
      rw [ho]
      exact h
    refine wpOpIn_mono (fun a' w' h' => ih (i + 1) _ a' w' (fun j => ?_) hB.2 h') hw
    have := hl (j + 1)
    rw [Nat.add_assoc, Nat.add_comm 1 j]
    simpa using this

theorem heads_take {i : Nat} {o : Oper} {v : Value} {X : Array Bool → Act → Prop} (ho : ops[i]? = some o) (hsel : ∀ (j : Nat) (o : Oper) cs b, ops[j]? = some o → o.op ≠ .select cs b)
    (hs : Region.sinkB md ops m = true) (hc : Region.chainB md ops m = true) (hm : m < ops.size) (him : i < m) (hE : ∀ l a, X l a → ∀ j ∈ Region.ready md ops l, m ≤ j) (f : Nat) :
    ∀ (l : Array Bool) (a : Act), HeadInv md ops m l → i ∈ Region.ready md ops l → YieldsIn P ops C o v a →
      (∀ k ok, ops[k]? = some ok → k ≠ i → l.getD k true = false → (∀ e ∈ ok.after, Region.binds md e = true → e.on ≠ i) → o.apart ops ok = true) →
      Heads P md ops C m X f (l.setIfInBounds i true) (a.put o.dst v) → Heads P md ops C m X (f + 1) l a := by
  induction f with
  | zero =>
    intro l a inv hi hy _ h
    refine ⟨fun e => (by rw [e] at hi; cases hi), fun j hj => ?_⟩
    have hjm : j < m := Nat.lt_of_not_le fun hle => tail_waits hs hc hm inv _ i rfl him (mem_ready.1 hi).1 j hle hj
    by_cases e : j = i
    · subst e; exact ⟨hjm, hy.qOp ho h⟩
    · exact absurd (hE _ _ h j (ready_mono hj e)) (by omega)
  | succ f ih =>
    intro l a inv hi hy hap h
    refine ⟨fun e => (by rw [e] at hi; cases hi), fun j hj => ?_⟩
    have hjm : j < m := Nat.lt_of_not_le fun hle => tail_waits hs hc hm inv _ i rfl him (mem_ready.1 hi).1 j hle hj
    by_cases e : j = i
    · subst e; exact ⟨hjm, hy.qOp ho h⟩
    · refine ⟨hjm, ?_⟩
      obtain ⟨hju, oj, hoj, hall⟩ := mem_ready.1 hj
      have hni : ∀ e ∈ oj.after, Region.binds md e = true → e.on ≠ i := by
        intro x hx hb hxi
        have := hall x hx hb
        rw [hxi, getD_both (mem_ready.1 hi).1] at this
        cases this
      have hq := qOp_put hoj (hap j oj hoj e hju hni) (fun cs b => hsel i o cs b ho) (fun cs b => hsel j oj cs b hoj) hy (h.2 j (ready_mono hj e)).2
      refine qOp_mono (fun a' ha' => ?_) hq
      refine ih (l.setIfInBounds j true) a' (inv.set hj hjm) (ready_mono hi (Ne.symm e)) ha'.1 ?_ ?_
      · intro k ok hk hki hu hno
        refine hap k ok hk hki ?_ hno
        by_cases hjk : j = k
        · subst hjk; exact hju
        · rwa [getD_set_ne true hjk] at hu
      · rw [Array.setIfInBounds_comm _ _ e]
        exact ha'.2

theorem heads_lex {g : Nat} {K : Act → Prop} (hsel : Region.noSelect ops = true) (hs : Region.sinkB md ops m = true) (hc : Region.chainB md ops m = true) (hm : m < ops.size) :
    ∀ (l : List Oper) (k : Nat) (x : Array Bool) (a : Act), (∀ j, j < l.length → l[j]? = ops[k + j]?) → k + l.length = m → HeadInv md ops m x →
    Region.lexHead md ops g l.length k x = true → wpQuiet P ops C K l a → Heads P md ops C m (fun y b => Region.seqB md ops g m y = true ∧ K b) l.length x a := by
  intro l
  induction l with
  | nil =>
    intro k x a _ hk _ hB h
    obtain rfl : k = m := by simpa using hk
    exact ⟨by simpa [Region.lexHead] using hB, h⟩
  | cons o l ih =>
    intro k x a hl hk inv hB h
    have ho : ops[k]? = some o := by have := hl 0 (by simp); simpa using this.symm
    simp only [List.length_cons] at hk
    simp only [List.length_cons, Region.lexHead, Bool.and_eq_true] at hB
    have hr : k ∈ Region.ready md ops x := by simpa using hB.1.1
    have hq : qOp P ops C k (wpQuiet P ops C K l) a := by
      unfold qOp
      rw [ho]
      exact h
    obtain ⟨v, hy, hK⟩ := yieldsIn_of_qOp ho hq
    refine heads_take ho (Region.noSelect_spec hsel) hs hc hm (by omega) (fun y b hb => seqB_ready hb.1) l.length x a inv hr hy (Region.free_spec ho hB.1.2) ?_
    refine ih (k + 1) _ _ (fun j hj => ?_) (by omega) (inv.set hr (by omega)) hB.2 hK
    have := hl (j + 1) (by simp; omega)
    rw [Nat.add_assoc, Nat.add_comm 1 j]
    simpa using this

theorem region_head_tail {id : Nat} {Q : Exit → Act → World → Prop} {a : Act} {w : World} {l : List Oper} (m : Nat) (hm : P.follows .mixedOrders = true) (hB : Region.lexTailB .any l.toArray m = true) (hC : C w.drew)
    (h : wpQuiet P l.toArray C (fun a' => ∀ w', C w' → wpListIn (E rd) r P l.toArray Q (l.drop m) a' w') (l.take m) a) : (Code.region id l.toArray true).wpIn (E rd) r P Q a w := by
  simp only [Region.lexTailB, Bool.and_eq_true, decide_eq_true_eq] at hB
  obtain ⟨⟨⟨⟨hsel, hlt⟩, hs⟩, hc⟩, hlex⟩ := hB
  have hlen : (l.take m).length = m := by simp at hlt ⊢; omega
  have inv : HeadInv .any l.toArray m (Array.replicate l.toArray.size false) :=
    ⟨by simp, (fun j oj _ hl => by rw [getD_replicate_false] at hl; cases hl), fun t _ ht => getD_in (by simpa using ht) (getD_replicate_false _ _)⟩
  have H := heads_lex (md := .any) (g := l.toArray.size - m) hsel hs hc hlt (l.take m) 0 _ a (fun j hj => by rw [hlen] at hj; simp [hj]) (by simpa using hlen) inv (by rw [hlen]; exact hlex) h
  refine wpIn_region_any hm ?_
  have hd : (l.drop m).length = l.toArray.size - m := by simp
  have := heads_any (rd := rd) (r := r) (Q := Q) (g := l.toArray.size - m) (fun y b w' hw' hb => by
    have := anyIn_of_seq (rd := rd) (r := r) (md := .any) (Q := Q) (l.drop m) m y b w' (fun j => by simp [List.getElem?_drop]) (by rw [hd]; exact hb.1) (hb.2 w' hw')
    rwa [hd] at this) _ _ _ _ hC H
  have e : (l.take m).length + (l.toArray.size - m) = l.toArray.size := by rw [hlen]; omega
  rw [e] at this
  exact this
theorem region_quiet {id : Nat} {Q : Exit → Act → World → Prop} {a : Act} {w : World} {l : List Oper} (hm : P.follows .mixedOrders = true) (hB : Region.lexB .any l.toArray = true) (hC : C w.drew)
    (h : wpQuiet P l.toArray C (fun a' => ∀ w', C w' → Q .normal a' w') l a) : (Code.region id l.toArray true).wpIn (E rd) r P Q a w := by
  simp only [Region.lexB, Bool.and_eq_true] at hB
  refine wpIn_region_any hm ?_
  have := wpAnyQ_lex (C := C) (md := .any) hB.1 l 0 (Array.replicate l.toArray.size false) a (by simp) (by simpa using hB.2) h
  refine anyIn_of_quiet (X := fun a' => ∀ w', C w' → Q .normal a' w') (fun a w hw h => h w hw) _ _ _ _ hC ?_
  simpa using this
end order

section quiet
variable {P : Program} {rd : Option Nat} {n : Nat} {ops : Array Oper} {rest : List Oper} {F : Fr} {ds : List Deferred} {C : World → Prop} {K : Fr → Prop} {ty : TypeId} {pos : String} {after : Array Edge}
/-- The head of a drawn region, operation by operation in the text's order, each with one value in every world of the class. -/
def Qst (P : Program) (n : Nat) (ops : Array Oper) (C : World → Prop) (K : Fr → Prop) (rest : List Oper) (F : Fr) (ds : List Deferred) : Prop :=
  ∀ a, Fits n F ds a → wpQuiet P ops C (fun a' => ∃ G, Fits n G ds a' ∧ K G) rest a

theorem W_draw {id : Nat} {l : List Oper} {Q : Post} {w : World} (m : Nat) (C : World → Prop) (hm : P.follows .mixedOrders = true) (hB : Region.lexTailB .any l.toArray m = true) (hC : C w.drew)
    (h : Qst P n l.toArray C (fun G => ∀ w', C w' → Lst P rd n l.toArray Q (l.drop m) G ds w') (l.take m) F ds) : W P rd n (.region id l.toArray true) Q F ds w := fun r a hf => by
  refine region_head_tail m hm hB hC ?_
  have key : ∀ (k : List Oper) (a : Act), wpQuiet P l.toArray C (fun a' => ∃ G, Fits n G ds a' ∧ ∀ w', C w' → Lst P rd n l.toArray Q (l.drop m) G ds w') k a →
      wpQuiet P l.toArray C (fun a' => ∀ w', C w' → wpListIn (E rd) r P l.toArray (lift n Q) (l.drop m) a' w') k a := by
    intro k
    induction k with
    | nil => rintro a ⟨G, hg, h⟩ w' hw'; exact h w' hw' r a hg
    | cons o k ih =>
      intro a h
      unfold wpQuiet at h ⊢
      split at h
      · rename_i hw; rw [if_pos hw]; exact Oper.quiet_mono (fun a => ih a) h
      · rename_i hw; rw [if_neg hw]; exact ih _ h
  exact key _ _ (h a hf)
theorem W_draws {id : Nat} {l : List Oper} {Q : Post} {w : World} (C : World → Prop) (hm : P.follows .mixedOrders = true) (hB : Region.lexB .any l.toArray = true) (hC : C w.drew)
    (h : Qst P n l.toArray C (fun G => ∀ w', C w' → Q .normal G ds w') l F ds) : W P rd n (.region id l.toArray true) Q F ds w := fun r a hf => by
  refine region_quiet (C := C) hm hB hC ?_
  have key : ∀ (k : List Oper) (a : Act), wpQuiet P l.toArray C (fun a' => ∃ G, Fits n G ds a' ∧ ∀ w', C w' → Q .normal G ds w') k a →
      wpQuiet P l.toArray C (fun a' => ∀ w', C w' → lift n Q .normal a' w') k a := by
    intro k
    induction k with
    | nil => rintro a ⟨G, hg, h⟩ w' hw'; exact ⟨G, ds, hg, h w' hw'⟩
    | cons o k ih =>
      intro a h
      unfold wpQuiet at h ⊢
      split at h
      · rename_i hw; rw [if_pos hw]; exact Oper.quiet_mono (fun a => ih a) h
      · rename_i hw; rw [if_neg hw]; exact ih _ h
  exact key _ _ (h a hf)

theorem Qst_nil (h : K F) : Qst P n ops C K [] F ds := fun _ hf => ⟨F, hf, h⟩
theorem Qst_value {o : Oper} {v : Value} (hg : o.guard = none) (hrun : ∀ w, C w → (execOp (ev F) o).run P w = .ok (.value v) w) (hd : okd n o.dst = true) (h : Qst P n ops C K rest (updO F o.dst v) ds) : Qst P n ops C K (o :: rest) F ds := fun a hf => by
  unfold wpQuiet
  rw [if_pos (wanted_none hg _)]
  refine ⟨v, fun w hw => ?_, h _ (hf.put v hd)⟩
  unfold Oper.quietAt
  rw [hf.eval, hrun w hw]
  exact ⟨rfl, rfl⟩
theorem Qst_pu {d : Nat} {op : Op} {v : Value} (h : Pu P F op ty v) (hd : Nat.blt d n = true) (k : Qst P n ops C K rest (upd F d v) ds) : Qst P n ops C K (⟨some d, op, ty, pos, after, none⟩ :: rest) F ds :=
  Qst_value rfl (fun _ _ => h _ _ _ _) hd k
theorem Qst_pu0 {op : Op} {v : Value} (h : Pu P F op ty v) (k : Qst P n ops C K rest F ds) : Qst P n ops C K (⟨none, op, ty, pos, after, none⟩ :: rest) F ds :=
  Qst_value rfl (fun _ _ => h _ _ _ _) rfl k
theorem Qst_call {d : Option Nat} {f : Operand} {as : List Operand} {cs : List Value} {g : Nat} {ts : Array TypeId} (v : Value) (hf : ev F f = .func (.func g) #[] cs.toArray) (hd : okd n d = true)
    (h : ∀ w, C w → Does P g (evs F as ++ cs).toArray w fun u w' => u = v ∧ C w') (k : Qst P n ops C K rest (updO F d v) ds) : Qst P n ops C K (⟨d, .call { callee := .value f, args := as.toArray, argTypes := ts }, ty, pos, after, none⟩ :: rest) F ds := fun a hF => by
  unfold wpQuiet
  rw [if_pos (wanted_none rfl _)]
  refine ⟨v, fun w hw => ?_, k _ (hF.put v hd)⟩
  unfold Oper.quietAt
  have e := (h w hw).1 (evs F as ++ cs).toArray w
  have e2 := map_evs (F := F) as
  have hrun : (execOp (ev F) ⟨d, .call { callee := .value f, args := as.toArray, argTypes := ts }, ty, pos, after, none⟩).run P w = .ok (.enter g (evs F as ++ cs).toArray) w := by
    simp only [execOp, resolve, hf, Deferred.ofValue, invoke, Sem.run_bind, Sem.run_pure, Result.andThen, e2]
    simpa using e
  rw [hF.eval, hrun]
  refine ⟨rfl, (h w hw).2.mono ?_⟩
  rintro e w' ⟨u, rfl, rfl, hc⟩
  exact ⟨rfl, hc⟩
theorem Qst_loadc {d : Nat} {x : Operand} {t : TypeId} {u : TypeDesc} {p : Addr} {v : Value} (hx : ev F x = .pointer (some p)) (ht : P.underlying t = some u) (hu : aggT u = false) (hv : ∀ w, C w → w.cell? p = some v) (hd : Nat.blt d n = true)
    (h : Qst P n ops C K rest (upd F d v) ds) : Qst P n ops C K (⟨some d, .load t x, ty, pos, after, none⟩ :: rest) F ds :=
  Qst_value rfl (fun w hw => by simp [execOp, hx, Instr.loadAt, Instr.sureAddr, loadVar, run_isAgg ht, hu, load, Sem.run, hv w hw]) hd h
theorem Qst_load {d : Nat} {x : Operand} {t e : TypeId} {u : TypeDesc} {b off : Nat} {l : List Value} {v : Value} (hx : ev F x = .pointer (some ⟨b, off, none⟩)) (ht : P.underlying t = some u) (hu : aggT u = false) (hb : ∀ w, C w → Blk w b l e) (hv : l[off]? = some v) (hd : Nat.blt d n = true)
    (h : Qst P n ops C K rest (upd F d v) ds) : Qst P n ops C K (⟨some d, .load t x, ty, pos, after, none⟩ :: rest) F ds :=
  Qst_loadc hx ht hu (fun w hw => ((hb w hw).cell off).trans hv) hd h
theorem wpQuiet_guard_t {l : List Oper} {dst : Option Nat} {op : Op} {j d : Nat} {b : Bool} (hj : dstOf l j = some d) (hF : F d = .bool b)
    (h : Qst P n l.toArray C K (⟨dst, op, ty, pos, after, none⟩ :: rest) F ds) : Qst P n l.toArray C K (⟨dst, op, ty, pos, after, some (j, b)⟩ :: rest) F ds := fun a hf => by
  have h1 := h a hf
  have hy := yielded_at hj hF hf
  unfold wpQuiet at h1 ⊢
  rw [if_pos (wanted_none rfl _)] at h1
  rw [if_pos (by simp [Region.wanted, hy])]
  exact h1
theorem Qst_guard_t {l : List Oper} {dst : Option Nat} {op : Op} {j d : Nat} {b : Bool} (hj : dstOf l j = some d) (hF : F d = .bool b)
    (h : Qst P n l.toArray C K (⟨dst, op, ty, pos, after, none⟩ :: rest) F ds) : Qst P n l.toArray C K (⟨dst, op, ty, pos, after, some (j, b)⟩ :: rest) F ds := wpQuiet_guard_t hj hF h
theorem Qst_guard_f {l : List Oper} {dst : Option Nat} {op : Op} {j d : Nat} {b c : Bool} (hj : dstOf l j = some d) (hF : F d = .bool c) (hbc : (c == b) = false) (hd : okd n dst = true)
    (h : Qst P n l.toArray C K rest (updO F dst undef) ds) : Qst P n l.toArray C K (⟨dst, op, ty, pos, after, some (j, b)⟩ :: rest) F ds := fun a hf => by
  have hy := yielded_at hj hF hf
  unfold wpQuiet
  rw [if_neg (by simpa [Region.wanted, hy] using hbc)]
  exact h _ (hf.put undef hd)
theorem Qst_guard_u {l : List Oper} {dst : Option Nat} {op : Op} {j d : Nat} {b : Bool} (hj : dstOf l j = some d) (hF : F d = undef) (hd : okd n dst = true)
    (h : Qst P n l.toArray C K rest (updO F dst undef) ds) : Qst P n l.toArray C K (⟨dst, op, ty, pos, after, some (j, b)⟩ :: rest) F ds := fun a hf => by
  have hy := yielded_undef hj hF hf
  unfold wpQuiet
  rw [if_neg (by simp [Region.wanted, hy])]
  exact h _ (hf.put undef hd)
end quiet
end Sx
namespace Sx
open Go Go.RowKit

/-- From A to A' nothing has turned but blocks from B on that hold no cells; new blocks may have come. -/
structure Calm (B : Nat) (A A' : World) : Prop where
  os : A'.os = A.os
  tape : A'.tape = A.tape
  output : A'.output = A.output
  size : A.heap.size ≤ A'.heap.size
  same : ∀ r o, A.heap[r]? = some o → (r < B ∨ o.isCells = true) → A'.heap[r]? = some o
/-- Likewise, and only walks' objects (maps, iterators) from B on may have turned. -/
structure CalmW (B : Nat) (A A' : World) : Prop where
  os : A'.os = A.os
  tape : A'.tape = A.tape
  output : A'.output = A.output
  size : A.heap.size ≤ A'.heap.size
  same : ∀ r o, A.heap[r]? = some o → (r < B ∨ o.isWalk = false) → A'.heap[r]? = some o
theorem CalmW.calm {B B' : Nat} {A A' : World} (h : CalmW B A A') (hb : B' ≤ B) : Calm B' A A' :=
  ⟨h.os, h.tape, h.output, h.size, fun r o ho hr => h.same r o ho (by
    rcases hr with hr | hr
    · exact .inl (by omega)
    · right; cases o <;> simp_all [Obj.isCells, Obj.isWalk])⟩
theorem Calm.refl (B : Nat) (A : World) : Calm B A A := ⟨rfl, rfl, rfl, Nat.le_refl _, fun _ _ h _ => h⟩
theorem CalmW.refl (B : Nat) (A : World) : CalmW B A A := ⟨rfl, rfl, rfl, Nat.le_refl _, fun _ _ h _ => h⟩
theorem Calm.trans {B : Nat} {X Y Z : World} (h : Calm B X Y) (k : Calm B Y Z) : Calm B X Z :=
  ⟨k.os.trans h.os, k.tape.trans h.tape, k.output.trans h.output, Nat.le_trans h.size k.size, fun r o ho hr => k.same r o (h.same r o ho hr) hr⟩
theorem CalmW.trans {B : Nat} {X Y Z : World} (h : CalmW B X Y) (k : CalmW B Y Z) : CalmW B X Z :=
  ⟨k.os.trans h.os, k.tape.trans h.tape, k.output.trans h.output, Nat.le_trans h.size k.size, fun r o ho hr => k.same r o (h.same r o ho hr) hr⟩
theorem lt_of_some {A : World} {r : Nat} {o : Obj} (h : A.heap[r]? = some o) : r < A.heap.size := (Array.getElem?_eq_some_iff.1 h).1
theorem Calm.alloc (B : Nat) (A : World) (o : Obj) : Calm B A (A.alloc o) :=
  ⟨rfl, rfl, rfl, by simp, fun r o' ho _ => (Below.heap_alloc A o r (lt_of_some ho)).trans ho⟩
theorem CalmW.alloc (B : Nat) (A : World) (o : Obj) : CalmW B A (A.alloc o) :=
  ⟨rfl, rfl, rfl, by simp, fun r o' ho _ => (Below.heap_alloc A o r (lt_of_some ho)).trans ho⟩
theorem Calm.put {B l : Nat} {A : World} {o : Obj} (o' : Obj) (hl : A.heap[l]? = some o) (hB : B ≤ l) (hc : o.isCells = false) : Calm B A (A.putObj l o') :=
  ⟨rfl, rfl, rfl, by simp, fun r x hx hr => by
    by_cases e : r = l
    · subst e
      rw [hl] at hx
      cases hx
      rcases hr with hr | hr
      · omega
      · rw [hc] at hr; cases hr
    · exact (World.putObj_heap_other e).trans hx⟩
theorem CalmW.put {B l : Nat} {A : World} {o : Obj} (o' : Obj) (hl : A.heap[l]? = some o) (hB : B ≤ l) (hc : o.isWalk = true) : CalmW B A (A.putObj l o') :=
  ⟨rfl, rfl, rfl, by simp, fun r x hx hr => by
    by_cases e : r = l
    · subst e
      rw [hl] at hx
      cases hx
      rcases hr with hr | hr
      · omega
      · rw [hc] at hr; cases hr
    · exact (World.putObj_heap_other e).trans hx⟩
theorem Calm.blk {B b : Nat} {A A' : World} {l : List Value} {e : TypeId} (h : Calm B A A') (hb : Blk A b l e) : Blk A' b l e := h.same b _ hb (.inr rfl)
theorem Calm.below {B n : Nat} {A A' X : World} (h : Calm B A A') (hb : Below n X A) (hn : n ≤ B) (hs : n ≤ X.heap.size) : Below n X A' :=
  hb.trans ⟨h.os, h.tape, h.output, h.size, fun k hk => by
    have hl : k < A.heap.size := by have := hb.size; omega
    obtain ⟨o, ho⟩ : ∃ o, A.heap[k]? = some o := ⟨_, Array.getElem?_eq_getElem hl⟩
    rw [ho]
    exact h.same k o ho (.inl (by omega))⟩
theorem Below.calm {n B : Nat} {A A' : World} (h : Below n A A') (hn : A.heap.size ≤ n) : Calm B A A' :=
  ⟨h.os, h.tape, h.output, h.size, fun r o ho _ => (h.block r (by have := lt_of_some ho; omega)).trans ho⟩

/-- THE CONTRACT OF AN ITERATOR: its k-th call of yield hands over enc k; it ends behind the m-th, or where a round says no more. Kp: what a round that goes on must keep for it. -/
def Gives (P : Program) (gf : Nat) (lb : Array Value) (m : Nat) (enc : Nat → Array Value) (Kp : World → World → Prop) (w : World) : Prop :=
  ∀ (l : Nat) (J Jx : Nat → World → Prop) (W1 : World), Below w.heap.size w W1 → (∀ k A A', J k A → CalmW W1.heap.size A A' → J k A') → (∀ k A A', Jx k A → CalmW W1.heap.size A A' → Jx k A') →
    (∀ k A, k < m → J k A → YieldAt Fence.wide 0 P l (enc k) A fun e A' => (e = .returned (.bool true) ∧ J (k + 1) A' ∧ Kp A A') ∨ (e = .returned (.bool false) ∧ Jx (k + 1) A')) →
    J 0 W1 → Calls P gf (#[.func (.yield l) #[] #[]] ++ lb) W1 fun e A' => (∃ v, e = .returned v) ∧ (J m A' ∨ ∃ k, 0 < k ∧ k ≤ m ∧ Jx k A')

/-- How a round may end. -/
def bodyQ (B : Nat) (Kp : World → World → Prop) (I : Nat → World → Prop) (Ix : Code → Nat → World → Prop) (k : Nat) (A : World) : Post
  | .normal, _, _, A' => KeepsFrom B A A' ∧ Kp A A' ∧ I (k + 1) A'
  | .ret, _, _, A' => KeepsFrom B A A' ∧ Ix .ret (k + 1) A'
  | .exit id, _, _, A' => KeepsFrom B A A' ∧ Ix (.exit id) (k + 1) A'
  | _, _, _, _ => False
def asgQ (vals : St) (A : World) : Post
  | .normal, F, ds, A' => ds = [] ∧ Has F vals ∧ A' = A
  | _, _, _, _ => False
/-- The frame with yield's arguments in the loop's parameters. -/
def params (F : Fr) : List Nat → List Value → Fr
  | p :: ps, v :: vs => params (upd F p v) ps vs
  | _, _ => F
def okPs (n : Nat) : List Nat → Bool
  | [] => true
  | p :: ps => Nat.blt p n && okPs n ps
theorem Fits.params {n : Nat} {F : Fr} {ds : List Deferred} : ∀ (ps : List Nat) (vs : List Value) {t : Array Value}, okPs n ps = true → Fits n F ds ⟨t, ds⟩ →
    Fits n (params F ps vs) ds ⟨(ps.zip vs).foldl (fun t x => t.setIfInBounds x.1 x.2) t, ds⟩ := by
  intro ps
  induction ps generalizing F with
  | nil => intro vs t _ h; cases vs <;> exact h
  | cons p ps ih =>
    intro vs t ho h
    cases vs with
    | nil => exact h
    | cons v vs =>
      simp only [okPs, Bool.and_eq_true] at ho
      simp only [List.zip_cons_cons, List.foldl_cons]
      exact ih vs ho.2 (Fits.put (o := some p) h v ho.1)

section range
variable {P : Program} {n : Nat} {Q : Post} {F : Fr} {ds : List Deferred} {w : World}

theorem W_range {g : Operand} {ps : List Nat} {assign body : Code} {gf : Nat} {lb : Array Value} (m : Nat) (enc : Nat → List Value) (Kp : World → World → Prop)
    (hg : ev F g = .func (.func gf) #[] lb) (hen : Enters P gf) (hps : okPs n ps = true) (hlen : ∀ k, (enc k).length = ps.length)
    (hseq : Gives P gf lb m (fun k => (enc k).toArray) Kp w) (hKt : ∀ {A B C : World}, Kp A B → Kp B C → Kp A C)
    (hKb : ∀ (A : World) (l : Nat) (r r' : Loop), w.heap.size ≤ l → A.heap[l]? = some (.loop r) → Kp A (A.putObj l (.loop r')))
    (I : Nat → World → Prop) (Ix : Code → Nat → World → Prop) (hI : ∀ k A A', I k A → Calm w.heap.size A A' → I k A') (hIx : ∀ c k A A', Ix c k A → Calm w.heap.size A A' → Ix c k A') (h0 : I 0 w)
    (vals : Nat → St)
    (hasg : ∀ l k A, k < m → W P (some l) n assign (asgQ (vals k) A) (params F ps (enc k)) [] A)
    (hbody : ∀ l k J A, k < m → I k A → W P (some l) n body (bodyQ w.heap.size Kp I Ix k A) (fr J (vals k)) [] A)
    (hdone : ∀ D A, w.heap.size ≤ D → I m A → A.heap[D]? = some (.deferred (some [])) → Q .normal F ({ target := .collected D, args := #[] } :: ds) A)
    (hstop : ∀ D c k A, w.heap.size ≤ D → 0 < k → k ≤ m → Ix c k A → A.heap[D]? = some (.deferred (some [])) → W P none n c Q F ({ target := .collected D, args := #[] } :: ds) A) :
    W P none n (.rangeFunc g ps.toArray assign body) Q F ds w := fun r a hf => by
  show (Code.rangeFunc g ps.toArray assign body).wpIn Fence.wide r P (lift n Q) a w
  refine wpIn_rangeFunc ?_
  intro fn _
  let rec_ : LoopState → Option Code → Loop := fun st pe => { state := st, pending := pe, fn, tmps := a.tmps, params := ps.toArray, assign, body, defers := w.heap.size }
  obtain ⟨W1, hW1⟩ : ∃ W1, (w.alloc (.deferred (some []))).alloc (.loop (rec_ .ready none)) = W1 := ⟨_, rfl⟩
  have hL1 : W1.heap[w.heap.size + 1]? = some (.loop (rec_ .ready none)) := by
    rw [← hW1]
    have := World.alloc_heap_new (w.alloc (.deferred (some []))) (.loop (rec_ .ready none))
    rwa [World.size_alloc] at this
  have hK1 : W1.heap[w.heap.size]? = some (.deferred (some [])) := by
    rw [← hW1]
    exact (Below.heap_alloc _ _ _ (by simp)).trans (World.alloc_heap_new w _)
  have hc1 : Calm w.heap.size w W1 := by rw [← hW1]; exact (Calm.alloc _ _ _).trans (Calm.alloc _ _ _)
  have hb1 : Below w.heap.size w W1 := by
    rw [← hW1]
    exact ((Below.refl _ w).alloc (Nat.le_refl _) _).alloc (by simp) _
  have hs1 : W1.heap.size = w.heap.size + 2 := by rw [← hW1]; simp
  have hga : a.eval g = .func (.func gf) #[] lb := by rw [hf.eval]; exact hg
  refine ⟨w.heap.size + 1, [{ target := .collected w.heap.size, args := #[] }], W1, { target := .fn (.func gf) lb, args := #[.func (.yield (w.heap.size + 1)) #[] #[]] }, W1, gf,
    #[.func (.yield (w.heap.size + 1)) #[] #[]] ++ lb, W1, ?_, ?_, (fun _ _ => trivial), ?_, (fun h => (by cases h)), ?_⟩
  · rw [← hW1]; exact run_enterLoop_outer _ _ _ _ _
  · simp only [resolve, hga]
    simp [go_sem]
  · simp only [invoke]; exact hen _ _
  · refine callsIn_wide.2 ?_
    have hst : ∀ (J : Nat → World → Prop) (f : Code → Prop), True := fun _ _ => trivial
    clear hst
    refine (hseq (w.heap.size + 1)
      (fun k A => I k A ∧ A.heap[w.heap.size + 1]? = some (.loop (rec_ .ready none)) ∧ A.heap[w.heap.size]? = some (.deferred (some [])))
      (fun k A => ∃ c, Ix c k A ∧ A.heap[w.heap.size + 1]? = some (.loop (rec_ .done (some c))) ∧ A.heap[w.heap.size]? = some (.deferred (some [])))
      W1 hb1
      (fun k A A' h hc => ⟨hI k A A' h.1 (hc.calm (by omega)), hc.same _ _ h.2.1 (.inr rfl), hc.same _ _ h.2.2 (.inr rfl)⟩)
      (fun k A A' ⟨c, h1, h2, h3⟩ hc => ⟨c, hIx c k A A' h1 (hc.calm (by omega)), hc.same _ _ h2 (.inr rfl), hc.same _ _ h3 (.inr rfl)⟩)
      ?_ ⟨hI _ _ _ h0 hc1, hL1, hK1⟩).mono ?_
    · rintro k A hk ⟨hi, hl, hd⟩
      have hy := run_yield (P := P) (args := (enc k).toArray) hl (by simp [rec_, hlen])
      refine ⟨fn, _, assign, body, hy, ?_⟩
      refine roundIn_of_wpIn (F := Fence.wide) trivial ?_
      have hfit : Fits n (params F ps (enc k)) [] ⟨(ps.zip (enc k)).foldl (fun t x => t.setIfInBounds x.1 x.2) a.tmps, []⟩ :=
        Fits.params ps (enc k) hps ⟨hf.size, rfl, hf.slot⟩
      have ha := hasg (w.heap.size + 1) k A hk 0 _ hfit
      have e : (((ps.toArray.zip (enc k).toArray).foldl (fun tmps (x : Nat × Value) => tmps.setIfInBounds x.1 x.2) a.tmps)) = (ps.zip (enc k)).foldl (fun t x => t.setIfInBounds x.1 x.2) a.tmps := by simp
      show assign.wpIn (Fence.wide.inRound (w.heap.size + 1)) 0 P _ { tmps := (ps.toArray.zip (enc k).toArray).foldl (fun tmps (x : Nat × Value) => tmps.setIfInBounds x.1 x.2) a.tmps, defers := [] } A
      rw [e]
      refine Code.wpIn_mono ?_ ha
      rintro e a1 A1 ⟨F1, ds1, hf1, hq⟩
      cases e with
      | normal =>
        obtain ⟨rfl, hv, rfl⟩ := hq
        have hlt := lt_of_some hl
        refine ⟨_, run_beginRound hl rfl, ?_⟩
        have hl2 : (A1.putObj (w.heap.size + 1) (.loop { rec_ .ready none with state := .busy })).heap[w.heap.size + 1]? = some (.loop { rec_ .ready none with state := .busy }) := World.putObj_heap_same hlt
        have hd2 : (A1.putObj (w.heap.size + 1) (.loop { rec_ .ready none with state := .busy })).heap[w.heap.size]? = some (.deferred (some [])) := (World.putObj_heap_other (by omega)).trans hd
        have hp2 := hKb A1 (w.heap.size + 1) _ { rec_ .ready none with state := .busy } (by omega) hl
        have hb := hbody (w.heap.size + 1) k F1 _ hk (hI _ _ _ hi (Calm.put (.loop { rec_ .ready none with state := .busy }) hl (by omega) rfl)) 0 a1 (hf1.congr (fr_has hv))
        refine Code.wpIn_mono ?_ hb
        have fin : ∀ (jump : Option Code) (A3 : World), KeepsFrom w.heap.size (A1.putObj (w.heap.size + 1) (.loop { rec_ .ready none with state := .busy })) A3 →
            (Instr.endRound (w.heap.size + 1) jump).run P A3 = .ok (.bool jump.isNone) (A3.putObj (w.heap.size + 1) (.loop (rec_ (if jump.isNone then .ready else .done) jump))) ∧
            A3.heap[w.heap.size + 1]? = some (.loop { rec_ .ready none with state := .busy }) ∧
            (A3.putObj (w.heap.size + 1) (.loop (rec_ (if jump.isNone then .ready else .done) jump))).heap[w.heap.size + 1]? = some (.loop (rec_ (if jump.isNone then .ready else .done) jump)) ∧
            (A3.putObj (w.heap.size + 1) (.loop (rec_ (if jump.isNone then .ready else .done) jump))).heap[w.heap.size]? = some (.deferred (some [])) := fun jump A3 hk3 => by
          have hl3 := hk3.same _ _ (by omega) hl2 rfl
          have hd3 := hk3.same _ _ (Nat.le_refl _) hd2 rfl
          exact ⟨run_endRound (P := P) jump hl3, hl3, World.putObj_heap_same (lt_of_some hl3), (World.putObj_heap_other (by omega)).trans hd3⟩
        rintro e a3 A3 ⟨F3, ds3, _, hq3⟩
        cases e with
        | normal =>
          obtain ⟨hk3, hkp, hi3⟩ := hq3
          obtain ⟨hr, hl3, hl4, hd4⟩ := fin none A3 hk3
          exact ⟨_, _, hr, .inl ⟨rfl, ⟨hI _ _ _ hi3 (Calm.put _ hl3 (by omega) rfl), hl4, hd4⟩, hKt (hKt hp2 hkp) (hKb A3 _ _ _ (by omega) hl3)⟩⟩
        | ret =>
          obtain ⟨hk3, hi3⟩ := hq3
          obtain ⟨hr, hl3, hl4, hd4⟩ := fin (some .ret) A3 hk3
          exact ⟨_, _, hr, .inr ⟨rfl, .ret, hIx _ _ _ _ hi3 (Calm.put _ hl3 (by omega) rfl), hl4, hd4⟩⟩
        | exit id =>
          obtain ⟨hk3, hi3⟩ := hq3
          obtain ⟨hr, hl3, hl4, hd4⟩ := fin (some (.exit id)) A3 hk3
          exact ⟨_, _, hr, .inr ⟨rfl, .exit id, hIx _ _ _ _ hi3 (Calm.put _ hl3 (by omega) rfl), hl4, hd4⟩⟩
        | goto t => exact hq3.elim
        | panic ch => exact hq3.elim
        | outgrown => exact hq3.elim
      | ret => exact hq.elim
      | exit id => exact hq.elim
      | goto t => exact hq.elim
      | panic ch => exact hq.elim
      | outgrown => exact hq.elim
    · rintro e A ⟨⟨v, rfl⟩, h⟩
      rcases h with ⟨hi, hl, hd⟩ | ⟨k, hk0, hkm, c, hi, hl, hd⟩
      · have hr := run_endLoop (P := P) hl (by simp [rec_])
        refine ⟨none, _, hr, ?_⟩
        have hq := hdone w.heap.size _ (Nat.le_refl _) (hI _ _ _ hi (Calm.put (.loop { rec_ .ready none with state := .exhausted }) hl (by omega) rfl)) ((World.putObj_heap_other (by omega)).trans hd)
        exact ⟨F, _, ⟨hf.size, by rw [hf.defers]; rfl, hf.slot⟩, hq⟩
      · have hr := run_endLoop (P := P) hl (by simp [rec_])
        refine ⟨some c, _, hr, ?_⟩
        have hq := hstop w.heap.size c k _ (Nat.le_refl _) hk0 hkm (hIx _ _ _ _ hi (Calm.put (.loop { rec_ .done (some c) with state := .exhausted }) hl (by omega) rfl)) ((World.putObj_heap_other (by omega)).trans hd)
        exact hq r _ ⟨hf.size, by rw [hf.defers]; rfl, hf.slot⟩

/-! ### A call of yield -/
theorem E_round_in {rd : Option Nat} {m m' : Nat} {l : Nat} {f : FuncId} {tmps : Array Value} {assign body : Code} {R : Ending → World → Prop} (h : RoundIn Fence.wide m P l f tmps assign body w R) : RoundIn (E rd) m' P l f tmps assign body w R := by
  cases rd with
  | none => exact ⟨trivial, fun c cs _ => h.2 c cs (room_wide _)⟩
  | some l => exact ⟨trivial, fun c cs _ => h.2 c cs (room_wide _)⟩
theorem Lst_yield {rd : Option Nat} {ops : Array Oper} {rest : List Oper} {ty : TypeId} {pos : String} {after : Array Edge} {d : Option Nat} {x : Operand} {as : List Operand} {l : Nat} {ts : Array TypeId} (hx : ev F x = .func (.yield l) #[] #[]) (hd : okd n d = true)
    (h : YieldAt Fence.wide 0 P l (evs F as).toArray w fun e w' => ∃ v, e = .returned v ∧ Lst P rd n ops Q rest (updO F d v) ds w') : Lst P rd n ops Q (⟨d, .call { callee := .value x, args := as.toArray, argTypes := ts }, ty, pos, after, none⟩ :: rest) F ds w := fun m a hf => by
  obtain ⟨fn, tmps, assign, body, hy, hr⟩ := h
  unfold wpListIn
  rw [if_pos (wanted_none rfl _)]
  refine ⟨fun f _ => E_fn rd f, ?_⟩
  have e2 := map_evs (F := F) as
  have hrun : (execOp (ev F) ⟨d, .call { callee := .value x, args := as.toArray, argTypes := ts }, ty, pos, after, none⟩).run P w = .ok (.round l fn tmps assign body) w := by
    simp only [execOp, resolve, hx, Deferred.ofValue, invoke, Sem.run_bind, Sem.run_pure, Result.andThen, e2]
    simpa using hy
  rw [hf.eval, sem_same (no_defer hrun (by simp)), hrun, Oper.uponIn_round]
  refine ⟨E_one rd m, E_round_in (hr.mono ?_)⟩
  rintro e w2 ⟨v, rfl, hl⟩
  exact hl m _ (hf.put v hd)

/-! ### A function whose activation holds such loops -/
def leaveQ (P : Program) (rs : List ResultVar) (R : Value → World → Prop) (F : Fr) : List Deferred → World → Prop
  | [], w => ∃ vs, retV F P w rs vs ∧ R (oneOrMore vs) w
  | d :: ds, w => ∃ D, d.target = .collected D ∧ w.heap[D]? = some (.deferred (some [])) ∧ leaveQ P rs R F ds (w.putObj D (.deferred none))
def retM (P : Program) (rs : List ResultVar) (R : Value → World → Prop) : Post
  | .ret, F, ds, w | .normal, F, ds, w => leaveQ P rs R F ds w
  | _, _, _, _ => False
theorem retM1 {R : Value → World → Prop} {t D : Nat} {v : Value} (hD : w.heap[D]? = some (.deferred (some []))) (hv : F t = v) (h : R v (w.putObj D (.deferred none))) : retM P [.tmp t] R .ret F [{ target := .collected D, args := #[] }] w := ⟨D, rfl, hD, [v], ⟨hv, trivial⟩, h⟩
theorem retM2 {R : Value → World → Prop} {t u D : Nat} {v x : Value} (hD : w.heap[D]? = some (.deferred (some []))) (hv : F t = v) (hx : F u = x) (h : R (.tuple #[v, x]) (w.putObj D (.deferred none))) : retM P [.tmp t, .tmp u] R .ret F [{ target := .collected D, args := #[] }] w := ⟨D, rfl, hD, [v, x], ⟨hv, hx, trivial⟩, h⟩
theorem retM1p {R : Value → World → Prop} {t : Nat} {v : Value} (hv : F t = v) (h : R v w) : retM P [.tmp t] R .ret F [] w := ⟨[v], ⟨hv, trivial⟩, h⟩
theorem retM2p {R : Value → World → Prop} {t u : Nat} {v x : Value} (hv : F t = v) (hx : F u = x) (h : R (.tuple #[v, x]) w) : retM P [.tmp t, .tmp u] R .ret F [] w := ⟨[v, x], ⟨hv, hx, trivial⟩, h⟩
theorem leaves {fn : Func} {rs : List ResultVar} {R : Value → World → Prop} (hr : fn.results = rs.toArray) (h4 : rs.length ≤ 4) {t : Array Value} (hs : ∀ i, t.getD i undef = F i) (hz : t.size = n) : ∀ (ds : List Deferred) (w : World), leaveQ P rs R F ds w →
    LeavesInM Fence.wide 0 P fn t (fun e w' => ∃ v, e = .returned v ∧ R v w') ds .returning w := by
  intro ds
  induction ds with
  | nil =>
    rintro w ⟨vs, hv, hR⟩
    exact ⟨_, run_results (a := ⟨t, []⟩) hr h4 (⟨hz, rfl, hs⟩ : Fits n F [] ⟨t, []⟩) hv, _, rfl, hR⟩
  | cons d ds ih =>
    rintro w ⟨D, hd, hD, h⟩
    exact ⟨by simp, .inl ⟨D, _, hd, run_takeDeferred hD, ih _ h⟩⟩
theorem Does_of_marks {f : Nat} {fn : Func} {c : Code} {rs : List ResultVar} {args : List Value} {R : Value → World → Prop} (hf : P.funcs[f]? = some fn) (hname : (fn.name == "runtime.NumGoroutine") = false)
    (hb : fn.body = some c) (hr : fn.results = rs.toArray) (hn : fn.ntmps = n) (hl : Nat.ble args.length n = true) (h4 : Nat.ble rs.length 4 = true) (h : W P none n c (retM P rs R) (start args) [] w) : Does P f args.toArray w R := by
  refine ⟨enters_of hf hname hb, callsIn_wide.1 (callsIn_of_wp_marks (F := Fence.wide) (n := 0) hf hb trivial ?_ rfl)⟩
  have hl' : args.length ≤ n := by simpa using hl
  refine Code.wpIn_mono (fun e a w hq => ?_) (h 0 _ ⟨by simp [hn]; omega, rfl, fun i => start_eq args _ i⟩)
  obtain ⟨G, ds, hg, hq⟩ := hq
  cases e with
  | normal => show LeavesInM _ _ _ _ _ _ a.defers _ _; rw [hg.defers]; exact leaves hr (by simpa using h4) hg.slot hg.size ds w hq
  | ret => show LeavesInM _ _ _ _ _ _ a.defers _ _; rw [hg.defers]; exact leaves hr (by simpa using h4) hg.slot hg.size ds w hq
  | exit i => exact hq.elim
  | goto l => exact hq.elim
  | panic ch => exact hq.elim
  | outgrown => exact hq.elim
end range
end Sx
namespace Sx
open Go Go.RowKit

section mem
variable {P : Program} {rd : Option Nat} {n : Nat} {ops : Array Oper} {Q : Post} {rest : List Oper} {F : Fr} {ds : List Deferred} {w : World} {ty : TypeId} {pos : String} {after : Array Edge}

theorem Blk.grown {b : Nat} {l : List Value} {e : TypeId} {w' : World} {row : Option Nat} (h : Blk w b l e) (hg : w.grownBy w' row) (hne : ∀ k, row = some k → k ≠ b) : Blk w' b l e :=
  (hg.block b h.lt (fun e => hne b e.symm rfl)).trans h
theorem own_ne {base : Nat} {e : TypeId} {size nn : Nat} {v : Value} {xs : List Value} (h : w.ownsRow base e size v nn xs) {b : Nat} (hb : b < base) : ∀ k, v.ownBlock = some k → k ≠ b := fun k hk => by
  have := (h.lt k hk).1
  omega

/-- []T{x}: a literal of one element. -/
theorem Lst_lit1 {d t e B : Nat} {x : Operand} {i : TypeInfo} {v z : Value} {cs : List Value} (hx : Fc (ev F x) v) (ht : P.underlying t = some (.slice e)) (hi : P.info? e = some i) (hz : i.zero = some z) (hzc : z.cells.size = i.size) (hc : v.cells = cs.toArray) (hl : cs.length = i.size) (hs : Nat.ble i.size 4096 = true) (h1 : Nat.ble 1 i.size = true) (hB : w.heap.size = B) (hd : Nat.blt d n = true)
    (h : Lst P rd n ops Q rest (upd F d (.slice (some ⟨B, 0, none⟩) 1 1)) ds (w.alloc (.cells cs.toArray e))) : Lst P rd n ops Q (⟨some d, .buildSlice t 1 #[(0, x)], ty, pos, after, none⟩ :: rest) F ds w :=
  Lst_value rfl (by
    subst hB
    have hs' : i.size ≤ 4096 := by simpa using hs
    have h1' : 1 ≤ i.size := by simpa using h1
    have hsz : (sizeOf e).run P w = .ok i.size w := by simp [sizeOf, typeInfo, hi]
    have hzv : (zeroValue e).run P w = .ok z w := by simp [zeroValue, typeInfo, hi, hz]
    have hfill : Instr.fill (fun j => some (j * i.size, i.size)) ((Array.range (1 * i.size)).map (z.cells[· % z.cells.size]!)) [(0, v)] = some cs.toArray := by
      have e1 : ¬ (v.cells.size ≠ i.size ∨ 0 * i.size + v.cells.size > ((Array.range (1 * i.size)).map (z.cells[· % z.cells.size]!)).size) := by
        rw [hc]; simp [hl]
      simp only [Instr.fill]
      rw [if_neg (by simpa using e1)]
      congr 1
      rw [hc]
      have key : ∀ (l : List Value) (k : Nat) (acc : Array Value), k + l.length ≤ acc.size →
          ((l.zipIdx k).foldl (fun cs (x : Value × Nat) => cs.setIfInBounds (0 * i.size + x.2) x.1) acc).toList = acc.toList.take k ++ l ++ acc.toList.drop (k + l.length) := by
        intro l
        induction l with
        | nil => intro k acc _; simp
        | cons y l ih =>
          intro k acc hk
          simp only [List.length_cons] at hk
          rw [List.zipIdx_cons, List.foldl_cons, ih (k + 1) _ (by simp; omega)]
          have hkl : k < acc.toList.length := by simp; omega
          simp only [Nat.zero_mul, Nat.zero_add, Array.toList_setIfInBounds]
          rw [List.take_succ_eq_append_getElem (by simp; omega), List.take_set_of_le (Nat.le_refl k), List.getElem_set_self, List.drop_set_of_lt (by omega)]
          simp only [List.append_assoc, List.length_cons, List.cons_append, List.nil_append]
          rw [show k + 1 + l.length = k + (l.length + 1) by omega]
      apply Array.toList_inj.1
      have := key cs 0 ((Array.range (1 * i.size)).map (z.cells[· % z.cells.size]!)) (by simp [hl])
      rw [← Array.foldl_toList, Array.toList_zipIdx]
      rw [this]
      simp [hl]
    simp [execOp, hx.eq, Instr.buildSlice, run_underlying ht, hsz, show ¬ (i.size > 2 ^ 24) by omega, show ¬ (i.size = 0) by omega, hzv, newRow]
    simp at hfill
    rw [hfill]
    simp) hd h

/-- append(s, x...) where s is nil or a row of the call's own. -/
theorem Lst_append {d : Nat} {s x : Operand} {t e base size bytes nn m c B off : Nat} {i : TypeInfo} {z v : Value} {xs news : List Value} (hs : ev F s = v) (hx : ev F x = .slice (some ⟨B, off, none⟩) m c) (ht : P.underlying t = some (.slice e)) (hi : P.info? e = some i) (hz : i.zero = some z)
    (hsize : i.size = size) (hby : i.bytes = bytes) (hzs : z.cells.size = size) (hsz : Nat.ble 1 size = true) (hown : w.ownsRow base e size v nn xs) (hnews : ∀ j u, news[j]? = some u → w.cell? ⟨B, off + j, none⟩ = some u) (hl : news.length = m * size) (h1 : ∀ u ∈ news, u.oneCell' = true)
    (h63 : nn + m ≤ 9223372036854775807) (hbytes : (nn + m) * bytes ≤ 140737488355328) (hbase : base ≤ w.heap.size) (hd : Nat.blt d n = true)
    (h : ∀ v' w', w'.ownsRow base e size v' (nn + m) (xs ++ news) → w.grownBy w' v.ownBlock → (v' = .slice none 0 0 ↔ v = .slice none 0 0 ∧ m = 0) → Lst P rd n ops Q rest (upd F d v') ds w') :
    Lst P rd n ops Q (⟨some d, .call { callee := .builtin .append, args := #[s, x], argTypes := #[t, t] }, ty, pos, after, none⟩ :: rest) F ds w := by
  have hsz' : 0 < size := by have : 1 ≤ size := by simpa using hsz
                             omega
  obtain ⟨v', w', hrun, h2, h3, h4⟩ := run_append_own (P := P) w base t ty e i z size bytes ht hi hz hsize hby hzs hsz' v nn xs hown ⟨B, off, none⟩ m c news hl (fun j u hu => by
    have := hnews j u hu
    by_cases hj : j = 0
    · subst hj; simpa [Addr.add] using this
    · simpa [Addr.add, hj] using this) h1 (by simp only [maxLen]; omega) hbytes hbase
  refine Lst_value (v := v') (w' := w') rfl ?_ hd (h v' w' h2 h3 h4)
  simp [execOp, resolve, invoke, builtin, hs, hx, hrun]

/-- append(s, x...) of nothing. -/
theorem Lst_append0 {d : Nat} {s x : Operand} {t e base size bytes nn c : Nat} {a : Addr} {i : TypeInfo} {z v : Value} {xs : List Value} (hs : ev F s = v) (hx : ev F x = .slice (some a) 0 c) (ht : P.underlying t = some (.slice e)) (hi : P.info? e = some i) (hz : i.zero = some z)
    (hsize : i.size = size) (hby : i.bytes = bytes) (hzs : z.cells.size = size) (hsz : Nat.ble 1 size = true) (hown : w.ownsRow base e size v nn xs)
    (h63 : nn ≤ 9223372036854775807) (hbytes : nn * bytes ≤ 140737488355328) (hbase : base ≤ w.heap.size) (hd : Nat.blt d n = true)
    (h : ∀ v' w', w'.ownsRow base e size v' nn xs → w.grownBy w' v.ownBlock → Lst P rd n ops Q rest (upd F d v') ds w') :
    Lst P rd n ops Q (⟨some d, .call { callee := .builtin .append, args := #[s, x], argTypes := #[t, t] }, ty, pos, after, none⟩ :: rest) F ds w := by
  have hsz' : 0 < size := by have : 1 ≤ size := by simpa using hsz
                             omega
  obtain ⟨v', w', hrun, h2, h3, _⟩ := run_append_own (P := P) w base t ty e i z size bytes ht hi hz hsize hby hzs hsz' v nn xs hown a 0 c [] (by simp) (fun j u hu => by simp at hu) (fun u hu => by simp at hu) (by simp only [maxLen]; omega) hbytes hbase
  rw [List.append_nil, Nat.add_zero] at h2
  refine Lst_value (v := v') (w' := w') rfl ?_ hd (h v' w' h2 h3)
  simp [execOp, resolve, invoke, builtin, hs, hx, hrun]
theorem add_none (b off k : Nat) : (⟨b, off, none⟩ : Addr).add k = ⟨b, off + k, none⟩ := by
  by_cases h : k = 0
  · subst h; rfl
  · simp [Addr.add, h]
/-- The address of an element of a slice. -/
theorem P_idx {t e b off len c : Nat} {x ix : Operand} {k : IntKind} {q : Int} {i : TypeInfo} {sz : Nat} (hx : ev F x = .slice (some ⟨b, off, none⟩) len c) (hq : ev F ix = .int k q) (ht : P.underlying t = some (.slice e)) (hi : P.info? e = some i) (hs : i.size = sz) (h0 : 0 ≤ q) (h1 : q < len) :
    Pu P F (.indexAddr t x ix) ty (.pointer (some ⟨b, off + q.toNat * sz, none⟩)) := fun dst pos after w => by
  have hsz : (sizeOf e).run P w = .ok sz w := by simp [sizeOf, typeInfo, hi, hs]
  simp [execOp, hx, hq, Instr.indexAt, asIntOf, run_underlying ht, h0, h1, hsz, add_none]
theorem P_idx1 {t e b off len c j : Nat} {x ix : Operand} {k : IntKind} {i : TypeInfo} (hx : ev F x = .slice (some ⟨b, off, none⟩) len c) (hq : ev F ix = .int k (j : Int)) (ht : P.underlying t = some (.slice e)) (hi : P.info? e = some i) (hs : i.size = 1) (h1 : j < len) :
    Pu P F (.indexAddr t x ix) ty (.pointer (some ⟨b, off + j, none⟩)) := by
  have := P_idx (ty := ty) hx hq ht hi hs (by omega) (by omega)
  simpa using this
/-! ### A row of its own, kept -/
theorem own_keep {w w' : World} {base : Nat} {e : TypeId} {size nn : Nat} {v : Value} {xs : List Value} (h : w.ownsRow base e size v nn xs) (hk : ∀ g o, base ≤ g → w.heap[g]? = some o → o.isCells = true → w'.heap[g]? = some o) : w'.ownsRow base e size v nn xs := by
  obtain ⟨hl, h⟩ := h
  refine ⟨hl, ?_⟩
  rcases h with h | ⟨g, cap, cur, hv, hb, hg, h⟩
  · exact .inl h
  · exact .inr ⟨g, cap, cur, hv, hb, hk g _ hb hg rfl, h⟩
theorem own_slice {w : World} {base : Nat} {e : TypeId} {size nn : Nat} {v : Value} {xs : List Value} (h : w.ownsRow base e size v nn xs) : ∃ a m c, v = .slice a m c := by
  obtain ⟨_, h⟩ := h
  rcases h with ⟨rfl, _⟩ | ⟨g, cap, cur, rfl, _⟩
  · exact ⟨_, _, _, rfl⟩
  · exact ⟨_, _, _, rfl⟩
theorem own_form {w : World} {base : Nat} {e : TypeId} {size nn : Nat} {v : Value} {xs : List Value} (h : w.ownsRow base e size v nn xs) : ∃ a c, v = .slice a nn c ∧ nn ≤ c := by
  obtain ⟨_, h⟩ := h
  rcases h with ⟨rfl, rfl⟩ | ⟨g, cap, cur, rfl, _, _, hc, _⟩
  · exact ⟨_, _, rfl, Nat.le_refl _⟩
  · exact ⟨_, _, rfl, hc⟩
theorem own_calm {B : Nat} {w w' : World} {base : Nat} {e : TypeId} {size nn : Nat} {v : Value} {xs : List Value} (h : w.ownsRow base e size v nn xs) (hc : Calm B w w') : w'.ownsRow base e size v nn xs :=
  own_keep h fun _ o _ hg ho => hc.same _ o hg (.inr ho)
theorem own_alloc {w : World} {base : Nat} {e : TypeId} {size nn : Nat} {v : Value} {xs : List Value} (h : w.ownsRow base e size v nn xs) (o : Obj) : (w.alloc o).ownsRow base e size v nn xs :=
  own_keep h fun g _ _ hg _ => (Below.heap_alloc w o g (lt_of_some hg)).trans hg
theorem own_put {w : World} {base b : Nat} {e : TypeId} {size nn : Nat} {v : Value} {xs : List Value} (h : w.ownsRow base e size v nn xs) (hb : b < base) (o : Obj) : (w.putObj b o).ownsRow base e size v nn xs :=
  own_keep h fun _ _ hg hx _ => (World.putObj_heap_other (by omega)).trans hx
theorem own_drew {w : World} {base : Nat} {e : TypeId} {size nn : Nat} {v : Value} {xs : List Value} (h : w.ownsRow base e size v nn xs) : w.drew.ownsRow base e size v nn xs := h
theorem own_below {m : Nat} {w w' : World} {base : Nat} {e : TypeId} {size nn : Nat} {v : Value} {xs : List Value} (h : w.ownsRow base e size v nn xs) (hb : Below m w w') (hm : w.heap.size ≤ m) : w'.ownsRow base e size v nn xs :=
  own_keep h fun g _ _ hx _ => (hb.block g (by have := lt_of_some hx; omega)).trans hx
/-- append(s, x): one element more. -/
theorem Lst_push {d0 d t e base size bytes nn : Nat} {x s y : Operand} {i : TypeInfo} {v xv z : Value} {cs xs : List Value} {ty' : TypeId} {pos' : String} {after' : Array Edge} (hown : w.ownsRow base e size v nn xs) (hx : Fc (ev F x) xv) (ht : P.underlying t = some (.slice e)) (hi : P.info? e = some i) (hz : i.zero = some z)
    (hsize : i.size = size) (hby : i.bytes = bytes) (hzs : z.cells.size = size) (hc : xv.cells = cs.toArray) (hl : cs.length = size) (hs : Nat.ble size 4096 = true) (h1 : Nat.ble 1 size = true) (hone : ∀ u ∈ cs, u.oneCell' = true) (hd0 : Nat.blt d0 n = true)
    (hsv : ev (upd F d0 (.slice (some ⟨w.heap.size, 0, none⟩) 1 1)) s = v) (hy : ev (upd F d0 (.slice (some ⟨w.heap.size, 0, none⟩) 1 1)) y = .slice (some ⟨w.heap.size, 0, none⟩) 1 1) (hd : Nat.blt d n = true)
    (h63 : nn + 1 ≤ 9223372036854775807) (hbytes : (nn + 1) * bytes ≤ 140737488355328) (hbase : base ≤ w.heap.size)
    (h : ∀ v' w', w'.ownsRow base e size v' (nn + 1) (xs ++ cs) → w.grownBy w' v.ownBlock → v' ≠ .slice none 0 0 → Lst P rd n ops Q rest (upd (upd F d0 (.slice (some ⟨w.heap.size, 0, none⟩) 1 1)) d v') ds w') :
    Lst P rd n ops Q (⟨some d0, .buildSlice t 1 #[(0, x)], ty', pos', after', none⟩ :: ⟨some d, .call { callee := .builtin .append, args := #[s, y], argTypes := #[t, t] }, ty, pos, after, none⟩ :: rest) F ds w := by
  refine Lst_lit1 hx ht hi hz (hzs.trans hsize.symm) hc (hl.trans hsize.symm) (by rw [hsize]; exact hs) (by rw [hsize]; exact h1) rfl hd0 ?_
  refine Lst_append (news := cs) hsv hy ht hi hz hsize hby hzs h1 (own_alloc hown _) (fun j u hu => ((Blk.new w _ _).cell (0 + j)).trans (by simpa using hu)) (by rw [hl, Nat.one_mul]) hone h63 hbytes (by rw [World.size_alloc]; omega) hd (fun v' w' h1 h2 h3 => h v' w' h1 ?_ ?_)
  · refine ⟨h2.os, h2.tape, h2.output, Nat.le_trans (by rw [World.size_alloc]; omega) h2.size, fun k hk hne => (h2.block k (by rw [World.size_alloc]; omega) hne).trans (Below.heap_alloc w _ k hk)⟩
  · intro e
    have := (h3.1 e).2
    omega
/-- A slice of whole numbers that is only read. -/
def Ints (w : World) (k : IntKind) (v : Value) (zs : List Int) : Prop :=
  ∃ b off cap, (v = .slice (some ⟨b, off, none⟩) zs.length cap ∨ ((∃ a, v = .slice a 0 0) ∧ zs = [])) ∧ (zs ≠ [] → b < w.heap.size) ∧ ∀ j (h : j < zs.length), w.cell? ⟨b, off + j, none⟩ = some (.int k zs[j])
theorem Ints.below {k : IntKind} {v : Value} {zs : List Int} {B : Nat} {w' : World} (h : Ints w k v zs) (hb : Below B w w') (hB : w.heap.size ≤ B) : Ints w' k v zs := by
  obtain ⟨b, off, cap, h1, h2, h3⟩ := h
  refine ⟨b, off, cap, h1, fun hz => by have := h2 hz; have := hb.size; omega, fun j hj => ?_⟩
  have := h2 (by intro e; subst e; simp at hj)
  exact (hb.cell (p := ⟨b, off + j, none⟩) (by show b < B; omega)).trans (h3 j hj)
theorem Ints.of_own {base e nn : Nat} {v : Value} {k : IntKind} {zs : List Int} (h : w.ownsRow base e 1 v nn (zs.map (Value.int k))) : Ints w k v zs := by
  obtain ⟨hl, h⟩ := h
  simp at hl
  rcases h with ⟨rfl, hn⟩ | ⟨g, cap, cur, rfl, _, hg, _, _, hs, ht⟩
  · have hz : zs = [] := List.eq_nil_of_length_eq_zero (by omega)
    subst hz
    exact ⟨0, 0, 0, .inr ⟨⟨none, rfl⟩, rfl⟩, fun e => absurd rfl e, fun j hj => by simp at hj⟩
  · refine ⟨g, 0, cap, .inl (by rw [hl]), fun _ => (Array.getElem?_eq_some_iff.1 hg).1, fun j hj => ?_⟩
    unfold World.cell?
    simp only [hg]
    have e1 : (cur.toList.take (nn * 1))[j]? = some (.int k zs[j]) := by rw [ht]; simp [hj]
    rw [List.getElem?_take] at e1
    split at e1
    · simpa using e1
    · cases e1
/-- l[lo:hi], l[:hi], l[lo:] of a slice. -/
theorem P_lslice {t e sz n' c : Nat} {x lo hi : Operand} {k k' : IntKind} {b : Option Addr} {m m' : Int} {i : TypeInfo} (hx : ev F x = .slice b n' c) (hlo : ev F lo = .int k m) (hhi : ev F hi = .int k' m') (ht : P.underlying t = some (.slice e)) (hi' : P.info? e = some i) (hs : i.size = sz) (h0 : 0 ≤ m) (h1 : m ≤ m') (h2 : m' ≤ c) :
    Pu P F (.slice t x (some lo) (some hi) none) ty (sliced b m.toNat m'.toNat c sz) := fun dst pos after w => by
  have hsz : (sizeOf e).run P w = .ok sz w := by simp [sizeOf, typeInfo, hi', hs]
  have e1 : m ≤ (m'.toNat : Int) := by omega
  simp [execOp, hx, hlo, hhi, Instr.sliceAt, Instr.slice, Instr.sliceBounds, Instr.sliceBound, asIntOf, run_underlying ht, h0, h2, hsz, sliced, show 0 ≤ m' by omega, show ¬ max m' 0 < m by omega]
theorem P_lslice_hi {t e sz n' c : Nat} {x hi : Operand} {k' : IntKind} {b : Option Addr} {m' : Int} {i : TypeInfo} (hx : ev F x = .slice b n' c) (hhi : ev F hi = .int k' m') (ht : P.underlying t = some (.slice e)) (hi' : P.info? e = some i) (hs : i.size = sz) (h1 : 0 ≤ m') (h2 : m' ≤ c) :
    Pu P F (.slice t x none (some hi) none) ty (sliced b 0 m'.toNat c sz) := fun dst pos after w => by
  have hsz : (sizeOf e).run P w = .ok sz w := by simp [sizeOf, typeInfo, hi', hs]
  simp [execOp, hx, hhi, Instr.sliceAt, Instr.slice, Instr.sliceBounds, Instr.sliceBound, asIntOf, run_underlying ht, h1, h2, hsz, sliced]
theorem P_lslice_lo {t e sz n' c : Nat} {x lo : Operand} {k : IntKind} {b : Option Addr} {m : Int} {i : TypeInfo} (hx : ev F x = .slice b n' c) (hlo : ev F lo = .int k m) (ht : P.underlying t = some (.slice e)) (hi' : P.info? e = some i) (hs : i.size = sz) (h0 : 0 ≤ m) (h1 : m ≤ n') :
    Pu P F (.slice t x (some lo) none none) ty (sliced b m.toNat n' c sz) := fun dst pos after w => by
  have hsz : (sizeOf e).run P w = .ok sz w := by simp [sizeOf, typeInfo, hi', hs]
  simp [execOp, hx, hlo, Instr.sliceAt, Instr.slice, Instr.sliceBounds, Instr.sliceBound, asIntOf, run_underlying ht, h0, h1, hsz, sliced]
theorem Ints.sub {k : IntKind} {b : Option Addr} {n' c : Nat} {zs : List Int} (hv : Ints w k (.slice b n' c) zs) (hc : n' ≤ c) {l h : Nat} (h1 : l ≤ h) (h2 : h ≤ n') : Ints w k (sliced b l h c 1) ((zs.take h).drop l) := by
  obtain ⟨g, off, cap, hf, hb, hr⟩ := hv
  rcases hf with hf | ⟨⟨a, hf⟩, rfl⟩
  · cases hf
    have hlen : ((zs.take h).drop l).length = h - l := by simp; omega
    by_cases hcl : c = l
    · have hz : (zs.take h).drop l = [] := List.eq_nil_of_length_eq_zero (by omega)
      rw [hz]
      refine ⟨g, off, c - l, .inl ?_, fun e => absurd rfl e, fun j hj => absurd hj (Nat.not_lt_zero _)⟩
      unfold sliced
      rw [if_pos hcl]
      have : h - l = 0 := by omega
      rw [this]; rfl
    · refine ⟨g, off + l, c - l, .inl ?_, fun hz => hb (by intro e; subst e; exact hz (by simp)), fun j hj => ?_⟩
      · unfold sliced
        rw [if_neg hcl, hlen]
        simp [add_none]
      · have hj2 : l + j < zs.length := by omega
        have := hr (l + j) hj2
        rw [Nat.add_assoc, this]
        simp
  · cases hf
    obtain rfl : h = 0 := by omega
    obtain rfl : l = 0 := by omega
    exact ⟨0, 0, 0, .inr ⟨⟨b, by unfold sliced; rw [if_pos rfl]⟩, rfl⟩, fun e => absurd rfl e, fun j hj => absurd hj (Nat.not_lt_zero _)⟩
theorem Ints.form {k : IntKind} {v : Value} {zs : List Int} (hv : Ints w k v zs) : ∃ b c, v = .slice b zs.length c := by
  obtain ⟨g, off, cap, hf | ⟨⟨a, hf⟩, rfl⟩, _⟩ := hv
  · exact ⟨_, _, hf⟩
  · exact ⟨_, _, hf⟩
theorem Ints.at {k : IntKind} {b : Option Addr} {n' c : Nat} {zs : List Int} (hv : Ints w k (.slice b n' c) zs) {j : Nat} (hj : j < n') : ∃ g off, b = some ⟨g, off, none⟩ ∧ w.cell? ⟨g, off + j, none⟩ = some (.int k (zs.getD j 0)) := by
  obtain ⟨g, off, cap, hf, _, hr⟩ := hv
  rcases hf with hf | ⟨⟨a, hf⟩, rfl⟩
  · cases hf
    exact ⟨g, off, rfl, by rw [hr j hj]; simp [List.getD, hj]⟩
  · cases hf
    exact absurd hj (Nat.not_lt_zero _)
theorem P_max {x y : Operand} {k k' : IntKind} {a b : Int} {ts : Array TypeId} (hx : ev F x = .int k a) (hy : ev F y = .int k' b) : Pu P F (.call { callee := .builtin .max, args := #[x, y], argTypes := ts }) ty (.int k (max a b)) := fun dst pos after w => by
  have e : (if b > a then b else a) = max a b := by split <;> omega
  have := run_max_int2 (P := P) (w := w) ts ty k k' a b
  rw [e] at this
  simp [execOp, resolve, invoke, builtin, hx, hy, this]
theorem P_min {x y : Operand} {k k' : IntKind} {a b : Int} {ts : Array TypeId} (hx : ev F x = .int k a) (hy : ev F y = .int k' b) : Pu P F (.call { callee := .builtin .min, args := #[x, y], argTypes := ts }) ty (.int k (min a b)) := fun dst pos after w => by
  have e : (if b < a then b else a) = min a b := by split <;> omega
  have := run_min_int2 (P := P) (w := w) ts ty k k' a b
  rw [e] at this
  simp [execOp, resolve, invoke, builtin, hx, hy, this]
/-- string(rs). -/
theorem Lst_runes {d t t' e : Nat} {x : Operand} {v : Value} {zs : List Int} (hx : ev F x = v) (ht : P.underlying t = some (.slice e)) (he : P.underlying e = some (.int .i32)) (ht' : P.underlying t' = some .string) (hv : Ints w .i32 v zs) (hd : Nat.blt d n = true)
    (h : Lst P rd n ops Q rest (upd F d (.string (runesBytes zs))) ds w) : Lst P rd n ops Q (⟨some d, .convert t t' x, ty, pos, after, none⟩ :: rest) F ds w :=
  Lst_value rfl (by
    obtain ⟨b, off, cap, h1, h2, h3⟩ := hv
    rcases h1 with rfl | ⟨⟨a, rfl⟩, rfl⟩
    · have := run_convert_runes (P := P) w t t' e ⟨b, off, none⟩ zs.length cap zs (Nat.le_refl _) ht he ht' (fun j hj => by rw [add_none, h3 j hj]; simp [List.getD, hj])
      simp [execOp, hx, this]
    · cases a with
      | none =>
        have := run_convert_runes_nil (P := P) w t t' e 0 0 ht he ht'
        simp [execOp, hx, this, runesBytes]
      | some a =>
        have := run_convert_runes (P := P) w t t' e a 0 0 [] (Nat.le_refl _) ht he ht' (fun j hj => absurd hj (Nat.not_lt_zero _))
        simp [execOp, hx, this]) hd h
/-! ### A range over a string -/
theorem Lst_rangeS {d t B : Nat} {x : Operand} {s : ByteArray} (hx : ev F x = .string s) (ht : P.underlying t = some .string) (hB : w.heap.size = B) (hd : Nat.blt d n = true)
    (h : Lst P rd n ops Q rest (upd F d (.pointer (some ⟨B, 0, none⟩))) ds (w.alloc (.stringIter s 0))) : Lst P rd n ops Q (⟨some d, .range t x, ty, pos, after, none⟩ :: rest) F ds w :=
  Lst_value rfl (by subst hB; simp [execOp, hx, Instr.range, run_underlying ht]) hd h
theorem Lst_nextS_t {d B p : Nat} {x : Operand} {s : ByteArray} (hx : ev F x = .pointer (some ⟨B, 0, none⟩)) (hi : w.heap[B]? = some (.stringIter s p)) (hp : p < s.size) (hd : Nat.blt d n = true)
    (h : Lst P rd n ops Q rest (upd F d (.tuple #[.bool true, .int .i64 p, .int .i32 ((Utf8.decode s p).1 : Int)])) ds (w.putObj B (.stringIter s (p + (Utf8.decode s p).2)))) : Lst P rd n ops Q (⟨some d, .next x true, ty, pos, after, none⟩ :: rest) F ds w :=
  Lst_value rfl (by simp [execOp, hx, Instr.next, getObj, setObj, Sem.run, hi, hp, goInt, World.putObj]) hd h
theorem Lst_nextS_f {d B p : Nat} {x : Operand} {s : ByteArray} (hx : ev F x = .pointer (some ⟨B, 0, none⟩)) (hi : w.heap[B]? = some (.stringIter s p)) (hp : ¬ p < s.size) (hd : Nat.blt d n = true)
    (h : Lst P rd n ops Q rest (upd F d (.tuple #[.bool false])) ds w) : Lst P rd n ops Q (⟨some d, .next x true, ty, pos, after, none⟩ :: rest) F ds w :=
  Lst_value rfl (by simp [execOp, hx, Instr.next, getObj, Sem.run, hi, hp]) hd h
theorem KO.own {X A A' : World} {base : Nat} {e : TypeId} {size nn : Nat} {v : Value} {xs : List Value} (k : KeepsOthers X A) (h : A.ownsRow base e size v nn xs) (hg : A.grownBy A' v.ownBlock) : KeepsOthers X A' :=
  k.trans (KeepsOthers.of_grownBy hg fun j o hj ho => by
    obtain ⟨_, h⟩ := h
    rcases h with ⟨rfl, _⟩ | ⟨g, cap, cur, rfl, _, hc, _⟩
    · cases hj
    · cases hj
      have : some (Obj.cells cur e) = some o := hc.symm.trans ho
      cases this
      rfl)
theorem Below.own {m : Nat} {X A A' : World} {base : Nat} {e : TypeId} {size nn : Nat} {v : Value} {xs : List Value} (k : Below m X A) (h : A.ownsRow base e size v nn xs) (hg : A.grownBy A' v.ownBlock) (hm : m ≤ base) (hs : m ≤ A.heap.size) : Below m X A' :=
  k.grown hg hs fun j hj => Nat.le_trans hm (h.lt j hj).1
/-! ### Results that lie in a box -/
theorem ret_cell {F : Fr} {t : TypeId} {u : TypeDesc} {a b : Nat} {v : Value} {e : TypeId} (hx : F a = .pointer (some ⟨b, 0, none⟩)) (ht : P.underlying t = some u) (hu : aggT u = false) (hb : Blk w b [v] e) : ∃ p, F a = .pointer (some p) ∧ (loadVar t p).run P w = .ok v w :=
  ⟨_, hx, by have := (Blk.cell hb 0); simp [loadVar, run_isAgg ht, hu, load, Sem.run, this]⟩
theorem retM1cp {R : Value → World → Prop} {t : TypeId} {u : TypeDesc} {a b : Nat} {v : Value} {e : TypeId} (hx : F a = .pointer (some ⟨b, 0, none⟩)) (ht : P.underlying t = some u) (hu : aggT u = false) (hb : Blk w b [v] e) (h : R v w) : retM P [.cell a t] R .ret F [] w :=
  ⟨[v], ⟨ret_cell hx ht hu hb, trivial⟩, h⟩
theorem retM1c {R : Value → World → Prop} {t : TypeId} {u : TypeDesc} {a b D : Nat} {v : Value} {e : TypeId} (hD : w.heap[D]? = some (.deferred (some []))) (hx : F a = .pointer (some ⟨b, 0, none⟩)) (ht : P.underlying t = some u) (hu : aggT u = false) (hb : Blk w b [v] e) (h : R v (w.putObj D (.deferred none))) : retM P [.cell a t] R .ret F [{ target := .collected D, args := #[] }] w := by
  have hn : b ≠ D := by
    intro x
    subst x
    have : some (Obj.cells #[v] e) = some (Obj.deferred (some [])) := (show w.heap[b]? = _ from hb).symm.trans hD
    cases this
  exact ⟨D, rfl, hD, [v], ⟨ret_cell hx ht hu (Blk.put_ne hn hb), trivial⟩, h⟩
theorem retQ1c {R : Value → World → Prop} {t : TypeId} {u : TypeDesc} {a b : Nat} {v : Value} {e : TypeId} (hx : F a = .pointer (some ⟨b, 0, none⟩)) (ht : P.underlying t = some u) (hu : aggT u = false) (hb : Blk w b [v] e) (h : R v w) : retQ P [.cell a t] R .ret F [] w :=
  ⟨rfl, [v], ⟨ret_cell hx ht hu hb, trivial⟩, h⟩
theorem KO.put {A : World} {b : Nat} {l l' : List Value} {e e' : TypeId} (h : Blk A b l e) : KeepsOthers A (A.putObj b (.cells l'.toArray e')) :=
  ⟨by simp, fun k o hk ho => by
    by_cases x : k = b
    · subst x
      have : some (Obj.cells l.toArray e) = some o := (show A.heap[k]? = _ from h).symm.trans hk
      cases this
      cases ho
    · exact (World.putObj_heap_other x).trans hk⟩
theorem KO.putO {X A : World} {b : Nat} {l : List Value} {e : TypeId} (k : KeepsOthers X A) (h : Blk A b l e) (a : Array Value) (e' : TypeId) : KeepsOthers X (A.putObj b (.cells a e')) :=
  k.trans (by have := KO.put (l' := a.toList) (e' := e') h; simpa using this)
theorem KO.allocO {X A : World} (k : KeepsOthers X A) (o : Obj) : KeepsOthers X (A.alloc o) := k.trans (KeepsOthers.alloc _ _)
theorem KO.drewO {X A : World} (k : KeepsOthers X A) : KeepsOthers X A.drew := k.trans (KeepsOthers.drew _)
theorem KO.below {X A B : World} {m : Nat} (k : KeepsOthers X A) (h : Below m A B) (hm : A.heap.size ≤ m) : KeepsOthers X B :=
  k.trans ⟨h.size, fun i o hi _ => (h.block i (by have := (Array.getElem?_eq_some_iff.1 hi).1; omega)).trans hi⟩
theorem body_n {B k : Nat} {I : Nat → World → Prop} {Ix : Code → Nat → World → Prop} {A A' : World} {F : Fr} {ds : List Deferred} (hk : KeepsOthers A A') (h : I (k + 1) A') : bodyQ B KeepsWalks I Ix k A .normal F ds A' := ⟨hk.from B, hk.walks, h⟩
theorem body_r {B k : Nat} {Kp : World → World → Prop} {I : Nat → World → Prop} {Ix : Code → Nat → World → Prop} {A A' : World} {F : Fr} {ds : List Deferred} (hk : KeepsOthers A A') (h : Ix .ret (k + 1) A') : bodyQ B Kp I Ix k A .ret F ds A' := ⟨hk.from B, h⟩
theorem body_e {B k i : Nat} {Kp : World → World → Prop} {I : Nat → World → Prop} {Ix : Code → Nat → World → Prop} {A A' : World} {F : Fr} {ds : List Deferred} (hk : KeepsOthers A A') (h : Ix (.exit i) (k + 1) A') : bodyQ B Kp I Ix k A (.exit i) F ds A' := ⟨hk.from B, h⟩
theorem Below.calmW {m B : Nat} {A A' : World} (h : Below m A A') (hn : A.heap.size ≤ m) : CalmW B A A' :=
  ⟨h.os, h.tape, h.output, h.size, fun r o ho _ => (h.block r (by have := lt_of_some ho; omega)).trans ho⟩
end mem
end Sx
namespace Sx
open Go Go.RowKit

/-- n of a list's values from a place on. -/
inductive TakeR : List Value → Nat → Nat → List Value → Prop
  | nil (l : List Value) : TakeR l 0 0 []
  | here (x : Value) (l cs : List Value) (n : Nat) (h : TakeR l 0 n cs) : TakeR (x :: l) 0 (n + 1) (x :: cs)
  | skip (x : Value) (l cs : List Value) (o n : Nat) (h : TakeR l o n cs) : TakeR (x :: l) (o + 1) n cs
theorem TakeR.get {l cs : List Value} {o n : Nat} (h : TakeR l o n cs) : cs.length = n ∧ ∀ j v, cs[j]? = some v → l[o + j]? = some v := by
  induction h with
  | nil l => exact ⟨rfl, fun j v h => by simp at h⟩
  | here x l cs n h ih =>
    refine ⟨by simp [ih.1], fun j v hv => ?_⟩
    cases j with
    | zero => simpa using hv
    | succ j =>
      have := ih.2 j v (by simpa using hv)
      simpa using this
  | skip x l cs o n h ih =>
    refine ⟨ih.1, fun j v hv => ?_⟩
    have := ih.2 j v hv
    rw [show o + 1 + j = (o + j) + 1 by omega, List.getElem?_cons_succ]
    exact this
theorem TakeR.eq {l cs : List Value} {o n : Nat} (h : TakeR l o n cs) : (l.drop o).take n = cs := by
  induction h with
  | nil l => simp
  | here x l cs n h ih => simp at ih ⊢; exact ih
  | skip x l cs o n h ih => simpa using ih
/-- A list with some of its values, from a place on, written over. -/
inductive SetRs : List Value → Nat → List Value → List Value → Prop
  | nil (l : List Value) : SetRs l 0 [] l
  | here (x v : Value) (l vs k : List Value) (h : SetRs l 0 vs k) : SetRs (x :: l) 0 (v :: vs) (v :: k)
  | skip (x : Value) (l vs k : List Value) (o : Nat) (h : SetRs l o vs k) : SetRs (x :: l) (o + 1) vs (x :: k)
theorem SetRs.eq {l vs k : List Value} {o : Nat} (h : SetRs l o vs k) : o + vs.length ≤ l.length ∧ l.take o ++ vs ++ l.drop (o + vs.length) = k := by
  induction h with
  | nil l => simp
  | here x v l vs k h ih =>
    refine ⟨by simp at ih ⊢; omega, ?_⟩
    have := ih.2
    simp at this ⊢
    exact this
  | skip x l vs k o h ih =>
    refine ⟨by simp at ih ⊢; omega, ?_⟩
    have := ih.2
    rw [show o + 1 + vs.length = (o + vs.length) + 1 by omega]
    simpa using this
/-- A literal's cells, part by part. -/
inductive FillR (pl : Nat → Option (Nat × Nat)) : List Value → List (Nat × Value) → List Value → Prop
  | nil (z : List Value) : FillR pl z [] z
  | cons (i : Nat) (v : Value) (z z1 z2 cs : List Value) (ps : List (Nat × Value)) (off : Nat) (hc : v.cells = cs.toArray) (hp : pl i = some (off, cs.length)) (hs : SetRs z off cs z1) (h : FillR pl z1 ps z2) : FillR pl z ((i, v) :: ps) z2
theorem fill_cells : ∀ (l : List Value) (k off : Nat) (acc : Array Value), off + k + l.length ≤ acc.size →
    ((l.zipIdx k).foldl (fun cs (x : Value × Nat) => cs.setIfInBounds (off + x.2) x.1) acc).toList = acc.toList.take (off + k) ++ l ++ acc.toList.drop (off + k + l.length) := by
  intro l
  induction l with
  | nil => intro k off acc _; simp
  | cons y l ih =>
    intro k off acc hk
    simp only [List.length_cons] at hk
    rw [List.zipIdx_cons, List.foldl_cons, ih (k + 1) off _ (by simp; omega)]
    have hkl : off + k < acc.toList.length := by simp; omega
    simp only [Array.toList_setIfInBounds]
    rw [show off + (k + 1) = (off + k) + 1 by omega, List.take_succ_eq_append_getElem (by simp; omega), List.take_set_of_le (Nat.le_refl _), List.getElem_set_self, List.drop_set_of_lt (by omega)]
    simp only [List.append_assoc, List.singleton_append, List.length_cons]
    congr 3
    omega
theorem FillR.eq {pl : Nat → Option (Nat × Nat)} {z k : List Value} {ps : List (Nat × Value)} (h : FillR pl z ps k) : Instr.fill pl z.toArray ps = some k.toArray := by
  induction h with
  | nil z => rfl
  | cons i v z z1 z2 cs ps off hc hp hs h ih =>
    have he := hs.eq
    simp only [Instr.fill, hp]
    rw [if_neg (by rw [hc]; simp; exact he.1)]
    have e : (v.cells.zipIdx.foldl (fun cs (x : Value × Nat) => cs.setIfInBounds (off + x.2) x.1) z.toArray) = z1.toArray := by
      apply Array.ext'
      rw [hc]
      have := fill_cells cs 0 off z.toArray (by simpa using he.1)
      rw [← Array.foldl_toList, Array.toList_zipIdx]
      rw [this]
      simpa using he.2
    rw [← ih, ← e]

/-- A literal's cells, its parts read off a frame. -/
inductive FillO (F : Fr) (pl : Nat → Option (Nat × Nat)) : List Value → List (Nat × Operand) → List Value → Prop
  | nil (z : List Value) : FillO F pl z [] z
  | cons (i : Nat) (x : Operand) (v : Value) (z z1 z2 cs : List Value) (ps : List (Nat × Operand)) (off : Nat) (hx : Fc (ev F x) v) (hc : v.cells = cs.toArray) (hp : pl i = some (off, cs.length)) (hs : SetRs z off cs z1) (h : FillO F pl z1 ps z2) : FillO F pl z ((i, x) :: ps) z2
theorem FillO.fillR {F : Fr} {pl : Nat → Option (Nat × Nat)} {z k : List Value} {ps : List (Nat × Operand)} (h : FillO F pl z ps k) : FillR pl z (ps.map fun p => (p.1, ev F p.2)) k := by
  induction h with
  | nil z => exact .nil z
  | cons i x v z z1 z2 cs ps off hx hc hp hs h ih =>
    rw [List.map_cons, hx.eq]
    exact .cons i v z z1 z2 cs _ off hc hp hs ih

section structs
variable {P : Program} {rd : Option Nat} {n : Nat} {ops : Array Oper} {Q : Post} {rest : List Oper} {F : Fr} {ds : List Deferred} {w : World} {ty : TypeId} {pos : String} {after : Array Edge}

/-- x.f of an address: the field's. -/
theorem P_faddr {t : TypeId} {x : Operand} {j b off o' sz : Nat} {fs : Array Field} {f : Field} {i : TypeInfo} (hx : ev F x = .pointer (some ⟨b, off, none⟩)) (ht : P.underlying t = some (.struct fs)) (hf : fs[j]? = some f) (hi : P.info? f.type = some i) (hs : i.size = sz) (h1 : Nat.ble 1 sz = true) (ho : off + f.offset = o') :
    Pu P F (.fieldAddr t x j) ty (.pointer (some ⟨b, o', none⟩)) := fun dst pos after w => by
  have hsz : (sizeOf f.type).run P w = .ok sz w := by simp [sizeOf, typeInfo, hi, hs]
  have hn : sz ≠ 0 := by
    have : 1 ≤ sz := by simpa using h1
    omega
  subst ho
  simp [execOp, hx, Instr.fieldAt, Instr.sureAddr, run_underlying ht, hf, fieldPlace, hsz, hn, add_none]
/-- x.f of a struct at hand, one cell. -/
theorem P_field {t : TypeId} {x : Operand} {j : Nat} {fs : Array Field} {f : Field} {u : TypeDesc} {cs : Array Value} {v : Value} (hx : ev F x = .agg cs) (ht : P.underlying t = some (.struct fs)) (hf : fs[j]? = some f) (hu : P.underlying f.type = some u) (ha : aggT u = false) (hv : cs[f.offset]? = some v) :
    Pu P F (.field t x j) ty v := fun dst pos after w => by
  simp [execOp, hx, Instr.field, run_underlying ht, hf, part, run_isAgg hu, ha, asAgg, hv]
/-- x.f of a struct at hand, a struct itself. -/
theorem P_fieldA {t : TypeId} {x : Operand} {j o sz : Nat} {fs : Array Field} {f : Field} {u : TypeDesc} {i : TypeInfo} {l cs : List Value} (hx : ev F x = .agg l.toArray) (ht : P.underlying t = some (.struct fs)) (hf : fs[j]? = some f) (hu : P.underlying f.type = some u) (ha : aggT u = true) (hi : P.info? f.type = some i) (hs : i.size = sz) (ho : f.offset = o) (hv : TakeR l o sz cs) :
    Pu P F (.field t x j) ty (.agg cs.toArray) := fun dst pos after w => by
  have hsz : (sizeOf f.type).run P w = .ok sz w := by simp [sizeOf, typeInfo, hi, hs]
  subst ho
  have e : l.toArray.extract f.offset (f.offset + sz) = cs.toArray := by
    apply Array.ext'
    rw [Array.toList_extract]
    show (l.drop f.offset).take (f.offset + sz - f.offset) = cs
    rw [show f.offset + sz - f.offset = sz by omega]
    exact hv.eq
  simp only [execOp, hx, Instr.field, Sem.run_bind, run_underlying ht, Result.andThen_ok, hf, part, run_isAgg hu, ha, asAgg, Sem.run_pure, hsz, e, if_true]
/-- A struct that lies in a block, read whole. -/
theorem Lst_loadA {d b off sz : Nat} {x : Operand} {t e : TypeId} {u : TypeDesc} {i : TypeInfo} {l cs : List Value} (hx : ev F x = .pointer (some ⟨b, off, none⟩)) (ht : P.underlying t = some u) (hu : u.isRow = true) (hi : P.info? t = some i) (hs : i.size = sz) (hb : Blk w b l e) (hv : TakeR l off sz cs) (hd : Nat.blt d n = true)
    (h : Lst P rd n ops Q rest (upd F d (.agg cs.toArray)) ds w) : Lst P rd n ops Q (⟨some d, .load t x, ty, pos, after, none⟩ :: rest) F ds w :=
  Lst_value rfl (by
    have hg := hv.get
    have := run_loadAt_mid (P := P) w b off t cs u (fun j v hj => (hb.cell (off + j)).trans (hg.2 j v hj)) ht hu (by rw [hi]; simp [hs, hg.1])
    simp [execOp, hx, this]) hd h
theorem Blk.setRow {b : Nat} {l : List Value} {e : TypeId} (h : Blk w b l e) (cs : Array Value) : w.setRow b cs = w.putObj b (.cells cs e) := by
  unfold World.setRow World.putObj
  unfold Blk at h
  congr 1
  obtain ⟨hl, hv⟩ := Array.getElem?_eq_some_iff.1 h
  apply Array.ext
  · simp
  · intro i h1 h2
    by_cases e' : i = b
    · subst e'
      simp [Array.getElem_modify, hv]
    · simp only [Array.getElem_modify, Ne.symm e', if_false]
      exact (Array.getElem_setIfInBounds_ne _ (Ne.symm e')).symm
/-- A struct written whole into a block. -/
theorem Lst_storeA {x y : Operand} {t e : TypeId} {i : TypeInfo} {b off : Nat} {l l' vs : List Value} (hx : ev F x = .pointer (some ⟨b, off, none⟩)) (hy : ev F y = .agg vs.toArray) (hi : P.info? t = some i) (hs : i.size = vs.length) (h1 : ∀ v ∈ vs, v.oneCell' = true) (hb : Blk w b l e) (hl : SetRs l off vs l')
    (h : Lst P rd n ops Q rest F ds (w.putObj b (.cells l'.toArray e))) : Lst P rd n ops Q (⟨none, .store t x y, ty, pos, after, none⟩ :: rest) F ds w :=
  Lst_unit rfl (by
    have he := hl.eq
    have := run_storeCells_at (P := P) b off e vs 0 l.toArray w hb (by simpa using he.1) h1
    have hsz : (sizeOf t).run P w = .ok vs.length w := by simp [sizeOf, typeInfo, hi, hs]
    simp only [Nat.add_zero] at this
    rw [show (l.toArray.toList.take off ++ vs ++ l.toArray.toList.drop (off + vs.length)) = l' from he.2] at this
    rw [hb.setRow] at this
    have hcs : (Value.agg vs.toArray).cells.size = vs.length := by simp [Value.cells]
    have hcl : (Value.agg vs.toArray).cells.toList = vs := by simp [Value.cells]
    simp [execOp, hx, hy, Instr.storeAt, Instr.sureAddr, storeVar, hsz, hcs, hcl, this]) rfl h
/-- T{..}: a struct's literal. -/
theorem P_build {t : TypeId} {ps : List (Nat × Operand)} {fs : Array Field} {it : TypeInfo} {z : Value} {zl cs : List Value} {pl : List (Nat × Nat)} (ht : P.underlying t = some (.struct fs)) (hi : P.info? t = some it) (hz : it.zero = some z) (hzc : z.cells = zl.toArray)
    (hpl : fs.toList.mapM (fun f => (P.info? f.type).map fun i => (f.offset, i.size)) = some pl) (hf : FillO F (pl.toArray[·]?) zl ps cs) : Pu P F (.build t ps.toArray) ty (.agg cs.toArray) := fun dst pos after w => by
  have hb : P.built t ((ps.toArray.map fun p => (p.1, ev F p.2))).toList = some cs.toArray := by
    unfold Program.built
    simp only [hi, ht, hz, hpl, hzc]
    have := hf.fillR.eq
    simpa using this
  have := run_build (P := P) w t (ps.toArray.map fun p => (p.1, ev F p.2)) cs.toArray hb
  simp only [execOp, Sem.run_bind]
  rw [show (ps.toArray.map fun (x : Nat × Operand) => match x with | (i, x) => (i, ev F x)) = ps.toArray.map fun p => (p.1, ev F p.2) from rfl, this]
  rfl

/-- A row of nothings. -/
def zrow (len : Nat) (zc : List Value) : List Value := (List.replicate len zc).flatten
theorem zrow_get (zc : List Value) : ∀ (len j : Nat), j < len * zc.length → (zrow len zc)[j]? = zc[j % zc.length]? := by
  intro len
  induction len with
  | zero => intro j hj; simp at hj
  | succ len ih =>
    intro j hj
    unfold zrow at ih ⊢
    rw [List.replicate_succ, List.flatten_cons]
    by_cases h : j < zc.length
    · rw [List.getElem?_append_left h, Nat.mod_eq_of_lt h]
    · rw [List.getElem?_append_right (by omega), ih (j - zc.length) (by rw [Nat.succ_mul] at hj; omega), Nat.mod_eq_sub_mod (by omega : zc.length ≤ j)]
theorem zrow_eq (zc : List Value) (h1 : 1 ≤ zc.length) (len : Nat) : (Array.range (len * zc.length)).map (zc.toArray[· % zc.toArray.size]!) = (zrow len zc).toArray := by
  have hlen : (zrow len zc).length = len * zc.length := by unfold zrow; simp
  apply Array.ext
  · simp [hlen]
  · intro j h2 h3
    have hj : j < len * zc.length := by simpa using h2
    have hm : j % zc.length < zc.length := Nat.mod_lt _ (by omega)
    have := zrow_get zc len j hj
    rw [List.getElem?_eq_getElem (by omega), List.getElem?_eq_getElem hm] at this
    simp [hm, Option.some.inj this]
/-- []T{..}: a literal of some elements. -/
theorem Lst_slit {d t e B len sz : Nat} {ps : List (Nat × Operand)} {i : TypeInfo} {z : Value} {zc cs : List Value} (ht : P.underlying t = some (.slice e)) (hi : P.info? e = some i) (hz : i.zero = some z) (hzc : z.cells = zc.toArray) (hs : i.size = sz) (hzl : zc.length = sz) (h1 : Nat.ble 1 sz = true) (h24 : Nat.ble (len * sz) 16777216 = true) (h0 : Nat.ble 1 len = true)
    (hf : FillO F (fun j => some (j * sz, sz)) (zrow len zc) ps cs) (hB : w.heap.size = B) (hd : Nat.blt d n = true)
    (h : Lst P rd n ops Q rest (upd F d (.slice (some ⟨B, 0, none⟩) len len)) ds (w.alloc (.cells cs.toArray e))) : Lst P rd n ops Q (⟨some d, .buildSlice t len ps.toArray, ty, pos, after, none⟩ :: rest) F ds w :=
  Lst_value rfl (by
    subst hB
    have h1' : 1 ≤ sz := by simpa using h1
    have h24' : len * sz ≤ 16777216 := by simpa using h24
    have h0' : 1 ≤ len := by simpa using h0
    have hne : len * sz ≠ 0 := by have := Nat.mul_le_mul h0' h1'; omega
    have hsz : (sizeOf e).run P w = .ok sz w := by simp [sizeOf, typeInfo, hi, hs]
    have hzv : (zeroValue e).run P w = .ok z w := by simp [zeroValue, typeInfo, hi, hz]
    have hfill := hf.fillR.eq
    have hrow := zrow_eq zc (by omega) len
    rw [hzl] at hrow
    have e1 : (ps.toArray.map fun (x : Nat × Operand) => (x.1, ev F x.2)).toList = ps.map fun p => (p.1, ev F p.2) := by simp
    simp only [execOp, Sem.run_bind, Instr.buildSlice, run_underlying ht, Result.andThen_ok, hsz]
    rw [if_neg (by omega)]
    simp only [Sem.run_bind, Result.andThen_ok, Sem.run_pure, if_neg hne, hzv, hzc]
    rw [e1, show (Array.map (fun x => zc.toArray[x % zc.toArray.size]!) (Array.range (len * sz))) = (zrow len zc).toArray by rw [← hzl]; rw [hzl]; exact hrow, hfill]
    simp [newRow]) hd h
/-! ### Results that are structs in a box -/
theorem ret_cellA {F : Fr} {t : TypeId} {u : TypeDesc} {i : TypeInfo} {a b sz : Nat} {l cs : List Value} {e : TypeId} (hx : F a = .pointer (some ⟨b, 0, none⟩)) (ht : P.underlying t = some u) (hu : u.isRow = true) (hi : P.info? t = some i) (hs : i.size = sz) (hb : Blk w b l e) (hv : TakeR l 0 sz cs) : ∃ p, F a = .pointer (some p) ∧ (loadVar t p).run P w = .ok (.agg cs.toArray) w := by
  have hg := hv.get
  exact ⟨_, hx, run_loadVar_mid (P := P) w b 0 t cs u (fun j v hj => (hb.cell (0 + j)).trans (hg.2 j v hj)) ht hu (by rw [hi]; simp [hs, hg.1])⟩
theorem retQ1A {R : Value → World → Prop} {t : TypeId} {u : TypeDesc} {i : TypeInfo} {a b sz : Nat} {l cs : List Value} {e : TypeId} (hx : F a = .pointer (some ⟨b, 0, none⟩)) (ht : P.underlying t = some u) (hu : u.isRow = true) (hi : P.info? t = some i) (hs : i.size = sz) (hb : Blk w b l e) (hv : TakeR l 0 sz cs) (h : R (.agg cs.toArray) w) : retQ P [.cell a t] R .ret F [] w :=
  ⟨rfl, [.agg cs.toArray], ⟨ret_cellA hx ht hu hi hs hb hv, trivial⟩, h⟩
theorem retQ2A {R : Value → World → Prop} {t : TypeId} {u : TypeDesc} {i : TypeInfo} {a b c sz : Nat} {l cs : List Value} {e : TypeId} {v : Value} (hx : F a = .pointer (some ⟨b, 0, none⟩)) (ht : P.underlying t = some u) (hu : u.isRow = true) (hi : P.info? t = some i) (hs : i.size = sz) (hb : Blk w b l e) (hv : TakeR l 0 sz cs) (hc : F c = v) (h : R (.tuple #[.agg cs.toArray, v]) w) : retQ P [.cell a t, .tmp c] R .ret F [] w :=
  ⟨rfl, [.agg cs.toArray, v], ⟨ret_cellA hx ht hu hi hs hb hv, hc, trivial⟩, h⟩
/-! ### Comparisons of structs -/
/-- What two values of a type are told to be: alike (true) or not. -/
def Eqv (P : Program) (m : Nat) (t : TypeId) (x y : Value) (r : Bool) : Prop := ∀ d w, m ≤ d → (Op.equalIn d t x y).run P w = .ok r w
def EqvF (P : Program) (m : Nat) (xs ys : Array Value) (l : List Field) (r : Bool) : Prop := ∀ d w, m ≤ d → (Op.eqFields d xs ys l).run P w = .ok r w
def PartR (P : Program) (t : TypeId) (cs : Array Value) (off : Nat) (v : Value) : Prop := ∀ w, (part t cs off).run P w = .ok v w
theorem PartR_1 {t : TypeId} {u : TypeDesc} {cs : Array Value} {off : Nat} {v : Value} (hu : P.underlying t = some u) (ha : aggT u = false) (hv : cs[off]? = some v) : PartR P t cs off v := fun w => by
  simp [part, run_isAgg hu, ha, hv]
theorem PartR_A {t : TypeId} {u : TypeDesc} {i : TypeInfo} {l cs : List Value} {off sz : Nat} (hu : P.underlying t = some u) (ha : aggT u = true) (hi : P.info? t = some i) (hs : i.size = sz) (hv : TakeR l off sz cs) : PartR P t l.toArray off (.agg cs.toArray) := fun w => by
  have hsz : (sizeOf t).run P w = .ok sz w := by simp [sizeOf, typeInfo, hi, hs]
  have e : l.toArray.extract off (off + sz) = cs.toArray := by
    apply Array.ext'
    rw [Array.toList_extract]
    show (l.drop off).take (off + sz - off) = cs
    rw [show off + sz - off = sz by omega]
    exact hv.eq
  simp only [Sem.run_bind, part, run_isAgg hu, ha, Result.andThen_ok, Sem.run_pure, hsz, e, if_true]
theorem Eqv_int_t {t : TypeId} {k k' : IntKind} {a b : Int} (h : P.underlying t = some (.int k')) (he : a = b) : Eqv P 1 t (.int k a) (.int k b) true := fun d w hd => by
  obtain ⟨d, rfl⟩ : ∃ c, d = c + 1 := ⟨d - 1, by omega⟩
  rw [run_equalIn_int (P := P) w d t k k' a b h, he]
  simp
theorem Eqv_int_f {t : TypeId} {k k' : IntKind} {a b : Int} (h : P.underlying t = some (.int k')) (he : a ≠ b) : Eqv P 1 t (.int k a) (.int k b) false := fun d w hd => by
  obtain ⟨d, rfl⟩ : ∃ c, d = c + 1 := ⟨d - 1, by omega⟩
  rw [run_equalIn_int (P := P) w d t k k' a b h, beq_eq_false_iff_ne.2 he]
theorem Eqv_str_t {t : TypeId} {a b : ByteArray} (h : P.underlying t = some .string) (he : a = b) : Eqv P 1 t (.string a) (.string b) true := fun d w hd => by
  obtain ⟨d, rfl⟩ : ∃ c, d = c + 1 := ⟨d - 1, by omega⟩
  rw [run_equalIn_string (P := P) w d t a b h, he]
  simp
theorem Eqv_str_f {t : TypeId} {a b : ByteArray} (h : P.underlying t = some .string) (he : a ≠ b) : Eqv P 1 t (.string a) (.string b) false := fun d w hd => by
  obtain ⟨d, rfl⟩ : ∃ c, d = c + 1 := ⟨d - 1, by omega⟩
  rw [run_equalIn_string (P := P) w d t a b h, beq_eq_false_iff_ne.2 fun e => he (toList_inj e)]
theorem Eqv_bool {t : TypeId} {a b r : Bool} (h : P.underlying t = some .bool) (he : (a == b) = r) : Eqv P 1 t (.bool a) (.bool b) r := fun d w hd => by
  obtain ⟨d, rfl⟩ : ∃ c, d = c + 1 := ⟨d - 1, by omega⟩
  rw [run_equalIn_bool' (P := P) w d t a b h, he]
theorem Eqv_struct {m : Nat} {t : TypeId} {fs : Array Field} {xs ys : Array Value} {r : Bool} (ht : P.underlying t = some (.struct fs)) (hp : P.stoodInHeld t = false) (h : EqvF P m xs ys fs.toList r) : Eqv P (m + 1) t (.agg xs) (.agg ys) r := fun d w hd => by
  obtain ⟨d, rfl⟩ : ∃ c, d = c + 1 := ⟨d - 1, by omega⟩
  have e : P.fieldsOf t = fs := by unfold Program.fieldsOf; rw [ht]
  rw [run_equalIn_agg (P := P) w d t xs ys (by rw [e]; exact ht) hp, e]
  exact h d w (by omega)
theorem EqvF_nil {xs ys : Array Value} : EqvF P 0 xs ys [] true := fun d w _ => by simp [Op.eqFields]
theorem EqvF_t {m m' : Nat} {xs ys : Array Value} {f : Field} {l : List Field} {a b : Value} {r : Bool} (hn : (f.name == "_") = false) (ha : PartR P f.type xs f.offset a) (hb : PartR P f.type ys f.offset b) (h : Eqv P m f.type a b true) (h2 : EqvF P m' xs ys l r) : EqvF P (m + m') xs ys (f :: l) r := fun d w hd => by
  have hn' : f.name ≠ "_" := beq_eq_false_iff_ne.1 hn
  simp only [Op.eqFields]
  rw [if_pos hn']
  simp only [Sem.run_bind, ha w, hb w, Result.andThen_ok, h d w (by omega)]
  simpa using h2 d w (by omega)
theorem EqvF_f {m : Nat} {xs ys : Array Value} {f : Field} {l : List Field} {a b : Value} (hn : (f.name == "_") = false) (ha : PartR P f.type xs f.offset a) (hb : PartR P f.type ys f.offset b) (h : Eqv P m f.type a b false) : EqvF P m xs ys (f :: l) false := fun d w hd => by
  have hn' : f.name ≠ "_" := beq_eq_false_iff_ne.1 hn
  simp only [Op.eqFields]
  rw [if_pos hn']
  simp only [Sem.run_bind, ha w, hb w, Result.andThen_ok, h d w (by omega)]
  simp
theorem P_eqA {t t' : TypeId} {x y : Operand} {xs ys : Array Value} {r : Bool} {m : Nat} (hx : ev F x = .agg xs) (hy : ev F y = .agg ys) (hg : P.eqGuardType P.depth t = false) (h : Eqv P m t (.agg xs) (.agg ys) r) (hm : Nat.ble m 10000 = true) : Pu P F (.binOp .eql t x y t') ty (.bool r) :=
  fun dst pos after w => bin_run hx hy (run_eqGuard_agg w .eql t x y xs ys hg) (by rw [run_eql_struct, h 10000 w (by simpa using hm)]; rfl)
theorem P_neA {t t' : TypeId} {x y : Operand} {xs ys : Array Value} {r : Bool} {m : Nat} (hx : ev F x = .agg xs) (hy : ev F y = .agg ys) (hg : P.eqGuardType P.depth t = false) (h : Eqv P m t (.agg xs) (.agg ys) r) (hm : Nat.ble m 10000 = true) : Pu P F (.binOp .neq t x y t') ty (.bool (!r)) :=
  fun dst pos after w => bin_run hx hy (run_eqGuard_agg w .neq t x y xs ys hg) (by rw [run_neq_struct, h 10000 w (by simpa using hm)]; rfl)
end structs
end Sx
namespace Sx
open Go Go.RowKit
/-- THE CONTRACT OF SUCH AN ITERATOR: it hands over elements, one a round, such that S holds of all of them in their order; B: what an element must be like behind those that came. -/
def GivesL {β : Type} (P : Program) (gf : Nat) (lb : Array Value) (enc : β → Array Value) (B : List β → β → Prop) (S : List β → Prop) (Kp : World → World → Prop) (w : World) : Prop :=
  ∀ (l : Nat) (J : List β → World → Prop) (W1 : World), Below w.heap.size w W1 → (∀ s A A', J s A → CalmW W1.heap.size A A' → J s A') →
    (∀ s x A, B s x → J s A → YieldAt Fence.wide 0 P l (enc x) A fun e A' => e = .returned (.bool true) ∧ J (s ++ [x]) A' ∧ Kp A A') →
    J [] W1 → Calls P gf (#[.func (.yield l) #[] #[]] ++ lb) W1 fun e A' => (∃ v, e = .returned v) ∧ ∃ s, S s ∧ J s A'
def bodyL {β : Type} (B : Nat) (Kp : World → World → Prop) (I : List β → World → Prop) (s : List β) (x : β) (A : World) : Post
  | .normal, _, _, A' => KeepsFrom B A A' ∧ Kp A A' ∧ I (s ++ [x]) A'
  | _, _, _, _ => False
section range
variable {P : Program} {n : Nat} {Q : Post} {F : Fr} {ds : List Deferred} {w : World}
theorem W_rangeL {β : Type} {g : Operand} {ps : List Nat} {assign body : Code} {gf : Nat} {lb : Array Value} (enc : β → List Value) (B : List β → β → Prop) (S : List β → Prop) (Kp : World → World → Prop)
    (hg : ev F g = .func (.func gf) #[] lb) (hen : Enters P gf) (hps : okPs n ps = true) (hlen : ∀ x, (enc x).length = ps.length)
    (hseq : GivesL P gf lb (fun x => (enc x).toArray) B S Kp w) (hKt : ∀ {A B C : World}, Kp A B → Kp B C → Kp A C)
    (hKb : ∀ (A : World) (l : Nat) (r r' : Loop), w.heap.size ≤ l → A.heap[l]? = some (.loop r) → Kp A (A.putObj l (.loop r')))
    (I : List β → World → Prop) (hI : ∀ s A A', I s A → Calm w.heap.size A A' → I s A') (h0 : I [] w)
    (vals : β → St)
    (hasg : ∀ l x A, W P (some l) n assign (asgQ (vals x) A) (params F ps (enc x)) [] A)
    (hbody : ∀ l s x J A, B s x → I s A → W P (some l) n body (bodyL w.heap.size Kp I s x A) (fr J (vals x)) [] A)
    (hdone : ∀ D s A, w.heap.size ≤ D → S s → I s A → A.heap[D]? = some (.deferred (some [])) → Q .normal F ({ target := .collected D, args := #[] } :: ds) A) :
    W P none n (.rangeFunc g ps.toArray assign body) Q F ds w := fun r a hf => by
  show (Code.rangeFunc g ps.toArray assign body).wpIn Fence.wide r P (lift n Q) a w
  refine wpIn_rangeFunc ?_
  intro fn _
  let rec_ : LoopState → Option Code → Loop := fun st pe => { state := st, pending := pe, fn, tmps := a.tmps, params := ps.toArray, assign, body, defers := w.heap.size }
  obtain ⟨W1, hW1⟩ : ∃ W1, (w.alloc (.deferred (some []))).alloc (.loop (rec_ .ready none)) = W1 := ⟨_, rfl⟩
  have hL1 : W1.heap[w.heap.size + 1]? = some (.loop (rec_ .ready none)) := by
    rw [← hW1]
    have := World.alloc_heap_new (w.alloc (.deferred (some []))) (.loop (rec_ .ready none))
    rwa [World.size_alloc] at this
  have hK1 : W1.heap[w.heap.size]? = some (.deferred (some [])) := by
    rw [← hW1]
    exact (Below.heap_alloc _ _ _ (by simp)).trans (World.alloc_heap_new w _)
  have hc1 : Calm w.heap.size w W1 := by rw [← hW1]; exact (Calm.alloc _ _ _).trans (Calm.alloc _ _ _)
  have hb1 : Below w.heap.size w W1 := by
    rw [← hW1]
    exact ((Below.refl _ w).alloc (Nat.le_refl _) _).alloc (by simp) _
  have hs1 : W1.heap.size = w.heap.size + 2 := by rw [← hW1]; simp
  have hga : a.eval g = .func (.func gf) #[] lb := by rw [hf.eval]; exact hg
  refine ⟨w.heap.size + 1, [{ target := .collected w.heap.size, args := #[] }], W1, { target := .fn (.func gf) lb, args := #[.func (.yield (w.heap.size + 1)) #[] #[]] }, W1, gf,
    #[.func (.yield (w.heap.size + 1)) #[] #[]] ++ lb, W1, ?_, ?_, (fun _ _ => trivial), ?_, (fun h => (by cases h)), ?_⟩
  · rw [← hW1]; exact run_enterLoop_outer _ _ _ _ _
  · simp only [resolve, hga]
    simp [go_sem]
  · simp only [invoke]; exact hen _ _
  · refine callsIn_wide.2 ?_
    refine (hseq (w.heap.size + 1)
      (fun k A => I k A ∧ A.heap[w.heap.size + 1]? = some (.loop (rec_ .ready none)) ∧ A.heap[w.heap.size]? = some (.deferred (some [])))
      W1 hb1
      (fun k A A' h hc => ⟨hI k A A' h.1 (hc.calm (by omega)), hc.same _ _ h.2.1 (.inr rfl), hc.same _ _ h.2.2 (.inr rfl)⟩)
      ?_ ⟨hI _ _ _ h0 hc1, hL1, hK1⟩).mono ?_
    · rintro s x A hk ⟨hi, hl, hd⟩
      have hy := run_yield (P := P) (args := (enc x).toArray) hl (by simp [rec_, hlen])
      refine ⟨fn, _, assign, body, hy, ?_⟩
      refine roundIn_of_wpIn (F := Fence.wide) trivial ?_
      have hfit : Fits n (params F ps (enc x)) [] ⟨(ps.zip (enc x)).foldl (fun t x => t.setIfInBounds x.1 x.2) a.tmps, []⟩ :=
        Fits.params ps (enc x) hps ⟨hf.size, rfl, hf.slot⟩
      have ha := hasg (w.heap.size + 1) x A 0 _ hfit
      have e : (((ps.toArray.zip (enc x).toArray).foldl (fun tmps (x : Nat × Value) => tmps.setIfInBounds x.1 x.2) a.tmps)) = (ps.zip (enc x)).foldl (fun t x => t.setIfInBounds x.1 x.2) a.tmps := by simp
      show assign.wpIn (Fence.wide.inRound (w.heap.size + 1)) 0 P _ { tmps := (ps.toArray.zip (enc x).toArray).foldl (fun tmps (x : Nat × Value) => tmps.setIfInBounds x.1 x.2) a.tmps, defers := [] } A
      rw [e]
      refine Code.wpIn_mono ?_ ha
      rintro e a1 A1 ⟨F1, ds1, hf1, hq⟩
      cases e with
      | normal =>
        obtain ⟨rfl, hv, rfl⟩ := hq
        have hlt := lt_of_some hl
        refine ⟨_, run_beginRound hl rfl, ?_⟩
        have hl2 : (A1.putObj (w.heap.size + 1) (.loop { rec_ .ready none with state := .busy })).heap[w.heap.size + 1]? = some (.loop { rec_ .ready none with state := .busy }) := World.putObj_heap_same hlt
        have hd2 : (A1.putObj (w.heap.size + 1) (.loop { rec_ .ready none with state := .busy })).heap[w.heap.size]? = some (.deferred (some [])) := (World.putObj_heap_other (by omega)).trans hd
        have hp2 := hKb A1 (w.heap.size + 1) _ { rec_ .ready none with state := .busy } (by omega) hl
        have hb := hbody (w.heap.size + 1) s x F1 _ hk (hI _ _ _ hi (Calm.put (.loop { rec_ .ready none with state := .busy }) hl (by omega) rfl)) 0 a1 (hf1.congr (fr_has hv))
        refine Code.wpIn_mono ?_ hb
        have fin : ∀ (jump : Option Code) (A3 : World), KeepsFrom w.heap.size (A1.putObj (w.heap.size + 1) (.loop { rec_ .ready none with state := .busy })) A3 →
            (Instr.endRound (w.heap.size + 1) jump).run P A3 = .ok (.bool jump.isNone) (A3.putObj (w.heap.size + 1) (.loop (rec_ (if jump.isNone then .ready else .done) jump))) ∧
            A3.heap[w.heap.size + 1]? = some (.loop { rec_ .ready none with state := .busy }) ∧
            (A3.putObj (w.heap.size + 1) (.loop (rec_ (if jump.isNone then .ready else .done) jump))).heap[w.heap.size + 1]? = some (.loop (rec_ (if jump.isNone then .ready else .done) jump)) ∧
            (A3.putObj (w.heap.size + 1) (.loop (rec_ (if jump.isNone then .ready else .done) jump))).heap[w.heap.size]? = some (.deferred (some [])) := fun jump A3 hk3 => by
          have hl3 := hk3.same _ _ (by omega) hl2 rfl
          have hd3 := hk3.same _ _ (Nat.le_refl _) hd2 rfl
          exact ⟨run_endRound (P := P) jump hl3, hl3, World.putObj_heap_same (lt_of_some hl3), (World.putObj_heap_other (by omega)).trans hd3⟩
        rintro e a3 A3 ⟨F3, ds3, _, hq3⟩
        cases e with
        | normal =>
          obtain ⟨hk3, hkp, hi3⟩ := hq3
          obtain ⟨hr, hl3, hl4, hd4⟩ := fin none A3 hk3
          exact ⟨_, _, hr, ⟨rfl, ⟨hI _ _ _ hi3 (Calm.put _ hl3 (by omega) rfl), hl4, hd4⟩, hKt (hKt hp2 hkp) (hKb A3 _ _ _ (by omega) hl3)⟩⟩
        | ret => exact hq3.elim
        | exit id => exact hq3.elim
        | goto t => exact hq3.elim
        | panic ch => exact hq3.elim
        | outgrown => exact hq3.elim
      | ret => exact hq.elim
      | exit id => exact hq.elim
      | goto t => exact hq.elim
      | panic ch => exact hq.elim
      | outgrown => exact hq.elim
    · rintro e A ⟨⟨v, rfl⟩, s, hS, hi, hl, hd⟩
      have hr := run_endLoop (P := P) hl (by simp [rec_])
      refine ⟨none, _, hr, ?_⟩
      have hq := hdone w.heap.size s _ (Nat.le_refl _) hS (hI _ _ _ hi (Calm.put (.loop { rec_ .ready none with state := .exhausted }) hl (by omega) rfl)) ((World.putObj_heap_other (by omega)).trans hd)
      exact ⟨F, _, ⟨hf.size, by rw [hf.defers]; rfl, hf.slot⟩, hq⟩
end range
end Sx
end Go.Proofs.YtfocnbmihcnaoaaGreatDoor
