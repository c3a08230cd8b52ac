/- Merged: SxE, SxF, SxFail, SxM, SxR. -/
import Derived.Test.YtfocnbmihcnaoaaGreatDoorSxGo
import Derived.RecoverIn
import Derived.MapKept
import Derived.Laws.IdiomRangeMap
import Derived.Test.YtfocnbmihcnaoaaGreatDoorSxD
import Derived.Laws.OwnMore
namespace Go.Proofs.YtfocnbmihcnaoaaGreatDoor
set_option maxRecDepth 100000
namespace Sx
open Go Go.RowKit
section act
variable {P : Program} {r : Nat} {ops : Array Oper} {md : Region.Mode} {S : World → Prop} {Q : Exit → Act → World → Prop}
/-- Whatever order is picked, and S holds behind every operation. -/
def AnyS (r : Nat) (P : Program) (md : Region.Mode) (ops : Array Oper) (Q : Exit → Act → World → Prop) (S : World → Prop) : Nat → Array Bool → Act → World → Prop
  | 0, x, a, w => Region.ready md ops x = [] ∧ Q .normal a w
  | f + 1, x, a, w => (Region.ready md ops x = [] → Q .normal a w) ∧ ∀ i ∈ Region.ready md ops x, wpOpIn En r P ops Q i (fun a' w' => S w' ∧ AnyS r P md ops Q S f (x.setIfInBounds i true) a' w') a w
theorem anyIn_of_S : ∀ (f : Nat) (x : Array Bool) (a : Act) (w : World), AnyS r P md ops Q S f x a w → wpAnyIn En r P md ops Q f x a w
  | 0, _, _, _, h => h
  | f + 1, _, _, _, h => ⟨h.1, fun i hi => wpOpIn_mono (fun a' w' h' => anyIn_of_S f _ a' w' h'.2) (h.2 i hi)⟩
theorem anyS_first {i : Nat} {oi : Oper} {v : Value} (hi : ops[i]? = some oi) (hsel : ∀ (j : Nat) (o : Oper) cs b, ops[j]? = some o → o.op ≠ .select cs b)
    (hQ : ∀ c a w, ¬ Q (.panic c) a w) :
    ∀ (fuel : Nat) (x : Array Bool) (a : Act) (w : World),
      (∀ j oj, ops[j]? = some oj → j ≠ i → x.getD j true = false → (∀ e ∈ oj.after, Region.binds md e = true → e.on ≠ i) → oi.apart ops oj = true) →
      i ∈ Region.ready md ops x → YieldsS P ops S oi v a → S w →
      AnyS r P md ops Q S fuel (x.setIfInBounds i true) (a.put oi.dst v) w → AnyS r P md ops Q S (fuel + 1) x a w := by
  intro fuel
  induction fuel with
  | zero =>
    intro x a w _ hr hy hS H
    refine ⟨fun h => (by rw [h] at hr; cases hr), fun j hj => ?_⟩
    by_cases hji : j = i
    · subst hji; exact hy.op hi hS ⟨hS, H⟩
    · have := ready_mono hj hji
      rw [H.1] at this
      cases this
  | succ fuel ih =>
    intro x a w hfree hr hy hS H
    refine ⟨fun h => (by rw [h] at hr; cases hr), fun j hj => ?_⟩
    by_cases hji : j = i
    · subst hji; exact hy.op hi hS ⟨hS, H⟩
    · have h1 := H.2 j (ready_mono hj hji)
      obtain ⟨hjun, oj, hoj, hall⟩ := mem_ready.1 hj
      have hnot : ∀ e ∈ oj.after, Region.binds md e = true → e.on ≠ i := fun e he hb heq => by
        have h1 := hall e he hb
        have h0 := (mem_ready.1 hr).1
        rw [heq] at h1
        rw [getD_both h0] at h1
        cases h1
      have h2 := opIn_putS hoj (hfree j oj hoj hji hjun hnot) (fun cs b => hsel i oi cs b hi) (fun cs b => hsel j oj cs b hoj) hQ hy h1
      have hfree' : ∀ k ok, ops[k]? = some ok → k ≠ i → (x.setIfInBounds j true).getD k true = false →
          (∀ e ∈ ok.after, Region.binds md e = true → e.on ≠ i) → oi.apart ops ok = true := fun k ok hk hki hun hno => by
        refine hfree k ok hk hki ?_ hno
        by_cases hjk : j = k
        · subst hjk; exact hjun
        · rw [getD_set_ne true hjk] at hun; exact hun
      refine wpOpIn_mono (fun a' w' h3 => ⟨h3.2.1, ih (x.setIfInBounds j true) a' w' hfree' (ready_mono hr (Ne.symm hji)) h3.1 h3.2.1 ?_⟩) h2
      rw [Array.setIfInBounds_comm _ _ hji]
      exact h3.2.2
end act

section fr
variable {P : Program} {n : Nat} {C S : World → Prop} {F : Fr} {ds : List Deferred} {w : World}
theorem R_takeN {l : List Oper} {Q : Post} {g' : Nat} {L : List Nat} (i : Nat) (J : List Nat) (g : Nat) (S : World → Prop) (hg : g' = J.length + g + 1)
    (hB : (Region.noSelect l.toArray && (Region.ready .any l.toArray (lst l.length L)).contains i && Region.free .any l.toArray (lst l.length L) i && forcedB .any l.toArray i J (lst l.length L) && (nth l i).all (fun o => calm o.op)) = true)
    (hQ : ∀ c F ds w, ¬ Q (.panic c) F ds w) (hS : S w) (h : Qst P n l.toArray S (fun G => Tk P n l S Q (Rn P n l Q g (J.reverse ++ i :: L)) J G ds w) (nth l i) F ds) : Rn P n l Q g' L F ds w := by
  subst hg
  exact R_take i J S hB hQ hS h
theorem W_drawN {id : Nat} {l : List Oper} {Q : Post} (m s g : Nat) (C : World → Prop) (hm : P.follows .mixedOrders = true) (hB : beginB l.toArray m s = true) (hg : l.length - m = g) (hC : C w.drew)
    (h : Qst P n l.toArray C (fun G => ∀ w', C w' → Rn P n l Q g (List.range m).reverse G ds w') (l.take m) F ds) : W P none n (.region id l.toArray true) Q F ds w := by
  subst hg
  exact W_drawP m s C hm hB hC h
theorem R_done {l : List Oper} {Q : Post} {L : List Nat} (hB : (Region.ready .any l.toArray (lst l.length L)).isEmpty = true) (h : Q .normal F ds w) : Rn P n l Q 0 L F ds w := fun _ _ hf =>
  ⟨by simpa using hB, F, ds, hf, h⟩
/-- The region's rest, where S holds behind every operation: pure operations may be taken first, others branch. -/
def RnS (P : Program) (n : Nat) (l : List Oper) (S : World → Prop) (Q : Post) (g : Nat) (L : List Nat) (F : Fr) (ds : List Deferred) (w : World) : Prop :=
  ∀ r a, Fits n F ds a → AnyS r P .any l.toArray (lift n Q) S g (lst l.length L) a w
theorem W_drawS {id : Nat} {l : List Oper} {Q : Post} (g : Nat) (S : World → Prop) (hm : P.follows .mixedOrders = true) (hg : l.length = g) (h : RnS P n l S Q g [] F ds w.drew) : W P none n (.region id l.toArray true) Q F ds w := fun r a hf => by
  refine wpIn_region_any hm ?_
  subst hg
  have := anyIn_of_S _ _ _ _ (h r a hf)
  simpa [lst] using this
theorem S_take {l : List Oper} {Q : Post} {g' : Nat} {L : List Nat} (i g : Nat) (hg : g' = g + 1) (hB : (Region.noSelect l.toArray && (Region.ready .any l.toArray (lst l.length L)).contains i && Region.free .any l.toArray (lst l.length L) i && (nth l i).all (fun o => calm o.op)) = true)
    (hQ : ∀ c F ds w, ¬ Q (.panic c) F ds w) (hS : S w) (h : Qst P n l.toArray S (fun G => RnS P n l S Q g (i :: L) G ds w) (nth l i) F ds) : RnS P n l S Q g' L F ds w := fun r a hf => by
  subst hg
  have hQ' : ∀ c a w, ¬ lift n Q (.panic c) a w := fun c a w ⟨F, ds, _, h⟩ => hQ c F ds w h
  simp only [Bool.and_eq_true] at hB
  obtain ⟨⟨⟨hsel, hr⟩, hfree⟩, hc⟩ := hB
  have hr : i ∈ Region.ready .any l.toArray (lst l.length L) := by simpa using hr
  obtain ⟨_, o, ho, _⟩ := mem_ready.1 hr
  rw [nth_some ho] at hc h
  simp only [List.all_cons, List.all_nil, Bool.and_true] at hc
  have h := h a hf
  have : ∃ v, YieldsS P l.toArray S o v a ∧ ∃ G, Fits n G ds (a.put o.dst v) ∧ RnS P n l S Q g (i :: L) G ds w := by
    unfold wpQuiet at h
    by_cases hw : Region.wanted o (yielded l.toArray a.tmps) = true
    · rw [if_pos hw] at h
      obtain ⟨v, h1, G, hG, h2⟩ := h
      exact ⟨v, .inl ⟨hw, fun w' hw' => calm_value hc (h1 w' hw')⟩, G, hG, h2⟩
    · rw [if_neg hw] at h
      obtain ⟨G, hG, h2⟩ := h
      exact ⟨undef, .inr ⟨by simpa using hw, rfl⟩, G, hG, h2⟩
  obtain ⟨v, hy, G, hG, hT⟩ := this
  exact anyS_first ho (Region.noSelect_spec hsel) hQ' g _ a w (Region.free_spec ho hfree) hr hy hS (hT r _ hG)
/-- Whichever of those that can come up. -/
theorem S_any {l : List Oper} {Q : Post} {g' : Nat} {L : List Nat} (rs : List Nat) (g : Nat) (hg : g' = g + 1) (hB : (decide (Region.ready .any l.toArray (lst l.length L) = rs) && !rs.isEmpty) = true)
    (h : ∀ i ∈ rs, Lst P none n l.toArray (rnQ Q (fun G ds' w' => S w' ∧ RnS P n l S Q g (i :: L) G ds' w')) (nth l i) F ds w) : RnS P n l S Q g' L F ds w := fun r a hf => by
  subst hg
  simp only [Bool.and_eq_true, decide_eq_true_eq] at hB
  obtain ⟨hr, hne⟩ := hB
  refine ⟨fun e => (by rw [hr] at e; subst e; simp at hne), fun j hj => ?_⟩
  have hj' := hj
  rw [hr] at hj'
  obtain ⟨_, o, ho, _⟩ := mem_ready.1 hj
  refine op_of_lst ho ?_ (h j hj') hf
  rintro a w ⟨G, ds', hG, hS, hR⟩
  exact ⟨hS, hR r a hG⟩
theorem all1 {p : Nat → Prop} {i : Nat} (h : p i) : ∀ j ∈ [i], p j := by simpa using h
theorem all2 {p : Nat → Prop} {i k : Nat} (h : p i) (h2 : p k) : ∀ j ∈ [i, k], p j := by simp [h, h2]
theorem S_done {l : List Oper} {Q : Post} {L : List Nat} (hB : (Region.ready .any l.toArray (lst l.length L)).isEmpty = true) (h : Q .normal F ds w) : RnS P n l S Q 0 L F ds w := fun _ _ hf =>
  ⟨by simpa using hB, F, ds, hf, h⟩
/-- Frames that agree. -/
theorem W_frame {rd : Option Nat} {c : Code} {Q : Post} {G : Fr} (e : ∀ i, F i = G i) (h : W P rd n c Q G ds w) : W P rd n c Q F ds w := fun m a hf => h m a (hf.congr e)
theorem upd_comm {d e : Nat} {u v : Value} (hne : d ≠ e) (i : Nat) : upd (upd F d u) e v i = upd (upd F e v) d u i := by
  unfold upd
  by_cases h1 : i = e
  · subst h1; simp [beq_ne (Ne.symm hne)]
  · rw [beq_ne h1]; rfl
end fr
end Sx
namespace Sx
open Go Go.RowKit
section fr
variable {P : Program} {n : Nat} {S : World → Prop} {F : Fr} {ds : List Deferred} {w : World}
theorem S_takeP {l : List Oper} {Q : Post} {g' : Nat} {L : List Nat} {d : Nat} {op : Op} {ty : TypeId} {v : Value} {pos : String} {after : Array Edge} (i g : Nat) (hg : g' = g + 1) (hB : (Region.noSelect l.toArray && (Region.ready .any l.toArray (lst l.length L)).contains i && Region.free .any l.toArray (lst l.length L) i) = true)
    (hQ : ∀ c F ds w, ¬ Q (.panic c) F ds w) (hS : S w) (hn : nth l i = [⟨some d, op, ty, pos, after, none⟩]) (hp : Pu P F op ty v) (hd : Nat.blt d n = true) (h : RnS P n l S Q g (i :: L) (upd F d v) ds w) : RnS P n l S Q g' L F ds w := fun r a hf => by
  subst hg
  have hQ' : ∀ c a w, ¬ lift n Q (.panic c) a w := fun c a w ⟨F, ds, _, h⟩ => hQ c F ds w h
  simp only [Bool.and_eq_true] at hB
  obtain ⟨⟨hsel, hr⟩, hfree⟩ := hB
  have hr : i ∈ Region.ready .any l.toArray (lst l.length L) := by simpa using hr
  obtain ⟨_, o, ho, _⟩ := mem_ready.1 hr
  rw [nth_some ho] at hn
  obtain rfl : o = ⟨some d, op, ty, pos, after, none⟩ := (List.cons.inj hn).1
  exact anyS_first ho (Region.noSelect_spec hsel) hQ' g _ a w (Region.free_spec ho hfree) hr (.inl ⟨wanted_none rfl _, fun w' _ => by rw [hf.eval]; exact hp _ _ _ _⟩) hS (h r _ (show Fits n (updO F (some d) v) ds (a.put (some d) v) from hf.put v hd))
end fr
end Sx
namespace Sx
open Go Go.RowKit
/-- No call. -/
def plainOp : Op → Bool
  | .move _ | .assign _ | .pick _ _ _ | .build _ _ | .load _ _ | .binOp _ _ _ _ _ | .unOp _ _ _ | .convert _ _ _ | .makeInterface _ _ | .makeFunc _ _ _ | .fieldAddr _ _ _ | .field _ _ _ | .indexAddr _ _ _ | .index _ _ _ | .lookup _ _ _ _ | .typeAssert _ _ _ _ | .extract _ _ | .slice _ _ _ _ _ => true
  | .nilCheck _ => true
  | _ => false
section fr
variable {P : Program} {n : Nat} {C S : World → Prop} {F : Fr} {ds : List Deferred} {w : World}
theorem yv_bind {α : Type} {m : Sem α} {k : α → Sem Next} (hk : ∀ b w x w', (k b).run P w = .ok x w' → ∃ u, x = .value u) {w w' : World} {x : Next} (h : (m >>= k).run P w = .ok x w') : ∃ u, x = .value u := by
  rw [Sem.run_bind] at h
  cases hs : m.run P w with
  | ok v w2 => rw [hs] at h; exact hk _ _ _ _ h
  | halt v w2 => rw [hs] at h; cases h
theorem plain_value {o : Oper} {a : Act} {v : Value} (hc : plainOp o.op = true) (h : o.quietAt P a C w v) : (execOp a.eval o).run P w = .ok (.value v) w := by
  unfold Oper.quietAt at h
  have key : ∀ x w', (execOp a.eval o).run P w = .ok x w' → ∃ u, x = .value u := by
    intro x w' hx
    unfold execOp at hx
    split at hx <;> simp only [*, plainOp, Bool.false_eq_true] at hc
    all_goals first
      | exact run_value hx
      | (simp only [Sem.run_pure] at hx; cases hx; exact ⟨_, rfl⟩)
      | skip
    · exact yv_bind (fun b w x w' hx => by simp only [Sem.run_pure] at hx; cases hx; exact ⟨_, rfl⟩) hx
    · split at hx
      · cases hx
      · cases hx
      · cases hx
      · split at hx
        · cases hx
        · exact yv_bind (fun b w x w' hx => yv_bind (fun c w x w' hx => by
            split at hx
            · exact yv_bind (fun d w x w' hx => by simp only [Sem.run_pure] at hx; cases hx; exact ⟨_, rfl⟩) hx
            · simp only [Sem.run_pure] at hx; cases hx; exact ⟨_, rfl⟩) hx) hx
        · simp only [Sem.run_pure] at hx; cases hx; exact ⟨_, rfl⟩
      · simp only [Sem.run_pure] at hx; cases hx; exact ⟨_, rfl⟩
  cases hz : (execOp a.eval o).run P w with
  | halt x w' => rw [hz] at h; exact h.elim
  | ok x w' =>
    obtain ⟨u, rfl⟩ := key x w' hz
    rw [hz] at h
    simp only [Oper.quietUpon] at h
    rw [h.1, h.2]
theorem S_takeV {l : List Oper} {Q : Post} {g' : Nat} {L : List Nat} (i g : Nat) (hg : g' = g + 1) (hB : (Region.noSelect l.toArray && (Region.ready .any l.toArray (lst l.length L)).contains i && Region.free .any l.toArray (lst l.length L) i && (nth l i).all (fun o => plainOp o.op)) = true)
    (hQ : ∀ c F ds w, ¬ Q (.panic c) F ds w) (hS : S w) (h : Qst P n l.toArray S (fun G => RnS P n l S Q g (i :: L) G ds w) (nth l i) F ds) : RnS P n l S Q g' L F ds w := fun r a hf => by
  subst hg
  have hQ' : ∀ c a w, ¬ lift n Q (.panic c) a w := fun c a w ⟨F, ds, _, h⟩ => hQ c F ds w h
  simp only [Bool.and_eq_true] at hB
  obtain ⟨⟨⟨hsel, hr⟩, hfree⟩, hc⟩ := hB
  have hr : i ∈ Region.ready .any l.toArray (lst l.length L) := by simpa using hr
  obtain ⟨_, o, ho, _⟩ := mem_ready.1 hr
  rw [nth_some ho] at hc h
  simp only [List.all_cons, List.all_nil, Bool.and_true] at hc
  have h := h a hf
  have : ∃ v, YieldsS P l.toArray S o v a ∧ ∃ G, Fits n G ds (a.put o.dst v) ∧ RnS P n l S Q g (i :: L) G ds w := by
    unfold wpQuiet at h
    by_cases hw : Region.wanted o (yielded l.toArray a.tmps) = true
    · rw [if_pos hw] at h
      obtain ⟨v, h1, G, hG, h2⟩ := h
      exact ⟨v, .inl ⟨hw, fun w' hw' => plain_value hc (h1 w' hw')⟩, G, hG, h2⟩
    · rw [if_neg hw] at h
      obtain ⟨G, hG, h2⟩ := h
      exact ⟨undef, .inr ⟨by simpa using hw, rfl⟩, G, hG, h2⟩
  obtain ⟨v, hy, G, hG, hT⟩ := this
  exact anyS_first ho (Region.noSelect_spec hsel) hQ' g _ a w (Region.free_spec ho hfree) hr hy hS (hT r _ hG)
end fr
end Sx
namespace Sx
open Go Go.RowKit
section act
variable {P : Program} {r : Nat} {ops : Array Oper} {md : Region.Mode} {S : World → Prop} {Q : Exit → Act → World → Prop}
def FullX (ops : Array Oper) (x : Array Bool) : Prop := ∀ k o, ops[k]? = some o → x.getD k true = true
/-- What is listed waits for nothing that isn't. -/
def ClosedX (md : Region.Mode) (ops : Array Oper) (x : Array Bool) : Prop := ∀ k o, ops[k]? = some o → x.getD k true = true → ∀ e ∈ o.after, Region.binds md e = true → x.getD e.on true = true
theorem closed_set {j : Nat} {x : Array Bool} (h : ClosedX md ops x) (hj : j ∈ Region.ready md ops x) : ClosedX md ops (x.setIfInBounds j true) := by
  obtain ⟨h0, oj, hoj, hall⟩ := mem_ready.1 hj
  have up : ∀ q, x.getD q true = true → (x.setIfInBounds j true).getD q true = true := fun q hq => by
    by_cases e : j = q
    · subst e
      rcases Nat.lt_or_ge j x.size with hl | hl
      · simp [hl]
      · simp [hl]
    · rw [getD_set_ne true e]
      exact hq
  intro k o ho hk e he hb
  by_cases hkj : j = k
  · subst hkj
    rw [hoj] at ho
    cases ho
    have h1 := hall e he hb
    refine up _ ?_
    rcases Nat.lt_or_ge e.on x.size with hl | hl
    · simp [hl] at h1 ⊢
      exact h1
    · simp [Array.getElem?_eq_none hl] at h1
  · rw [getD_set_ne true hkj] at hk
    exact up _ (h k o ho hk e he hb)
/-- Whatever order is picked, and S holds behind every operation but the last. -/
def AnyT (r : Nat) (P : Program) (md : Region.Mode) (ops : Array Oper) (Q : Exit → Act → World → Prop) (S : World → Prop) : Nat → Array Bool → Act → World → Prop
  | 0, x, a, w => Region.ready md ops x = [] ∧ Q .normal a w
  | f + 1, x, a, w => (Region.ready md ops x = [] → Q .normal a w) ∧ ∀ i ∈ Region.ready md ops x, wpOpIn En r P ops Q i (fun a' w' => (S w' ∨ FullX ops (x.setIfInBounds i true)) ∧ AnyT r P md ops Q S f (x.setIfInBounds i true) a' w') a w
theorem anyIn_of_T : ∀ (f : Nat) (x : Array Bool) (a : Act) (w : World), AnyT r P md ops Q S f x a w → wpAnyIn En r P md ops Q f x a w
  | 0, _, _, _, h => h
  | f + 1, _, _, _, h => ⟨h.1, fun i hi => wpOpIn_mono (fun a' w' h' => anyIn_of_T f _ a' w' h'.2) (h.2 i hi)⟩
theorem anyT_first {i k : Nat} {oi ok : Oper} {v : Value} (hi : ops[i]? = some oi) (hk : ops[k]? = some ok) (hki : ∃ e ∈ ok.after, Region.binds md e = true ∧ e.on = i) (hne : k ≠ i) (hsel : ∀ (j : Nat) (o : Oper) cs b, ops[j]? = some o → o.op ≠ .select cs b)
    (hQ : ∀ c a w, ¬ Q (.panic c) a w) :
    ∀ (fuel : Nat) (x : Array Bool) (a : Act) (w : World), ClosedX md ops x →
      (∀ j oj, ops[j]? = some oj → j ≠ i → x.getD j true = false → (∀ e ∈ oj.after, Region.binds md e = true → e.on ≠ i) → oi.apart ops oj = true) →
      i ∈ Region.ready md ops x → YieldsS P ops S oi v a → S w →
      AnyT r P md ops Q S fuel (x.setIfInBounds i true) (a.put oi.dst v) w → AnyT r P md ops Q S (fuel + 1) x a w := by
  intro fuel
  induction fuel with
  | zero =>
    intro x a w _ _ hr hy hS H
    refine ⟨fun h => (by rw [h] at hr; cases hr), fun j hj => ?_⟩
    by_cases hji : j = i
    · subst hji; exact hy.op hi hS ⟨.inl hS, H⟩
    · have := ready_mono hj hji
      rw [H.1] at this
      cases this
  | succ fuel ih =>
    intro x a w hcl hfree hr hy hS H
    refine ⟨fun h => (by rw [h] at hr; cases hr), fun j hj => ?_⟩
    by_cases hji : j = i
    · subst hji; exact hy.op hi hS ⟨.inl hS, H⟩
    · have hnf : ¬ FullX ops ((x.setIfInBounds i true).setIfInBounds j true) := fun hfull => by
        have h0 := (mem_ready.1 hr).1
        obtain ⟨e, he, hb, hon⟩ := hki
        by_cases hkj : j = k
        · subst hkj
          obtain ⟨_, o, ho, hall⟩ := mem_ready.1 hj
          rw [hk] at ho
          cases ho
          have h1 := hall e he hb
          rw [hon, getD_both h0] at h1
          cases h1
        · have h1 := hfull k ok hk
          rw [getD_set_ne true hkj, getD_set_ne true (Ne.symm hne)] at h1
          have h2 := hcl k ok hk h1 e he hb
          rw [hon, h0] at h2
          cases h2
      have h1 := wpOpIn_mono (K' := fun a' w' => S w' ∧ AnyT r P md ops Q S fuel ((x.setIfInBounds i true).setIfInBounds j true) a' w') (fun a' w' h => ⟨h.1.resolve_right hnf, h.2⟩) (H.2 j (ready_mono hj hji))
      obtain ⟨hjun, oj, hoj, hall⟩ := mem_ready.1 hj
      have hnot : ∀ e ∈ oj.after, Region.binds md e = true → e.on ≠ i := fun e he hb heq => by
        have h1 := hall e he hb
        have h0 := (mem_ready.1 hr).1
        rw [heq] at h1
        rw [getD_both h0] at h1
        cases h1
      have h2 := opIn_putS hoj (hfree j oj hoj hji hjun hnot) (fun cs b => hsel i oi cs b hi) (fun cs b => hsel j oj cs b hoj) hQ hy h1
      have hfree' : ∀ k ok, ops[k]? = some ok → k ≠ i → (x.setIfInBounds j true).getD k true = false →
          (∀ e ∈ ok.after, Region.binds md e = true → e.on ≠ i) → oi.apart ops ok = true := fun k ok hk hki hun hno => by
        refine hfree k ok hk hki ?_ hno
        by_cases hjk : j = k
        · subst hjk; exact hjun
        · rw [getD_set_ne true hjk] at hun; exact hun
      refine wpOpIn_mono (fun a' w' h3 => ⟨.inl h3.2.1, ih (x.setIfInBounds j true) a' w' (closed_set hcl hj) hfree' (ready_mono hr (Ne.symm hji)) h3.1 h3.2.1 ?_⟩) h2
      rw [Array.setIfInBounds_comm _ _ hji]
      exact h3.2.2
end act
section fr
variable {P : Program} {n : Nat} {S : World → Prop} {F : Fr} {ds : List Deferred} {w : World}
/-- The region's rest, where S holds behind every operation but the last. -/
def RnT (P : Program) (n : Nat) (l : List Oper) (S : World → Prop) (Q : Post) (g : Nat) (L : List Nat) (F : Fr) (ds : List Deferred) (w : World) : Prop :=
  ClosedX .any l.toArray (lst l.length L) → ∀ r a, Fits n F ds a → AnyT r P .any l.toArray (lift n Q) S g (lst l.length L) a w
theorem W_drawT {id : Nat} {l : List Oper} {Q : Post} (g : Nat) (S : World → Prop) (hm : P.follows .mixedOrders = true) (hg : l.length = g) (h : RnT P n l S Q g [] F ds w.drew) : W P none n (.region id l.toArray true) Q F ds w := fun r a hf => by
  refine wpIn_region_any hm ?_
  subst hg
  have := anyIn_of_T _ _ _ _ (h (fun k o ho hk => by
    have hl : k < l.length := by simpa using (Array.getElem?_eq_some_iff.1 ho).1
    simp [lst, hl] at hk) r a hf)
  simpa [lst] using this
/-- Does one wait for it? -/
def waitsFor (l : List Oper) (i k : Nat) : Bool := k != i && (nth l k).any (fun o => o.after.any fun e => Region.binds .any e && e.on == i)
theorem T_takeV {l : List Oper} {Q : Post} {g' : Nat} {L : List Nat} (i k g : Nat) (hg : g' = g + 1) (hB : (Region.noSelect l.toArray && (Region.ready .any l.toArray (lst l.length L)).contains i && Region.free .any l.toArray (lst l.length L) i && (nth l i).all (fun o => plainOp o.op) && waitsFor l i k) = true)
    (hQ : ∀ c F ds w, ¬ Q (.panic c) F ds w) (hS : S w) (h : Qst P n l.toArray S (fun G => RnT P n l S Q g (i :: L) G ds w) (nth l i) F ds) : RnT P n l S Q g' L F ds w := fun hcl r a hf => by
  subst hg
  have hQ' : ∀ c a w, ¬ lift n Q (.panic c) a w := fun c a w ⟨F, ds, _, h⟩ => hQ c F ds w h
  simp only [Bool.and_eq_true] at hB
  obtain ⟨⟨⟨⟨hsel, hr⟩, hfree⟩, hc⟩, hwt⟩ := hB
  have hr : i ∈ Region.ready .any l.toArray (lst l.length L) := by simpa using hr
  obtain ⟨_, o, ho, _⟩ := mem_ready.1 hr
  rw [nth_some ho] at hc h
  simp only [List.all_cons, List.all_nil, Bool.and_true] at hc
  have h := h a hf
  have hcl' := closed_set hcl hr
  have : ∃ v, YieldsS P l.toArray S o v a ∧ ∃ G, Fits n G ds (a.put o.dst v) ∧ RnT P n l S Q g (i :: L) G ds w := by
    unfold wpQuiet at h
    by_cases hw : Region.wanted o (yielded l.toArray a.tmps) = true
    · rw [if_pos hw] at h
      obtain ⟨v, h1, G, hG, h2⟩ := h
      exact ⟨v, .inl ⟨hw, fun w' hw' => plain_value hc (h1 w' hw')⟩, G, hG, h2⟩
    · rw [if_neg hw] at h
      obtain ⟨G, hG, h2⟩ := h
      exact ⟨undef, .inr ⟨by simpa using hw, rfl⟩, G, hG, h2⟩
  obtain ⟨v, hy, G, hG, hT⟩ := this
  unfold waitsFor at hwt
  simp only [Bool.and_eq_true, bne_iff_ne, ne_eq] at hwt
  obtain ⟨hki, hwt⟩ := hwt
  obtain ⟨ok, hok, he⟩ := List.any_eq_true.1 hwt
  have hk : l.toArray[k]? = some ok := by
    rw [nth_eq] at hok
    simpa using hok
  obtain ⟨e, he1, he2⟩ := Array.any_eq_true'.1 he
  simp only [Bool.and_eq_true, beq_iff_eq] at he2
  exact anyT_first ho hk ⟨e, he1, he2.1, he2.2⟩ hki (Region.noSelect_spec hsel) hQ' g _ a w hcl (Region.free_spec ho hfree) hr hy hS (hT hcl' r _ hG)
theorem T_any {l : List Oper} {Q : Post} {g' : Nat} {L : List Nat} (rs : List Nat) (g : Nat) (hg : g' = g + 1) (hB : (decide (Region.ready .any l.toArray (lst l.length L) = rs) && !rs.isEmpty) = true)
    (h : ∀ i ∈ rs, Lst P none n l.toArray (rnQ Q (fun G ds' w' => S w' ∧ RnT P n l S Q g (i :: L) G ds' w')) (nth l i) F ds w) : RnT P n l S Q g' L F ds w := fun hcl r a hf => by
  subst hg
  simp only [Bool.and_eq_true, decide_eq_true_eq] at hB
  obtain ⟨hr, hne⟩ := hB
  refine ⟨fun e => (by rw [hr] at e; subst e; simp at hne), fun j hj => ?_⟩
  have hj' := hj
  rw [hr] at hj'
  obtain ⟨_, o, ho, _⟩ := mem_ready.1 hj
  refine op_of_lst ho ?_ (h j hj') hf
  rintro a w ⟨G, ds', hG, hS, hR⟩
  exact ⟨.inl hS, hR (closed_set hcl hj) r a hG⟩
/-- The last one. -/
theorem T_last {l : List Oper} {Q : Post} {L : List Nat} (i : Nat) (hB : (decide (Region.ready .any l.toArray (lst l.length L) = [i]) && (lst l.length (i :: L)).all id && (Region.ready .any l.toArray (lst l.length (i :: L))).isEmpty) = true)
    (h : Lst P none n l.toArray (rnQ Q (fun G ds' w' => Q .normal G ds' w')) (nth l i) F ds w) : RnT P n l S Q 1 L F ds w := fun _ r a hf => by
  simp only [Bool.and_eq_true, decide_eq_true_eq] at hB
  obtain ⟨⟨hr, hall⟩, hem⟩ := hB
  refine ⟨fun e => (by rw [hr] at e; cases e), fun j hj => ?_⟩
  have hj' := hj
  rw [hr] at hj'
  obtain rfl := List.mem_singleton.1 hj'
  obtain ⟨_, o, ho, _⟩ := mem_ready.1 hj
  refine op_of_lst ho ?_ h hf
  rintro a w ⟨G, ds', hG, hR⟩
  refine ⟨.inr fun k o' ho' => ?_, List.isEmpty_iff.1 hem, G, ds', hG, hR⟩
  have h1 := Array.all_eq_true.1 hall
  by_cases hk : k < (lst l.length (j :: L)).size
  · have := h1 k hk
    show (lst l.length (j :: L)).getD k true = true
    simp only [Array.getD, hk, dif_pos]
    exact this
  · show (lst l.length (j :: L)).getD k true = true
    simp [hk]
end fr
end Sx
namespace Sx
open Go Go.RowKit
section fail
variable {P : Program} {n : Nat}
/-- What holds where the function returns, and where it panics. -/
def RE (R K : Value → World → Prop) : Ending → World → Prop
  | .returned v, w => R v w
  | .panicked chain, w => ∃ v, chain = [{ v, recovered := false }] ∧ K v w
  | .outgrown, _ => False
/-- The function returns and leaves R, or panics with a value and leaves K. -/
def Tries (P : Program) (f : Nat) (args : Array Value) (w : World) (R K : Value → World → Prop) : Prop := Enters P f ∧ Calls P f args w (RE R K)
theorem Tries.mono {f : Nat} {args : Array Value} {w : World} {R K R' K' : Value → World → Prop} (h : Tries P f args w R K) (hr : ∀ v w', R v w' → R' v w') (hk : ∀ v w', K v w' → K' v w') : Tries P f args w R' K' :=
  ⟨h.1, h.2.mono fun e w' he => by
    cases e with
    | returned v => exact hr v w' he
    | panicked chain =>
      obtain ⟨v, hc, hv⟩ := he
      exact ⟨v, hc, hk v w' hv⟩
    | outgrown => exact he⟩
theorem Does.tries {f : Nat} {args : Array Value} {w : World} {R K : Value → World → Prop} (h : Does P f args w R) : Tries P f args w R K :=
  ⟨h.1, h.2.mono fun e w' he => by
    obtain ⟨v, rfl, hv⟩ := he
    exact hv⟩
theorem Tries.does {f : Nat} {args : Array Value} {w : World} {R : Value → World → Prop} (h : Tries P f args w R (fun _ _ => False)) : Does P f args w R :=
  ⟨h.1, h.2.mono fun e w' he => by
    cases e with
    | returned v => exact ⟨v, rfl, he⟩
    | panicked chain =>
      obtain ⟨v, _, hv⟩ := he
      exact hv.elim
    | outgrown => exact he.elim⟩
def retF (P : Program) (rs : List ResultVar) (R K : Value → World → Prop) : Post
  | .ret, F, ds, w | .normal, F, ds, w => ds = [] ∧ ∃ vs, retV F P w rs vs ∧ R (oneOrMore vs) w
  | .panic chain, _, ds, w => ds = [] ∧ ∃ v, chain = [{ v, recovered := false }] ∧ K v w
  | _, _, _, _ => False
variable {F : Fr} {ds : List Deferred} {w : World}
theorem retF_r {rs : List ResultVar} {R K : Value → World → Prop} (h : retQ P rs R .ret F ds w) : retF P rs R K .ret F ds w := h
theorem retF_n {rs : List ResultVar} {R K : Value → World → Prop} (h : retQ P rs R .normal F ds w) : retF P rs R K .normal F ds w := h
theorem retF_p {rs : List ResultVar} {R K : Value → World → Prop} {v : Value} (h : K v w) : retF P rs R K (.panic [{ v, recovered := false }]) F [] w := ⟨rfl, v, rfl, h⟩
theorem seqQ_f {rd : Option Nat} {y : Code} {Q : Post} {c : List PanicEntry} (h : Q (.panic c) F ds w) : seqQ P rd n y Q (.panic c) F ds w := h
theorem blkQ_f {id : Nat} {Q : Post} {c : List PanicEntry} (h : Q (.panic c) F ds w) : blkQ id Q (.panic c) F ds w := h
theorem Tries_of {f : Nat} {fn : Func} {c : Code} {rs : List ResultVar} {args : List Value} {R K : Value → World → Prop} (hf : P.funcs[f]? = some fn) (hname : (fn.name == "runtime.NumGoroutine") = false)
    (hb : fn.body = some c) (hr : fn.results = rs.toArray) (hn : fn.ntmps = n) (hl : Nat.ble args.length n = true) (h4 : Nat.ble rs.length 4 = true) (h : W P none n c (retF P rs R K) (start args) [] w) : Tries P f args.toArray w R K := by
  refine ⟨enters_of hf hname hb, ?_⟩
  refine calls_of_wp hf hb ?_
  have hl' : args.length ≤ n := by simpa using hl
  refine Code.wp_mono (fun e a w hq => ?_) (wpIn_wide.1 (h 0 _ ⟨by simp [hn]; omega, rfl, fun i => start_eq args _ i⟩))
  obtain ⟨G, ds, hg, hq⟩ := hq
  cases e with
  | normal =>
    obtain ⟨rfl, vs, hv, hR⟩ := hq
    exact ⟨hg.defers, _, run_results hr (by simpa using h4) hg hv, hR⟩
  | ret =>
    obtain ⟨rfl, vs, hv, hR⟩ := hq
    exact ⟨hg.defers, _, run_results hr (by simpa using h4) hg hv, hR⟩
  | exit i => exact hq.elim
  | goto l => exact hq.elim
  | panic ch =>
    obtain ⟨rfl, v, hc, hK⟩ := hq
    exact ⟨hg.defers, v, hc, hK⟩
  | outgrown => exact hq.elim
variable {rd : Option Nat} {ops : Array Oper} {Q : Post} {rest : List Oper} {ty : TypeId} {pos : String} {after : Array Edge}
theorem Lst_enterF {o : Oper} {w' : World} {f : Nat} {args : Array Value} (hg : o.guard = none) (hrun : (execOp (ev F) o).run P w = .ok (.enter f args) w') (hd : okd n o.dst = true)
    (h : Calls P f args w' (RE (fun v w'' => Lst P rd n ops Q rest (updO F o.dst v) ds w'') (fun v w'' => Q (.panic [{ v, recovered := false }]) F ds w''))) : Lst P rd n ops Q (o :: rest) F ds w := fun m a hf => by
  unfold wpListIn
  rw [if_pos (wanted_none hg _)]
  refine ⟨fun f _ => E_fn rd f, ?_⟩
  rw [hf.eval, sem_same (no_defer hrun (by simp)), hrun, Oper.uponIn_enter]
  refine ⟨E_one rd m, E_calls.2 (h.mono ?_)⟩
  rintro e w2 he
  cases e with
  | returned v => exact he m _ (hf.put v hd)
  | panicked chain =>
    obtain ⟨v, rfl, hv⟩ := he
    exact ⟨F, ds, hf, hv⟩
  | outgrown => exact he.elim
/-- A call of a function that may panic. -/
theorem Lst_callF {d : Option Nat} {f : Operand} {as : List Operand} {cs : List Value} {g : Nat} {ts : Array TypeId} (hf : ev F f = .func (.func g) #[] cs.toArray) (hd : okd n d = true)
    (h : Tries P g (evs F as ++ cs).toArray w (fun v w' => Lst P rd n ops Q rest (updO F d v) ds w') (fun v w' => Q (.panic [{ v, recovered := false }]) F ds w')) : Lst P rd n ops Q (⟨d, .call { callee := .value f, args := as.toArray, argTypes := ts }, ty, pos, after, none⟩ :: rest) F ds w :=
  Lst_enterF rfl (by
    have e := h.1 (evs F as ++ cs).toArray w
    have e2 := map_evs (F := F) as
    simp only [execOp, resolve, hf, Deferred.ofValue, invoke, Sem.run_bind, Sem.run_pure, Result.andThen, e2]
    simpa using e) hd h.2
/-- panic(x). -/
theorem Lst_panic {d : Option Nat} {x : Operand} {t : TypeId} {v : Value} (hx : ev F x = .iface t v) (h : Q (.panic [{ v := .iface t v, recovered := false }]) F ds w) : Lst P rd n ops Q (⟨d, .panic x, ty, pos, after, none⟩ :: rest) F ds w := fun m a hf => by
  unfold wpListIn
  rw [if_pos (wanted_none rfl _)]
  refine ⟨fun f _ => E_fn rd f, ?_⟩
  have hrun : (execOp (ev F) ⟨d, .panic x, ty, pos, after, none⟩).run P w = .halt (.panic (.iface t v)) w := by
    simp [execOp, hx, Instr.panic, goPanic]
  rw [hf.eval, sem_same (by intro c; simp), hrun, Oper.uponIn_panic]
  exact ⟨F, ds, hf, h⟩
/-- defer f(). -/
theorem Lst_defer {f : Operand} {cs : List Value} {g : Nat} {ts : Array TypeId} (hf : ev F f = .func (.func g) #[] cs.toArray)
    (h : Lst P none n ops Q rest F (⟨.fn (.func g) cs.toArray, #[]⟩ :: ds) w) : Lst P none n ops Q (⟨none, .defer { callee := .value f, args := #[], argTypes := ts }, ty, pos, after, none⟩ :: rest) F ds w := fun m a hft => by
  unfold wpListIn
  rw [if_pos (wanted_none rfl _)]
  refine ⟨fun f _ => E_fn none f, ?_⟩
  have hrun : (execOp (ev F) ⟨none, .defer { callee := .value f, args := #[], argTypes := ts }, ty, pos, after, none⟩).run P w = .ok (.defer ⟨.fn (.func g) cs.toArray, #[]⟩) w := by
    simp [execOp, resolve, hf, Deferred.ofValue]
  rw [hft.eval]
  have hs : ∀ o : Oper, o.semAt (E none).round (ev F) = execOp (ev F) o := fun o => rfl
  rw [hs, hrun, Oper.uponIn_defer]
  exact h m _ ⟨hft.size, by simp [Act.put, hft.defers], hft.slot⟩
/-! ### Leaving with deferred calls -/
def retD (P : Program) (n : Nat) (fn : Func) (R : Ending → World → Prop) : Post
  | .ret, F, ds, w | .normal, F, ds, w => ∀ t : Array Value, t.size = n → (∀ i, t.getD i undef = F i) → LeavesIn Fence.wide 0 P fn t R ds .returning w
  | .panic chain, F, ds, w => ∀ t : Array Value, t.size = n → (∀ i, t.getD i undef = F i) → LeavesIn Fence.wide 0 P fn t R ds (.panicking chain) w
  | _, _, _, _ => False
theorem Tries_of_defers {f : Nat} {fn : Func} {c : Code} {args : List Value} {R K : Value → World → Prop} (hf : P.funcs[f]? = some fn) (hname : (fn.name == "runtime.NumGoroutine") = false)
    (hb : fn.body = some c) (hn : fn.ntmps = n) (hl : Nat.ble args.length n = true) (h : W P none n c (retD P n fn (RE R K)) (start args) [] w) : Tries P f args.toArray w R K := by
  refine ⟨enters_of hf hname hb, callsIn_wide.1 (callsIn_of_wp_defers (F := Fence.wide) (n := 0) hf hb trivial ?_ rfl)⟩
  have hl' : args.length ≤ n := by simpa using hl
  refine Code.wpIn_mono (fun e a w hq => ?_) (h 0 _ ⟨by simp [hn]; omega, rfl, fun i => start_eq args _ i⟩)
  obtain ⟨G, ds, hg, hq⟩ := hq
  cases e with
  | normal => show LeavesIn _ _ _ _ _ _ a.defers _ _; rw [hg.defers]; exact hq a.tmps hg.size hg.slot
  | ret => show LeavesIn _ _ _ _ _ _ a.defers _ _; rw [hg.defers]; exact hq a.tmps hg.size hg.slot
  | exit i => exact hq.elim
  | goto l => exact hq.elim
  | panic ch => show LeavesIn _ _ _ _ _ _ a.defers _ _; rw [hg.defers]; exact hq a.tmps hg.size hg.slot
  | outgrown => exact hq.elim
/-- One deferred call of a Go function, and nothing behind it. -/
theorem leave1 {fn : Func} {t : Array Value} {R : Ending → World → Prop} {g : Nat} {cs : List Value} {u u' : FrameMode} (hu : u ≠ .run) (hg : Enters P g) (S : World → Prop)
    (h : CallsDIn Fence.wide 0 P g cs.toArray u w fun e v w' => (∃ x, e = .returned x) ∧ v = u' ∧ S w') (hL : ∀ w', S w' → LeavesIn Fence.wide 0 P fn t R [] (settle u') w') : LeavesIn Fence.wide 0 P fn t R [⟨.fn (.func g) cs.toArray, #[]⟩] u w := by
  refine leavesIn_cons (f := g) (args := cs.toArray) hu (fun h => by cases h) ?_ (fun _ _ => trivial) ?_
  · have := hg cs.toArray w
    simpa [invoke] using this
  · refine CallsDIn.mono h ?_
    rintro e v w' ⟨⟨x, rfl⟩, rfl, hS⟩
    exact hL w' hS
/-- A deferred function whose first deed is to recover. -/
def retU (R : World → Prop) : Post
  | .ret, _, ds, w | .normal, _, ds, w => ds = [] ∧ R w
  | _, _, _, _ => False
theorem D_recover {g m d id : Nat} {fn : Func} {y : Code} {args : List Value} {u u' : FrameMode} {rv : Value} {S : World → Prop} {ts : TypeId} {ps : String} {af : Array Edge} (hf : P.funcs[g]? = some fn)
    (hb : fn.body = some (.seq (.region id #[⟨some d, .call { callee := .builtin .recover, args := #[], argTypes := #[] }, ts, ps, af, none⟩] false) y)) (hr : fn.results = #[]) (hn : fn.ntmps = n) (hl : Nat.ble args.length n = true) (hd : Nat.blt d n = true)
    (hrec : (u = .panicking [{ v := rv, recovered := false }] ∧ u' = .panicking [{ v := rv, recovered := true }]) ∨ (u = .returning ∧ u' = u ∧ rv = .nilIface))
    (h : W P none n y (retU S) (upd (start args) d rv) [] w) : CallsDIn Fence.wide m P g args.toArray u w fun e v w' => (∃ x, e = .returned x) ∧ v = u' ∧ S w' := by
  have hl' : args.length ≤ n := by simpa using hl
  refine callsDIn_of_wpSIn hf hb trivial fun c₀ cs hc => ?_
  refine wpSIn_seq (wpSIn_region ?_)
  have hfit : Fits n (start args) [] { tmps := args.toArray ++ Array.replicate (fn.ntmps - args.toArray.size) undef, defers := [] } := ⟨by simp [hn]; omega, rfl, fun i => start_eq args _ i⟩
  have key : ∀ cs', (∃ v', cs' = { c₀ with mode := v' } :: cs ∧ v' = u') → y.wpSIn Fence.wide m P (bodyPostS P fn c₀ cs fun e v w' => (∃ x, e = .returned x) ∧ v = u' ∧ S w') (Act.put { tmps := args.toArray ++ Array.replicate (fn.ntmps - args.toArray.size) undef, defers := [] } (some d) rv) cs' w := by
    rintro cs' ⟨v', rfl, rfl⟩
    refine wpSIn_of_wpIn rfl (Code.wpIn_mono (fun e a w' hq => ?_) (h m _ (hfit.put (o := some d) rv hd)))
    obtain ⟨G, ds, hg, hq⟩ := hq
    have hres : (results fn a.tmps).run P w' = .ok (.tuple #[]) w' := run_results (rs := []) (vs := []) hr (by decide) hg trivial
    cases e with
    | normal => exact ⟨hg.defers.trans hq.1, _, rfl, _, hres, ⟨_, rfl⟩, rfl, hq.2⟩
    | ret => exact ⟨hg.defers.trans hq.1, _, rfl, _, hres, ⟨_, rfl⟩, rfl, hq.2⟩
    | exit i => exact hq.elim
    | goto l => exact hq.elim
    | panic ch => exact hq.elim
    | outgrown => exact hq.elim
  have hrun : ∀ ρ, (execOp ρ ⟨some d, .call { callee := .builtin .recover, args := #[], argTypes := #[] }, ts, ps, af, none⟩).run P w = .ok .recover w := fun ρ => by
    simp [execOp, resolve, invoke, builtin]
  have hz : List.range (#[(⟨some d, .call { callee := .builtin .recover, args := #[], argTypes := #[] }, ts, ps, af, none⟩ : Oper)]).size = [0] := rfl
  rw [hz]
  unfold wpOpsSIn
  simp only [List.getElem?_toArray, List.getElem?_cons_zero]
  refine ⟨fun _ _ => trivial, ?_⟩
  rw [if_pos (wanted_none rfl _), hrun]
  rcases hrec with ⟨hu, hu'⟩ | ⟨hu, hu', hv⟩
  · have hrc : recoverD (c₀ :: cs) = some (rv, { c₀ with mode := u' } :: cs) := by
      simp only [recoverD, hc, hu, hu']
    rw [hrc]
    exact key _ ⟨_, rfl, rfl⟩
  · have hrc : recoverD (c₀ :: cs) = none := by
      simp only [recoverD, hc, hu]
    rw [hrc]
    subst hv
    have hsame : c₀ :: cs = { c₀ with mode := u' } :: cs := by rw [hu', ← hc]
    show Exit.thenS _ _ _ _ _ _
    rw [hsame]
    exact key _ ⟨_, rfl, rfl⟩
/-! ### Values of an interface type -/
theorem P_ifnil {t t' : TypeId} {x : Operand} {v : Value} {r : Bool} {ms : Array (String × TypeId)} (hx : ev F x = v) (ht : P.underlying t = some (.interface ms)) (hv : (v = .nilIface ∧ r = true) ∨ ∃ u z, v = .iface u z ∧ r = false) : Pu P F (.binOp .eql t x (.const .nilIface) t') ty (.bool r) :=
  fun _ _ _ w => by
    have hg : (eqGuard .eql t x (.const .nilIface) v .nilIface).run P w = .ok () w := by
      rcases hv with ⟨rfl, _⟩ | ⟨u, z, rfl, _⟩ <;> simp [eqGuard]
    have h : ∀ d : Nat, (Op.equalIn (d + 1) t v .nilIface).run P w = .ok r w := fun d => by
      rcases hv with ⟨rfl, rfl⟩ | ⟨u, z, rfl, rfl⟩ <;> simp [Op.equalIn, run_underlying ht]
    have h2 : (Op.equal t v .nilIface).run P w = .ok r w := by simp [Op.equal, Op.maxDepth, h 9999]
    have hb : (binOp .eql t v .nilIface).run P w = .ok (.bool r) w := by
      rcases hv with ⟨rfl, rfl⟩ | ⟨u, z, rfl, rfl⟩ <;> (simp only [binOp, Sem.run_bind, h2]; rfl)
    exact bin_run hx rfl hg hb
theorem P_iface {t : TypeId} {x : Operand} {u : TypeDesc} {v : Value} (hx : ev F x = v) (ht : P.underlying t = some u) (hu : ∀ ms, u ≠ .interface ms) : Pu P F (.makeInterface t x) ty (.iface t v) :=
  fun _ _ _ w => by
    cases u <;> first | exact absurd rfl (hu _) | simp [execOp, hx, Instr.makeInterface, run_underlying ht]
theorem P_assert {t a : TypeId} {x : Operand} {u : TypeDesc} {v : Value} (hx : ev F x = .iface a v) (ht : P.underlying a = some u) (hu : ∀ ms, u ≠ .interface ms) : Pu P F (.typeAssert x t a true) ty (.tuple #[v, .bool true]) :=
  fun _ _ _ w => by
    cases u <;> first | exact absurd rfl (hu _) | simp [execOp, hx, Instr.typeAssert, run_underlying ht]
end fail
end Sx
namespace Sx
open Go Go.RowKit Go.MapKept

/-- Two lists, member by member. -/
def All2 {β γ : Type} (r : β → γ → Prop) : List β → List γ → Prop
  | [], [] => True
  | a :: l, b :: m => r a b ∧ All2 r l m
  | _, _ => False
section lists
variable {α : Type}
def look : List (ByteArray × α) → ByteArray → Option α
  | [], _ => none
  | p :: l, k => if p.1 = k then some p.2 else look l k
def put : List (ByteArray × α) → ByteArray → α → List (ByteArray × α)
  | [], k, a => [(k, a)]
  | p :: l, k, a => if p.1 = k then (k, a) :: l else p :: put l k a
def del : List (ByteArray × α) → ByteArray → List (ByteArray × α)
  | [], _ => []
  | p :: l, k => if p.1 = k then l else p :: del l k
/-- An entry of a map's block, and what it stands for. -/
def Ent (R : Value → α → Prop) (e : MapEntry) (q : ByteArray × α) : Prop := e.key = .string q.1 ∧ R e.val q.2
theorem All2.len {β γ : Type} {r : β → γ → Prop} : ∀ {l : List β} {m : List γ}, All2 r l m → l.length = m.length
  | [], [], _ => rfl
  | _ :: _, _ :: _, h => by simp [All2.len h.2]
  | [], _ :: _, h => h.elim
  | _ :: _, [], h => h.elim
theorem All2.mono {β γ : Type} {r r' : β → γ → Prop} (hr : ∀ a b, r a b → r' a b) : ∀ {l : List β} {m : List γ}, All2 r l m → All2 r' l m
  | [], [], _ => trivial
  | _ :: _, _ :: _, h => ⟨hr _ _ h.1, All2.mono hr h.2⟩
  | [], _ :: _, h => h.elim
  | _ :: _, [], h => h.elim
theorem All2.append {β γ : Type} {r : β → γ → Prop} : ∀ {l l' : List β} {m m' : List γ}, All2 r l m → All2 r l' m' → All2 r (l ++ l') (m ++ m')
  | [], _, [], _, _, h' => h'
  | _ :: _, _, _ :: _, _, h, h' => ⟨h.1, All2.append h.2 h'⟩
  | [], _, _ :: _, _, h, _ => h.elim
  | _ :: _, _, [], _, h, _ => h.elim
theorem All2.keys {R : Value → α → Prop} : ∀ {l : List MapEntry} {m : List (ByteArray × α)}, All2 (Ent R) l m → ∀ x ∈ l, IsKey .string x.key
  | [], [], _, x, hx => by cases hx
  | e :: l, q :: m, h, x, hx => by
    rcases List.mem_cons.1 hx with rfl | hx
    · rw [h.1.1]; exact trivial
    · exact All2.keys h.2 x hx
  | [], _ :: _, h, _, _ => h.elim
  | _ :: _, [], h, _, _ => h.elim
theorem put_none : ∀ {l : List (ByteArray × α)} {k : ByteArray} {a : α}, look l k = none → put l k a = l ++ [(k, a)]
  | [], _, _, _ => rfl
  | p :: l, k, a, h => by
    unfold look at h
    unfold put
    by_cases e : p.1 = k
    · rw [if_pos e] at h; cases h
    · rw [if_neg e] at h ⊢; rw [put_none h]; rfl
/-- Where a key stands, or that it does not. -/
theorem find_ent {R : Value → α → Prop} (k : ByteArray) : ∀ (l : List MapEntry) (m : List (ByteArray × α)) (i : Nat), All2 (Ent R) l m →
    (look m k = none ∧ Instr.findNow .string (.string k) l i = some none ∧ ∀ x ∈ l, x.key ≠ .string k) ∨
    ∃ j e a, look m k = some a ∧ Instr.findNow .string (.string k) l i = some (some (i + j, e.val)) ∧ l[j]? = some e ∧ e.key = .string k ∧ R e.val a ∧
      (∀ v b, R v b → All2 (Ent R) (l.set j { e with val := v }) (put m k b)) ∧ All2 (Ent R) (l.eraseIdx j) (del m k)
  | [], [], i, _ => .inl ⟨rfl, rfl, by simp⟩
  | e :: l, q :: m, i, h => by
    have hs : Instr.sameNow .string (.string k) e.key = some (k == q.1) := by rw [h.1.1]; rfl
    by_cases hk : q.1 = k
    · right
      refine ⟨0, e, q.2, by simp [look, hk], ?_, rfl, by rw [h.1.1, hk], h.1.2, fun v b hb => ?_, ?_⟩
      · unfold Instr.findNow
        have hb : (k == q.1) = true := (MapKept.bytes_beq _ _).2 hk.symm
        rw [hs, hb]
        simp
      · rw [show put (q :: m) k b = (k, b) :: m by simp [put, hk]]
        exact ⟨⟨by rw [← hk]; exact h.1.1, hb⟩, h.2⟩
      · rw [show del (q :: m) k = m by simp [del, hk]]
        exact h.2
    · have hne : (k == q.1) = false := by
        cases hb : (k == q.1) with
        | false => rfl
        | true => exact absurd ((MapKept.bytes_beq _ _).1 hb).symm hk
      rcases find_ent k l m (i + 1) h.2 with ⟨h1, h2, h3⟩ | ⟨j, e', a, h1, h2, h3, h4, h5, h6, h7⟩
      · left
        refine ⟨by simp [look, hk, h1], ?_, ?_⟩
        · unfold Instr.findNow
          rw [hs, hne]
          exact h2
        · intro x hx
          rcases List.mem_cons.1 hx with rfl | hx
          · rw [h.1.1]; exact fun e => hk (by cases e; rfl)
          · exact h3 x hx
      · right
        refine ⟨j + 1, e', a, by simp [look, hk, h1], ?_, by simpa using h3, h4, h5, fun v b hb => ?_, ?_⟩
        · unfold Instr.findNow
          rw [hs, hne]
          rw [h2, Nat.add_assoc, Nat.add_comm 1 j]
        · rw [show put (q :: m) k b = q :: put m k b by simp [put, hk]]
          exact ⟨h.1, h6 v b hb⟩
        · rw [show del (q :: m) k = q :: del m k by simp [del, hk]]
          exact ⟨h.1, h7⟩
  | [], _ :: _, _, h => h.elim
  | _ :: _, [], _, h => h.elim
end lists

/-- Nothing but these blocks has turned; there may be new ones. -/
structure Chg (bs : List Nat) (w w' : World) : Prop where
  os : w'.os = w.os
  tape : w'.tape = w.tape
  output : w'.output = w.output
  size : w.heap.size ≤ w'.heap.size
  block : ∀ g, g < w.heap.size → g ∉ bs → w'.heap[g]? = w.heap[g]?
theorem Chg.refl (bs : List Nat) (w : World) : Chg bs w w := ⟨rfl, rfl, rfl, Nat.le_refl _, fun _ _ _ => rfl⟩
theorem Chg.trans {bs : List Nat} {x y z : World} (h : Chg bs x y) (k : Chg bs y z) : Chg bs x z :=
  ⟨k.os.trans h.os, k.tape.trans h.tape, k.output.trans h.output, Nat.le_trans h.size k.size, fun g h1 h2 => (k.block g (Nat.lt_of_lt_of_le h1 h.size) h2).trans (h.block g h1 h2)⟩
theorem Chg.mono {bs cs : List Nat} {w w' : World} (h : Chg bs w w') (hs : ∀ b ∈ bs, b ∈ cs) : Chg cs w w' :=
  ⟨h.os, h.tape, h.output, h.size, fun g h1 h2 => h.block g h1 fun e => h2 (hs g e)⟩
theorem Chg.of {bs : List Nat} {w w' : World} (h : Below w.heap.size w w') : Chg bs w w' := ⟨h.os, h.tape, h.output, h.size, fun g h1 _ => h.block g h1⟩
theorem Chg.drew {bs : List Nat} {w w' : World} (h : Chg bs w w') : Chg bs w w'.drew := ⟨h.os, h.tape, h.output, h.size, h.block⟩
theorem Chg.alloc {bs : List Nat} {w w' : World} (h : Chg bs w w') (o : Obj) : Chg bs w (w'.alloc o) := h.trans (.of ((Below.refl _ _).alloc (Nat.le_refl _) o))
theorem Chg.put {bs : List Nat} {w w' : World} {b : Nat} (h : Chg bs w w') (hb : b ∈ bs ∨ w.heap.size ≤ b) (o : Obj) : Chg bs w (w'.putObj b o) :=
  ⟨h.os, h.tape, h.output, by rw [World.putObj_size]; exact h.size, fun g h1 h2 => (World.putObj_heap_other (by
    rintro rfl
    rcases hb with hb | hb
    · exact h2 hb
    · omega)).trans (h.block g h1 h2)⟩
theorem Chg.below {bs : List Nat} {w w' : World} {B : Nat} (h : Chg bs w w') (hb : ∀ b ∈ bs, B ≤ b) (hB : B ≤ w.heap.size) : Below B w w' :=
  ⟨h.os, h.tape, h.output, h.size, fun g hg => h.block g (by omega) fun e => by have := hb g e; omega⟩
theorem Chg.blk {bs : List Nat} {w w' : World} {g : Nat} {l : List Value} {e : TypeId} (h : Chg bs w w') (hb : Blk w g l e) (hne : g ∉ bs) : Blk w' g l e := (h.block g hb.lt hne).trans hb

section map
variable {α : Type} {R : Value → α → Prop} {es : List (ByteArray × α)} {mb : Nat} {w : World}
/-- Block mb is a map with these keys, in the order in which they came, and values that stand for these. -/
def MpAt (w : World) (mb : Nat) (R : Value → α → Prop) (es : List (ByteArray × α)) : Prop := ∃ arr clock, w.heap[mb]? = some (.map arr clock) ∧ Stamped arr clock ∧ All2 (Ent R) arr.toList es
theorem MpAt.mono {R' : Value → α → Prop} {w' : World} (h : MpAt w mb R es) (hb : w'.heap[mb]? = w.heap[mb]?) (hR : ∀ v a, R v a → R' v a) : MpAt w' mb R' es := by
  obtain ⟨arr, clock, h1, h2, h3⟩ := h
  exact ⟨arr, clock, hb.trans h1, h2, h3.mono fun _ _ h => ⟨h.1, hR _ _ h.2⟩⟩
theorem MpAt.lt (h : MpAt w mb R es) : mb < w.heap.size := by
  obtain ⟨arr, clock, h1, _⟩ := h
  exact (Array.getElem?_eq_some_iff.1 h1).1
theorem MpAt.new (w : World) (R : Value → α → Prop) : MpAt (w.alloc (.map #[] 0)) w.heap.size R [] := ⟨#[], 0, (heap_alloc w _).1, stamped_empty 0, trivial⟩
theorem MpAt.drew (h : MpAt w mb R es) : MpAt w.drew mb R es := h
theorem MpAt.not_cells (h : MpAt w mb R es) (off : Nat) : w.cell? ⟨mb, off, none⟩ = none := by
  obtain ⟨arr, clock, h1, _⟩ := h
  simp [World.cell?, h1]
/-- What a look-up gives. -/
def Got (R : Value → α → Prop) (es : List (ByteArray × α)) (k : ByteArray) (z v : Value) (there : Bool) : Prop := (look es k = none ∧ v = z ∧ there = false) ∨ ∃ a, look es k = some a ∧ R v a ∧ there = true
variable {P : Program} {rd : Option Nat} {n : Nat} {ops : Array Oper} {Q : Post} {rest : List Oper} {F : Fr} {ds : List Deferred} {ty : TypeId} {pos : String} {after : Array Edge}
theorem run_look {t kt et : TypeId} {k : ByteArray} {z : Value} (ok : Bool) (ht : P.underlying t = some (.map kt et)) (hk : P.underlying kt = some .string) (hz : (zeroValue et).run P w = .ok z w) (h : MpAt w mb R es) :
    ∃ v there, Got R es k z v there ∧ (Instr.lookup t (.map (some mb)) (.string k) ok).run P w = .ok (if ok then .tuple #[v, .bool there] else v) w := by
  obtain ⟨arr, clock, hb, _, hA⟩ := h
  have hck : ∀ e, (Instr.checkKey e 10000 kt (.string k)).run P w = .ok () w := fun e => MapKept.run_checkKey hk (by exact trivial) e 9999
  rcases find_ent k arr.toList es 0 hA with ⟨h1, h2, _⟩ | ⟨j, e, a, h1, h2, _, _, h5, _, _⟩
  · refine ⟨z, false, .inl ⟨h1, rfl, rfl⟩, ?_⟩
    simp [Instr.lookup, run_underlying ht, MapKept.run_getObj_map hb, hck, MapKept.run_findKey hk h2, hz, Result.andThen]
  · refine ⟨e.val, true, .inr ⟨a, h1, h5, rfl⟩, ?_⟩
    simp [Instr.lookup, run_underlying ht, MapKept.run_getObj_map hb, hck, MapKept.run_findKey hk h2, Result.andThen]
theorem Lst_mapget {d : Nat} {m x : Operand} {t kt et : TypeId} {k : ByteArray} {z : Value} (hm : ev F m = .map (some mb)) (hx : ev F x = .string k) (ht : P.underlying t = some (.map kt et)) (hk : P.underlying kt = some .string) (hz : (zeroValue et).run P w = .ok z w) (hmp : MpAt w mb R es) (hd : Nat.blt d n = true)
    (h : ∀ v there, Got R es k z v there → Lst P rd n ops Q rest (upd F d v) ds w) : Lst P rd n ops Q (⟨some d, .lookup t m x false, ty, pos, after, none⟩ :: rest) F ds w := by
  obtain ⟨v, there, hg, hrun⟩ := run_look (P := P) (k := k) false ht hk hz hmp
  exact Lst_value rfl (by simp [execOp, hm, hx, hrun]) hd (h v there hg)
theorem Lst_mapok {d : Nat} {m x : Operand} {t kt et : TypeId} {k : ByteArray} {z : Value} (hm : ev F m = .map (some mb)) (hx : ev F x = .string k) (ht : P.underlying t = some (.map kt et)) (hk : P.underlying kt = some .string) (hz : (zeroValue et).run P w = .ok z w) (hmp : MpAt w mb R es) (hd : Nat.blt d n = true)
    (h : ∀ v there, Got R es k z v there → Lst P rd n ops Q rest (upd F d (.tuple #[v, .bool there])) ds w) : Lst P rd n ops Q (⟨some d, .lookup t m x true, ty, pos, after, none⟩ :: rest) F ds w := by
  obtain ⟨v, there, hg, hrun⟩ := run_look (P := P) (k := k) true ht hk hz hmp
  exact Lst_value rfl (by simp [execOp, hm, hx, hrun]) hd (h v there hg)
theorem set_chg {r : Nat} {o : Obj} (w : World) : Chg [r] w { w with heap := w.heap.setIfInBounds r o } := ⟨rfl, rfl, rfl, by simp, fun g _ hg => by
  have : g ≠ r := by simpa using hg
  show (w.heap.setIfInBounds r o)[g]? = _
  simp [Ne.symm this]⟩
theorem run_mput {t kt et : TypeId} {k : ByteArray} {v : Value} {a : α} (ht : P.underlying t = some (.map kt et)) (hk : P.underlying kt = some .string) (h : MpAt w mb R es) (hR : R v a) :
    ∃ w', (Instr.mapUpdate t (.map (some mb)) (.string k) v).run P w = .ok () w' ∧ MpAt w' mb R (put es k a) ∧ Chg [mb] w w' ∧ w'.heap.size = w.heap.size := by
  obtain ⟨arr, clock, hb, hs, hA⟩ := h
  have hkey : IsKey .string (.string k) := trivial
  have hck : ∀ e, (Instr.checkKey e 10000 kt (.string k)).run P w = .ok () w := fun e => MapKept.run_checkKey hk hkey e 9999
  rcases find_ent k arr.toList es 0 hA with ⟨h1, h2, h3⟩ | ⟨j, e, b, h1, h2, h3, h4, _, h6, _⟩
  · refine ⟨{ w with heap := w.heap.setIfInBounds mb (.map (arr.push { key := .string k, val := v, born := clock }) (clock + 1)) }, ?_, ⟨_, _, (heap_set hb).1, stamped_push hs h3, ?_⟩, set_chg w, by simp⟩
    · simp [Instr.mapUpdate, run_underlying ht, MapKept.run_getObj_map hb, hck, MapKept.run_findKey hk h2, MapKept.run_setObj_map _ hb, Result.andThen]
    · rw [Array.toList_push, put_none h1]
      exact hA.append ⟨⟨rfl, hR⟩, trivial⟩
  · have hj : arr[j]? = some e := by simpa using h3
    refine ⟨{ w with heap := w.heap.setIfInBounds mb (.map (arr.modify j fun e => { e with key := .string k, val := v }) clock) }, ?_, ⟨_, _, (heap_set hb).1, stamped_modify hs _ _ (fun _ _ => rfl) (fun e' _ he' => by rw [hj] at he'; cases he'; exact h4.symm), ?_⟩, set_chg w, by simp⟩
    · simp [Instr.mapUpdate, run_underlying ht, MapKept.run_getObj_map hb, hck, MapKept.run_findKey hk h2, hj, h4, MapKept.run_keyThatStays hkey, MapKept.run_setObj_map _ hb, Result.andThen]
    · have e1 : (arr.modify j fun e => { e with key := .string k, val := v }).toList = arr.toList.set j { e with val := v } := by
        rw [Array.toList_modify]
        apply List.ext_getElem?
        intro q
        rw [List.getElem?_modify, List.getElem?_set]
        have hlt : j < arr.toList.length := (List.getElem?_eq_some_iff.1 h3).1
        by_cases hq : j = q
        · subst hq
          simp only [if_true, hlt, h3, h4.symm]
          rfl
        · simp [hq]
      rw [e1]
      exact h6 v a hR
theorem Lst_mapput {m x y : Operand} {t kt et : TypeId} {k : ByteArray} {v : Value} (a : α) (hm : ev F m = .map (some mb)) (hx : ev F x = .string k) (hy : ev F y = v) (ht : P.underlying t = some (.map kt et)) (hk : P.underlying kt = some .string) (hmp : MpAt w mb R es) (hR : R v a)
    (h : ∀ w', MpAt w' mb R (put es k a) → Chg [mb] w w' → w'.heap.size = w.heap.size → Lst P rd n ops Q rest F ds w') : Lst P rd n ops Q (⟨none, .mapUpdate t m x y, ty, pos, after, none⟩ :: rest) F ds w := by
  obtain ⟨w', hrun, h1, h2, h3⟩ := run_mput (P := P) (k := k) ht hk hmp hR
  exact Lst_unit rfl (by simp [execOp, hm, hx, hy, hrun]) rfl (h w' h1 h2 h3)
theorem run_mdel {t kt et ty : TypeId} {k : ByteArray} (ht : P.underlying t = some (.map kt et)) (hk : P.underlying kt = some .string) (h : MpAt w mb R es) :
    ∃ w', (Builtin.delete_ #[t, kt] ty #[.map (some mb), .string k]).run P w = .ok (.tuple #[]) w' ∧ MpAt w' mb R (del es k) ∧ Chg [mb] w w' ∧ w'.heap.size = w.heap.size := by
  obtain ⟨arr, clock, hb, hs, hA⟩ := h
  have hkey : IsKey .string (.string k) := trivial
  have hck : ∀ e, (Instr.checkKey e 10000 kt (.string k)).run P w = .ok () w := fun e => MapKept.run_checkKey hk hkey e 9999
  rcases find_ent k arr.toList es 0 hA with ⟨h1, h2, h3⟩ | ⟨j, e, b, h1, h2, h3, h4, _, _, h7⟩
  · refine ⟨{ w with heap := w.heap.setIfInBounds mb (.map arr clock) }, ?_, ⟨_, _, (heap_set hb).1, hs, ?_⟩, set_chg w, by simp⟩
    · simp [Builtin.delete_, run_underlying ht, MapKept.run_getObj_map hb, hck, MapKept.run_findKey hk h2, MapKept.run_setObj_map _ hb, Result.andThen]
    · have : ∀ {l : List (ByteArray × α)}, look l k = none → del l k = l := by
        intro l
        induction l with
        | nil => intro _; rfl
        | cons p l ih =>
          intro h
          unfold look at h
          unfold del
          by_cases e : p.1 = k
          · rw [if_pos e] at h; cases h
          · rw [if_neg e] at h ⊢; rw [ih h]
      rw [this h1]
      exact hA
  · refine ⟨{ w with heap := w.heap.setIfInBounds mb (.map (arr.eraseIdxIfInBounds j) clock) }, ?_, ⟨_, _, (heap_set hb).1, stamped_erase hs j, ?_⟩, set_chg w, by simp⟩
    · simp [Builtin.delete_, run_underlying ht, MapKept.run_getObj_map hb, hck, MapKept.run_findKey hk h2, MapKept.run_setObj_map _ hb, Result.andThen]
    · have hlt : j < arr.size := by have := (List.getElem?_eq_some_iff.1 h3).1; simpa using this
      rw [show (arr.eraseIdxIfInBounds j).toList = arr.toList.eraseIdx j by simp [Array.eraseIdxIfInBounds, hlt]]
      exact h7
theorem Lst_mapdel {d : Option Nat} {m x : Operand} {t kt et : TypeId} {k : ByteArray} (hm : ev F m = .map (some mb)) (hx : ev F x = .string k) (ht : P.underlying t = some (.map kt et)) (hk : P.underlying kt = some .string) (hmp : MpAt w mb R es) (hd : okd n d = true)
    (h : ∀ w', MpAt w' mb R (del es k) → Chg [mb] w w' → w'.heap.size = w.heap.size → Lst P rd n ops Q rest (updO F d (.tuple #[])) ds w') : Lst P rd n ops Q (⟨d, .call { callee := .builtin .delete, args := #[m, x], argTypes := #[t, kt] }, ty, pos, after, none⟩ :: rest) F ds w := by
  obtain ⟨w', hrun, h1, h2, h3⟩ := run_mdel (P := P) (k := k) (ty := ty) ht hk hmp
  exact Lst_value rfl (by simp [execOp, resolve, invoke, builtin, hm, hx, hrun]) hd (h w' h1 h2 h3)
/-! ### A range over a map -/
theorem All2.erase {β γ : Type} {r : β → γ → Prop} : ∀ {l : List β} {m : List γ} (j : Nat), All2 r l m → All2 r (l.eraseIdx j) (m.eraseIdx j)
  | [], [], _, _ => trivial
  | _ :: _, _ :: _, 0, h => h.2
  | _ :: _, _ :: _, j + 1, h => ⟨h.1, All2.erase j h.2⟩
  | [], _ :: _, _, h => h.elim
  | _ :: _, [], _, h => h.elim
theorem All2.get {β γ : Type} {r : β → γ → Prop} : ∀ {l : List β} {m : List γ} {j : Nat} {a : β}, All2 r l m → l[j]? = some a → ∃ b, m[j]? = some b ∧ r a b
  | [], [], _, _, _, h => by simp at h
  | _ :: _, b :: _, 0, _, h, e => ⟨b, rfl, by simp at e; rw [← e]; exact h.1⟩
  | _ :: _, _ :: _, j + 1, _, h, e => by
    obtain ⟨b, h1, h2⟩ := All2.get (j := j) h.2 (by simpa using e)
    exact ⟨b, by simpa using h1, h2⟩
  | [], _ :: _, _, _, h, _ => h.elim
  | _ :: _, [], _, _, h, _ => h.elim
theorem filter_erase : ∀ (L : List MapEntry) (j : Nat) (e : MapEntry), (L.map (·.born)).Nodup → L[j]? = some e → L.filter (fun x => x.born != e.born) = L.eraseIdx j
  | [], _, _, _, h => by simp at h
  | x :: L, 0, e, hn, h => by
    obtain rfl : x = e := by simpa using h
    simp only [List.map_cons, List.nodup_cons] at hn
    rw [List.filter_cons_of_neg (by simp)]
    show _ = L
    rw [List.filter_eq_self]
    intro y hy
    simp only [bne_iff_ne, ne_eq]
    exact fun he => hn.1 (List.mem_map.2 ⟨y, hy, he⟩)
  | x :: L, j + 1, e, hn, h => by
    simp only [List.map_cons, List.nodup_cons] at hn
    have h' : L[j]? = some e := by simpa using h
    have hne : x.born ≠ e.born := fun he => hn.1 (by rw [he]; exact List.mem_map.2 ⟨e, List.mem_of_getElem? h', rfl⟩)
    rw [List.filter_cons_of_pos (by simpa using hne), filter_erase L j e hn.2 h']
    rfl
/-- Block ib goes over the map at mb; these are left. -/
def ItAt (w : World) (ib mb : Nat) (R : Value → α → Prop) (es left : List (ByteArray × α)) : Prop :=
  ∃ arr clock seen, w.heap[mb]? = some (.map arr clock) ∧ Stamped arr clock ∧ All2 (Ent R) arr.toList es ∧ w.heap[ib]? = some (.mapIter (some mb) clock seen clock) ∧ All2 (Ent R) (leftOf arr seen).toList left
theorem ItAt.map {ib : Nat} {left : List (ByteArray × α)} (h : ItAt w ib mb R es left) : MpAt w mb R es := by
  obtain ⟨arr, clock, seen, h1, h2, h3, _⟩ := h
  exact ⟨arr, clock, h1, h2, h3⟩
theorem ItAt.lt {ib : Nat} {left : List (ByteArray × α)} (h : ItAt w ib mb R es left) : ib < w.heap.size := by
  obtain ⟨arr, clock, seen, _, _, _, h4, _⟩ := h
  exact (Array.getElem?_eq_some_iff.1 h4).1
theorem ItAt.mono {R' : Value → α → Prop} {ib : Nat} {left : List (ByteArray × α)} {w' : World} (h : ItAt w ib mb R es left) (h1 : w'.heap[mb]? = w.heap[mb]?) (h2 : w'.heap[ib]? = w.heap[ib]?) (hR : ∀ v a, R v a → R' v a) : ItAt w' ib mb R' es left := by
  obtain ⟨arr, clock, seen, a1, a2, a3, a4, a5⟩ := h
  exact ⟨arr, clock, seen, h1.trans a1, a2, a3.mono (fun _ _ h => ⟨h.1, hR _ _ h.2⟩), h2.trans a4, a5.mono fun _ _ h => ⟨h.1, hR _ _ h.2⟩⟩
/-- What was handed out last. -/
def ItCur (w : World) (ib mb : Nat) (R : Value → α → Prop) (q : ByteArray × α) : Prop :=
  ∃ arr clock seen e, w.heap[mb]? = some (.map arr clock) ∧ Stamped arr clock ∧ w.heap[ib]? = some (.mapIter (some mb) clock seen clock) ∧ seen.back? = some e.born ∧ e ∈ arr.toList ∧ Ent R e q
theorem Lst_mapentry {d ib : Nat} {x : Operand} {q : ByteArray × α} (hx : ev F x = .pointer (some ⟨ib, 0, none⟩)) (hit : ItCur w ib mb R q) (hd : Nat.blt d n = true)
    (h : ∀ v, R v q.2 → Lst P rd n ops Q rest (upd F d (.tuple #[.string q.1, v])) ds w) : Lst P rd n ops Q (⟨some d, .entry x, ty, pos, after, none⟩ :: rest) F ds w := by
  obtain ⟨arr, clock, seen, e, hb, hs, hi, hl, he, hk, hR⟩ := hit
  have hf : arr.find? (fun x => x.born == e.born) = some e := by
    rw [← Array.find?_toList]
    exact find_born e arr.toList hs.2.1 he
  refine Lst_value rfl ?_ hd (h e.val hR)
  simp [execOp, hx, Instr.entry, getObj, Sem.run, hi, hb, hl, hf, hk, Result.andThen]
theorem Lst_maprange {d : Nat} {x : Operand} {t kt et : TypeId} (hx : ev F x = .map (some mb)) (ht : P.underlying t = some (.map kt et)) (hmp : MpAt w mb R es) (hd : Nat.blt d n = true)
    (h : ∀ w', ItAt w' w.heap.size mb R es es → Below w.heap.size w w' → w'.heap.size = w.heap.size + 1 → Lst P rd n ops Q rest (upd F d (.pointer (some ⟨w.heap.size, 0, none⟩))) ds w') : Lst P rd n ops Q (⟨some d, .range t x, ty, pos, after, none⟩ :: rest) F ds w := by
  obtain ⟨arr, clock, hb, hs, hA⟩ := hmp
  have hlt : mb < w.heap.size := (Array.getElem?_eq_some_iff.1 hb).1
  refine Lst_value rfl (by simp [execOp, hx, run_range_map w t kt et mb arr clock ht hb]) hd (h _ ⟨arr, clock, #[], ?_, hs, hA, (heap_alloc w _).1, ?_⟩ ((Below.refl _ _).alloc (Nat.le_refl _) _) (World.size_alloc ..))
  · exact ((heap_alloc w _).2 _ hlt).trans hb
  · have : leftOf arr #[] = arr := by unfold leftOf; simp
    rw [this]
    exact hA
theorem run_mnext {ib : Nat} {left : List (ByteArray × α)} (ty : TypeId) (h : ItAt w ib mb R es left) :
    (left = [] ∧ (Instr.next (.pointer (some ⟨ib, 0, none⟩)) false ty).run P w = .ok (.tuple #[.bool false]) w) ∨
    ∃ j q v w', left[j]? = some q ∧ R v q.2 ∧ (Instr.next (.pointer (some ⟨ib, 0, none⟩)) false ty).run P w = .ok (.tuple #[.bool true, .string q.1, v]) w' ∧ ItAt w' ib mb R es (left.eraseIdx j) ∧ ItCur w' ib mb R q ∧ Chg [ib] w w' ∧ w'.heap.size = w.heap.size := by
  obtain ⟨arr, clock, seen, hb, hs, hA, hi, hL⟩ := h
  have hne : mb ≠ ib := by rintro rfl; rw [hb] at hi; cases hi
  have hil : ib < w.heap.size := (Array.getElem?_eq_some_iff.1 hi).1
  have hold : ∀ x ∈ arr.toList, x.born < clock := hs.1
  simp only [Instr.next, getObj, Sem.run_bind, Sem.run, hi, hb, Result.andThen, next_test_false seen arr clock clock hold (Nat.le_refl _), Bool.false_eq_true, if_false]
  have hseen : ∀ (e : MapEntry) (j : Nat), (leftOf arr seen).toList[j]? = some e → (leftOf arr (seen.push e.born)).toList = (leftOf arr seen).toList.eraseIdx j := by
    intro e j hj
    rw [← filter_erase _ j e ?_ hj]
    · unfold leftOf
      simp only [Array.toList_filter, List.filter_filter, Array.contains_push]
      congr 1
      funext x
      cases h1 : seen.contains x.born <;> cases h2 : (x.born == e.born) <;> simp_all
    · exact ((Array.toList_filter ▸ List.filter_sublist : (leftOf arr seen).toList.Sublist arr.toList).map _).nodup hs.2.1
  have hmem : ∀ x ∈ (leftOf arr seen).toList, x.born < clock := fun x hx => hold x (by unfold leftOf at hx; simp at hx ⊢; exact hx.1)
  have hmemA : ∀ x ∈ (leftOf arr seen).toList, x ∈ arr.toList := fun x hx => by unfold leftOf at hx; simp at hx ⊢; exact hx.1
  have eL : Array.filter (fun e => !seen.contains e.born) arr = leftOf arr seen := rfl
  simp only [eL]
  clear eL
  generalize leftOf arr seen = L at hmem hmemA hL hseen ⊢
  have e1 : L.filter (fun x => decide (x.born < clock)) = L := Array.filter_eq_self.2 (fun x hx => by simpa using hmem x (by simpa using hx))
  have e2 : L.filter (fun x => decide (x.born ≥ clock)) = #[] := by
    rw [Array.filter_eq_empty_iff]
    intro x hx
    have := hmem x (by simpa using hx)
    simp
    omega
  simp only [e1, e2, Array.append_empty]
  by_cases h0 : L.size = 0
  · left
    have : L = #[] := Array.eq_empty_of_size_eq_zero h0
    subst this
    have hl : left = [] := List.eq_nil_of_length_eq_zero (hL.len ▸ rfl)
    exact ⟨hl, by simp [choose, Sem.run, Question.forced]⟩
  · right
    have hne2 : L.isEmpty = false := by simp [Array.isEmpty, h0]
    simp only [hne2, Bool.false_eq_true, if_false, Array.empty_append, Array.size_map]
    have hch : ∃ (j : Nat) (w1 : World), j < L.size ∧ (w1 = w ∨ w1 = w.drew) ∧ (choose (Question.mapNext L.size)).run P w = .ok j w1 := by
      by_cases hf : L.size ≤ 1
      · exact ⟨0, w, by omega, .inl rfl, by simp [choose, Sem.run, Question.forced, hf]⟩
      · exact ⟨_, w.drew, Nat.mod_lt _ (by omega), .inr rfl, by
          simp only [choose, Sem.run, Question.forced, decide_eq_true_eq, hf, if_false, Question.cut]
          rfl⟩
    obtain ⟨j, w1, hj, hw1, hrun⟩ := hch
    have hLj : L.toList[j]? = some L[j] := by simp [hj]
    obtain ⟨q, hq, hk, hR⟩ := hL.get hLj
    have hheap : w1.heap = w.heap := by rcases hw1 with rfl | rfl <;> rfl
    have hi1 : w1.heap[ib]? = some (.mapIter (some mb) clock seen clock) := by rw [hheap]; exact hi
    refine ⟨j, q, L[j].val, { w1 with heap := w1.heap.setIfInBounds ib (.mapIter (some mb) clock (seen.push L[j].born) clock) }, hq, hR, ?_, ⟨arr, clock, seen.push L[j].born, ?_, hs, hA, ?_, ?_⟩, ⟨arr, clock, seen.push L[j].born, L[j], ?_, hs, ?_, by simp, hmemA _ (List.mem_of_getElem? hLj), hk, hR⟩, ?_, by simp [hheap]⟩
    · rw [hrun]
      simp [hj, setObj, Sem.run, hi1, hk]
    · show (w1.heap.setIfInBounds ib _)[mb]? = _
      rw [hheap]
      simp [Ne.symm hne, hb]
    · show (w1.heap.setIfInBounds ib _)[ib]? = _
      rw [hheap]
      simp [hil]
    · rw [hseen L[j] j hLj]
      exact hL.erase j
    · show (w1.heap.setIfInBounds ib _)[mb]? = _
      rw [hheap]
      simp [Ne.symm hne, hb]
    · show (w1.heap.setIfInBounds ib _)[ib]? = _
      rw [hheap]
      simp [hil]
    · have : Chg [ib] w w1 := by 
        rcases hw1 with rfl | rfl
        · exact .refl _ _
        · exact (Chg.refl _ _).drew
      exact this.trans (set_chg w1)
theorem Lst_mapnext {d ib : Nat} {x : Operand} {left : List (ByteArray × α)} (hx : ev F x = .pointer (some ⟨ib, 0, none⟩)) (hit : ItAt w ib mb R es left) (hd : Nat.blt d n = true)
    (h0 : left = [] → Lst P rd n ops Q rest (upd F d (.tuple #[.bool false])) ds w)
    (h1 : ∀ j q v w', left[j]? = some q → R v q.2 → ItAt w' ib mb R es (left.eraseIdx j) → ItCur w' ib mb R q → Chg [ib] w w' → w'.heap.size = w.heap.size → Lst P rd n ops Q rest (upd F d (.tuple #[.bool true, .string q.1, v])) ds w') :
    Lst P rd n ops Q (⟨some d, .next x false, ty, pos, after, none⟩ :: rest) F ds w := by
  rcases run_mnext (P := P) ty hit with ⟨hl, hrun⟩ | ⟨j, q, v, w', hq, hR, hrun, hit', hcur, hc, hz⟩
  · exact Lst_value rfl (by simp [execOp, hx, hrun]) hd (h0 hl)
  · exact Lst_value rfl (by simp [execOp, hx, hrun]) hd (h1 j q v w' hq hR hit' hcur hc hz)
end map
end Sx
namespace SxU
open Go Go.RowKit Go.MapKept Sx
section lists
variable {α : Type}
def look : List (Int × α) → Int → Option α
  | [], _ => none
  | p :: l, k => if p.1 = k then some p.2 else look l k
def put : List (Int × α) → Int → α → List (Int × α)
  | [], k, a => [(k, a)]
  | p :: l, k, a => if p.1 = k then (k, a) :: l else p :: put l k a
def del : List (Int × α) → Int → List (Int × α)
  | [], _ => []
  | p :: l, k => if p.1 = k then l else p :: del l k
/-- An entry of a map's block, and what it stands for. -/
def Ent (R : Value → α → Prop) (e : MapEntry) (q : Int × α) : Prop := e.key = .int .u64 q.1 ∧ R e.val q.2
theorem keysU {R : Value → α → Prop} : ∀ {l : List MapEntry} {m : List (Int × α)}, All2 (Ent R) l m → ∀ x ∈ l, IsKey (.int .u64) x.key
  | [], [], _, x, hx => by cases hx
  | e :: l, q :: m, h, x, hx => by
    rcases List.mem_cons.1 hx with rfl | hx
    · rw [h.1.1]; exact rfl
    · exact keysU h.2 x hx
  | [], _ :: _, h, _, _ => h.elim
  | _ :: _, [], h, _, _ => h.elim
theorem put_none : ∀ {l : List (Int × α)} {k : Int} {a : α}, look l k = none → put l k a = l ++ [(k, a)]
  | [], _, _, _ => rfl
  | p :: l, k, a, h => by
    unfold look at h
    unfold put
    by_cases e : p.1 = k
    · rw [if_pos e] at h; cases h
    · rw [if_neg e] at h ⊢; rw [put_none h]; rfl
/-- Where a key stands, or that it does not. -/
theorem find_ent {R : Value → α → Prop} (k : Int) : ∀ (l : List MapEntry) (m : List (Int × α)) (i : Nat), All2 (Ent R) l m →
    (look m k = none ∧ Instr.findNow (.int .u64) (.int .u64 k) l i = some none ∧ ∀ x ∈ l, x.key ≠ .int .u64 k) ∨
    ∃ j e a, look m k = some a ∧ Instr.findNow (.int .u64) (.int .u64 k) l i = some (some (i + j, e.val)) ∧ l[j]? = some e ∧ e.key = .int .u64 k ∧ R e.val a ∧
      (∀ v b, R v b → All2 (Ent R) (l.set j { e with val := v }) (put m k b)) ∧ All2 (Ent R) (l.eraseIdx j) (del m k)
  | [], [], i, _ => .inl ⟨rfl, rfl, by simp⟩
  | e :: l, q :: m, i, h => by
    have hs : Instr.sameNow (.int .u64) (.int .u64 k) e.key = some (k == q.1) := by rw [h.1.1]; rfl
    by_cases hk : q.1 = k
    · right
      refine ⟨0, e, q.2, by simp [look, hk], ?_, rfl, by rw [h.1.1, hk], h.1.2, fun v b hb => ?_, ?_⟩
      · unfold Instr.findNow
        have hb : (k == q.1) = true := beq_iff_eq.2 hk.symm
        rw [hs, hb]
        simp
      · rw [show put (q :: m) k b = (k, b) :: m by simp [put, hk]]
        exact ⟨⟨by rw [← hk]; exact h.1.1, hb⟩, h.2⟩
      · rw [show del (q :: m) k = m by simp [del, hk]]
        exact h.2
    · have hne : (k == q.1) = false := by
        cases hb : (k == q.1) with
        | false => rfl
        | true => exact absurd (beq_iff_eq.1 hb).symm hk
      rcases find_ent k l m (i + 1) h.2 with ⟨h1, h2, h3⟩ | ⟨j, e', a, h1, h2, h3, h4, h5, h6, h7⟩
      · left
        refine ⟨by simp [look, hk, h1], ?_, ?_⟩
        · unfold Instr.findNow
          rw [hs, hne]
          exact h2
        · intro x hx
          rcases List.mem_cons.1 hx with rfl | hx
          · rw [h.1.1]; exact fun e => hk (by cases e; rfl)
          · exact h3 x hx
      · right
        refine ⟨j + 1, e', a, by simp [look, hk, h1], ?_, by simpa using h3, h4, h5, fun v b hb => ?_, ?_⟩
        · unfold Instr.findNow
          rw [hs, hne]
          rw [h2, Nat.add_assoc, Nat.add_comm 1 j]
        · rw [show put (q :: m) k b = q :: put m k b by simp [put, hk]]
          exact ⟨h.1, h6 v b hb⟩
        · rw [show del (q :: m) k = q :: del m k by simp [del, hk]]
          exact ⟨h.1, h7⟩
  | [], _ :: _, _, h => h.elim
  | _ :: _, [], _, h => h.elim
end lists

section map
variable {α : Type} {R : Value → α → Prop} {es : List (Int × α)} {mb : Nat} {w : World}
/-- Block mb is a map with these keys, in the order in which they came, and values that stand for these. -/
def MpAt (w : World) (mb : Nat) (R : Value → α → Prop) (es : List (Int × α)) : Prop := ∃ arr clock, w.heap[mb]? = some (.map arr clock) ∧ Stamped arr clock ∧ All2 (Ent R) arr.toList es
theorem MpAt.mono {R' : Value → α → Prop} {w' : World} (h : MpAt w mb R es) (hb : w'.heap[mb]? = w.heap[mb]?) (hR : ∀ v a, R v a → R' v a) : MpAt w' mb R' es := by
  obtain ⟨arr, clock, h1, h2, h3⟩ := h
  exact ⟨arr, clock, hb.trans h1, h2, h3.mono fun _ _ h => ⟨h.1, hR _ _ h.2⟩⟩
theorem MpAt.lt (h : MpAt w mb R es) : mb < w.heap.size := by
  obtain ⟨arr, clock, h1, _⟩ := h
  exact (Array.getElem?_eq_some_iff.1 h1).1
theorem MpAt.new (w : World) (R : Value → α → Prop) : MpAt (w.alloc (.map #[] 0)) w.heap.size R [] := ⟨#[], 0, (heap_alloc w _).1, stamped_empty 0, trivial⟩
theorem MpAt.drew (h : MpAt w mb R es) : MpAt w.drew mb R es := h
theorem MpAt.not_cells (h : MpAt w mb R es) (off : Nat) : w.cell? ⟨mb, off, none⟩ = none := by
  obtain ⟨arr, clock, h1, _⟩ := h
  simp [World.cell?, h1]
/-- What a look-up gives. -/
def Got (R : Value → α → Prop) (es : List (Int × α)) (k : Int) (z v : Value) (there : Bool) : Prop := (look es k = none ∧ v = z ∧ there = false) ∨ ∃ a, look es k = some a ∧ R v a ∧ there = true
variable {P : Program} {rd : Option Nat} {n : Nat} {ops : Array Oper} {Q : Post} {rest : List Oper} {F : Fr} {ds : List Deferred} {ty : TypeId} {pos : String} {after : Array Edge}
theorem run_look {t kt et : TypeId} {k : Int} {z : Value} (ok : Bool) (ht : P.underlying t = some (.map kt et)) (hk : P.underlying kt = some (.int .u64)) (hz : (zeroValue et).run P w = .ok z w) (h : MpAt w mb R es) :
    ∃ v there, Got R es k z v there ∧ (Instr.lookup t (.map (some mb)) (.int .u64 k) ok).run P w = .ok (if ok then .tuple #[v, .bool there] else v) w := by
  obtain ⟨arr, clock, hb, _, hA⟩ := h
  have hck : ∀ e, (Instr.checkKey e 10000 kt (.int .u64 k)).run P w = .ok () w := fun e => MapKept.run_checkKey hk (by exact rfl) e 9999
  rcases find_ent k arr.toList es 0 hA with ⟨h1, h2, _⟩ | ⟨j, e, a, h1, h2, _, _, h5, _, _⟩
  · refine ⟨z, false, .inl ⟨h1, rfl, rfl⟩, ?_⟩
    simp [Instr.lookup, run_underlying ht, MapKept.run_getObj_map hb, hck, MapKept.run_findKey hk h2, hz, Result.andThen]
  · refine ⟨e.val, true, .inr ⟨a, h1, h5, rfl⟩, ?_⟩
    simp [Instr.lookup, run_underlying ht, MapKept.run_getObj_map hb, hck, MapKept.run_findKey hk h2, Result.andThen]
theorem Lst_mapget {d : Nat} {m x : Operand} {t kt et : TypeId} {k : Int} {z : Value} (hm : ev F m = .map (some mb)) (hx : ev F x = .int .u64 k) (ht : P.underlying t = some (.map kt et)) (hk : P.underlying kt = some (.int .u64)) (hz : (zeroValue et).run P w = .ok z w) (hmp : MpAt w mb R es) (hd : Nat.blt d n = true)
    (h : ∀ v there, Got R es k z v there → Lst P rd n ops Q rest (upd F d v) ds w) : Lst P rd n ops Q (⟨some d, .lookup t m x false, ty, pos, after, none⟩ :: rest) F ds w := by
  obtain ⟨v, there, hg, hrun⟩ := run_look (P := P) (k := k) false ht hk hz hmp
  exact Lst_value rfl (by simp [execOp, hm, hx, hrun]) hd (h v there hg)
theorem Lst_mapok {d : Nat} {m x : Operand} {t kt et : TypeId} {k : Int} {z : Value} (hm : ev F m = .map (some mb)) (hx : ev F x = .int .u64 k) (ht : P.underlying t = some (.map kt et)) (hk : P.underlying kt = some (.int .u64)) (hz : (zeroValue et).run P w = .ok z w) (hmp : MpAt w mb R es) (hd : Nat.blt d n = true)
    (h : ∀ v there, Got R es k z v there → Lst P rd n ops Q rest (upd F d (.tuple #[v, .bool there])) ds w) : Lst P rd n ops Q (⟨some d, .lookup t m x true, ty, pos, after, none⟩ :: rest) F ds w := by
  obtain ⟨v, there, hg, hrun⟩ := run_look (P := P) (k := k) true ht hk hz hmp
  exact Lst_value rfl (by simp [execOp, hm, hx, hrun]) hd (h v there hg)
theorem run_mput {t kt et : TypeId} {k : Int} {v : Value} {a : α} (ht : P.underlying t = some (.map kt et)) (hk : P.underlying kt = some (.int .u64)) (h : MpAt w mb R es) (hR : R v a) :
    ∃ w', (Instr.mapUpdate t (.map (some mb)) (.int .u64 k) v).run P w = .ok () w' ∧ MpAt w' mb R (put es k a) ∧ Chg [mb] w w' ∧ w'.heap.size = w.heap.size := by
  obtain ⟨arr, clock, hb, hs, hA⟩ := h
  have hkey : IsKey (.int .u64) (.int .u64 k) := rfl
  have hck : ∀ e, (Instr.checkKey e 10000 kt (.int .u64 k)).run P w = .ok () w := fun e => MapKept.run_checkKey hk hkey e 9999
  rcases find_ent k arr.toList es 0 hA with ⟨h1, h2, h3⟩ | ⟨j, e, b, h1, h2, h3, h4, _, h6, _⟩
  · refine ⟨{ w with heap := w.heap.setIfInBounds mb (.map (arr.push { key := .int .u64 k, val := v, born := clock }) (clock + 1)) }, ?_, ⟨_, _, (heap_set hb).1, stamped_push hs h3, ?_⟩, set_chg w, by simp⟩
    · simp [Instr.mapUpdate, run_underlying ht, MapKept.run_getObj_map hb, hck, MapKept.run_findKey hk h2, MapKept.run_setObj_map _ hb, Result.andThen]
    · rw [Array.toList_push, put_none h1]
      exact hA.append ⟨⟨rfl, hR⟩, trivial⟩
  · have hj : arr[j]? = some e := by simpa using h3
    refine ⟨{ w with heap := w.heap.setIfInBounds mb (.map (arr.modify j fun e => { e with key := .int .u64 k, val := v }) clock) }, ?_, ⟨_, _, (heap_set hb).1, stamped_modify hs _ _ (fun _ _ => rfl) (fun e' _ he' => by rw [hj] at he'; cases he'; exact h4.symm), ?_⟩, set_chg w, by simp⟩
    · simp [Instr.mapUpdate, run_underlying ht, MapKept.run_getObj_map hb, hck, MapKept.run_findKey hk h2, hj, h4, MapKept.run_keyThatStays hkey, MapKept.run_setObj_map _ hb, Result.andThen]
    · have e1 : (arr.modify j fun e => { e with key := .int .u64 k, val := v }).toList = arr.toList.set j { e with val := v } := by
        rw [Array.toList_modify]
        apply List.ext_getElem?
        intro q
        rw [List.getElem?_modify, List.getElem?_set]
        have hlt : j < arr.toList.length := (List.getElem?_eq_some_iff.1 h3).1
        by_cases hq : j = q
        · subst hq
          simp only [if_true, hlt, h3, h4.symm]
          rfl
        · simp [hq]
      rw [e1]
      exact h6 v a hR
theorem Lst_mapput {m x y : Operand} {t kt et : TypeId} {k : Int} {v : Value} (a : α) (hm : ev F m = .map (some mb)) (hx : ev F x = .int .u64 k) (hy : ev F y = v) (ht : P.underlying t = some (.map kt et)) (hk : P.underlying kt = some (.int .u64)) (hmp : MpAt w mb R es) (hR : R v a)
    (h : ∀ w', MpAt w' mb R (put es k a) → Chg [mb] w w' → w'.heap.size = w.heap.size → Lst P rd n ops Q rest F ds w') : Lst P rd n ops Q (⟨none, .mapUpdate t m x y, ty, pos, after, none⟩ :: rest) F ds w := by
  obtain ⟨w', hrun, h1, h2, h3⟩ := run_mput (P := P) (k := k) ht hk hmp hR
  exact Lst_unit rfl (by simp [execOp, hm, hx, hy, hrun]) rfl (h w' h1 h2 h3)
theorem run_mdel {t kt et ty : TypeId} {k : Int} (ht : P.underlying t = some (.map kt et)) (hk : P.underlying kt = some (.int .u64)) (h : MpAt w mb R es) :
    ∃ w', (Builtin.delete_ #[t, kt] ty #[.map (some mb), .int .u64 k]).run P w = .ok (.tuple #[]) w' ∧ MpAt w' mb R (del es k) ∧ Chg [mb] w w' ∧ w'.heap.size = w.heap.size := by
  obtain ⟨arr, clock, hb, hs, hA⟩ := h
  have hkey : IsKey (.int .u64) (.int .u64 k) := rfl
  have hck : ∀ e, (Instr.checkKey e 10000 kt (.int .u64 k)).run P w = .ok () w := fun e => MapKept.run_checkKey hk hkey e 9999
  rcases find_ent k arr.toList es 0 hA with ⟨h1, h2, h3⟩ | ⟨j, e, b, h1, h2, h3, h4, _, _, h7⟩
  · refine ⟨{ w with heap := w.heap.setIfInBounds mb (.map arr clock) }, ?_, ⟨_, _, (heap_set hb).1, hs, ?_⟩, set_chg w, by simp⟩
    · simp [Builtin.delete_, run_underlying ht, MapKept.run_getObj_map hb, hck, MapKept.run_findKey hk h2, MapKept.run_setObj_map _ hb, Result.andThen]
    · have : ∀ {l : List (Int × α)}, look l k = none → del l k = l := by
        intro l
        induction l with
        | nil => intro _; rfl
        | cons p l ih =>
          intro h
          unfold look at h
          unfold del
          by_cases e : p.1 = k
          · rw [if_pos e] at h; cases h
          · rw [if_neg e] at h ⊢; rw [ih h]
      rw [this h1]
      exact hA
  · refine ⟨{ w with heap := w.heap.setIfInBounds mb (.map (arr.eraseIdxIfInBounds j) clock) }, ?_, ⟨_, _, (heap_set hb).1, stamped_erase hs j, ?_⟩, set_chg w, by simp⟩
    · simp [Builtin.delete_, run_underlying ht, MapKept.run_getObj_map hb, hck, MapKept.run_findKey hk h2, MapKept.run_setObj_map _ hb, Result.andThen]
    · have hlt : j < arr.size := by have := (List.getElem?_eq_some_iff.1 h3).1; simpa using this
      rw [show (arr.eraseIdxIfInBounds j).toList = arr.toList.eraseIdx j by simp [Array.eraseIdxIfInBounds, hlt]]
      exact h7
theorem Lst_mapdel {d : Option Nat} {m x : Operand} {t kt et : TypeId} {k : Int} (hm : ev F m = .map (some mb)) (hx : ev F x = .int .u64 k) (ht : P.underlying t = some (.map kt et)) (hk : P.underlying kt = some (.int .u64)) (hmp : MpAt w mb R es) (hd : okd n d = true)
    (h : ∀ w', MpAt w' mb R (del es k) → Chg [mb] w w' → w'.heap.size = w.heap.size → Lst P rd n ops Q rest (updO F d (.tuple #[])) ds w') : Lst P rd n ops Q (⟨d, .call { callee := .builtin .delete, args := #[m, x], argTypes := #[t, kt] }, ty, pos, after, none⟩ :: rest) F ds w := by
  obtain ⟨w', hrun, h1, h2, h3⟩ := run_mdel (P := P) (k := k) (ty := ty) ht hk hmp
  exact Lst_value rfl (by simp [execOp, resolve, invoke, builtin, hm, hx, hrun]) hd (h w' h1 h2 h3)
/-! ### A range over a map -/
/-- Block ib goes over the map at mb; these are left. -/
def ItAt (w : World) (ib mb : Nat) (R : Value → α → Prop) (es left : List (Int × α)) : Prop :=
  ∃ arr clock seen, w.heap[mb]? = some (.map arr clock) ∧ Stamped arr clock ∧ All2 (Ent R) arr.toList es ∧ w.heap[ib]? = some (.mapIter (some mb) clock seen clock) ∧ All2 (Ent R) (leftOf arr seen).toList left
theorem ItAt.map {ib : Nat} {left : List (Int × α)} (h : ItAt w ib mb R es left) : MpAt w mb R es := by
  obtain ⟨arr, clock, seen, h1, h2, h3, _⟩ := h
  exact ⟨arr, clock, h1, h2, h3⟩
theorem ItAt.lt {ib : Nat} {left : List (Int × α)} (h : ItAt w ib mb R es left) : ib < w.heap.size := by
  obtain ⟨arr, clock, seen, _, _, _, h4, _⟩ := h
  exact (Array.getElem?_eq_some_iff.1 h4).1
theorem ItAt.mono {R' : Value → α → Prop} {ib : Nat} {left : List (Int × α)} {w' : World} (h : ItAt w ib mb R es left) (h1 : w'.heap[mb]? = w.heap[mb]?) (h2 : w'.heap[ib]? = w.heap[ib]?) (hR : ∀ v a, R v a → R' v a) : ItAt w' ib mb R' es left := by
  obtain ⟨arr, clock, seen, a1, a2, a3, a4, a5⟩ := h
  exact ⟨arr, clock, seen, h1.trans a1, a2, a3.mono (fun _ _ h => ⟨h.1, hR _ _ h.2⟩), h2.trans a4, a5.mono fun _ _ h => ⟨h.1, hR _ _ h.2⟩⟩
/-- What was handed out last. -/
def ItCur (w : World) (ib mb : Nat) (R : Value → α → Prop) (q : Int × α) : Prop :=
  ∃ arr clock seen e, w.heap[mb]? = some (.map arr clock) ∧ Stamped arr clock ∧ w.heap[ib]? = some (.mapIter (some mb) clock seen clock) ∧ seen.back? = some e.born ∧ e ∈ arr.toList ∧ Ent R e q
theorem Lst_mapentry {d ib : Nat} {x : Operand} {q : Int × α} (hx : ev F x = .pointer (some ⟨ib, 0, none⟩)) (hit : ItCur w ib mb R q) (hd : Nat.blt d n = true)
    (h : ∀ v, R v q.2 → Lst P rd n ops Q rest (upd F d (.tuple #[.int .u64 q.1, v])) ds w) : Lst P rd n ops Q (⟨some d, .entry x, ty, pos, after, none⟩ :: rest) F ds w := by
  obtain ⟨arr, clock, seen, e, hb, hs, hi, hl, he, hk, hR⟩ := hit
  have hf : arr.find? (fun x => x.born == e.born) = some e := by
    rw [← Array.find?_toList]
    exact find_born e arr.toList hs.2.1 he
  refine Lst_value rfl ?_ hd (h e.val hR)
  simp [execOp, hx, Instr.entry, getObj, Sem.run, hi, hb, hl, hf, hk, Result.andThen]
theorem Lst_maprange {d : Nat} {x : Operand} {t kt et : TypeId} (hx : ev F x = .map (some mb)) (ht : P.underlying t = some (.map kt et)) (hmp : MpAt w mb R es) (hd : Nat.blt d n = true)
    (h : ∀ w', ItAt w' w.heap.size mb R es es → Below w.heap.size w w' → w'.heap.size = w.heap.size + 1 → Lst P rd n ops Q rest (upd F d (.pointer (some ⟨w.heap.size, 0, none⟩))) ds w') : Lst P rd n ops Q (⟨some d, .range t x, ty, pos, after, none⟩ :: rest) F ds w := by
  obtain ⟨arr, clock, hb, hs, hA⟩ := hmp
  have hlt : mb < w.heap.size := (Array.getElem?_eq_some_iff.1 hb).1
  refine Lst_value rfl (by simp [execOp, hx, run_range_map w t kt et mb arr clock ht hb]) hd (h _ ⟨arr, clock, #[], ?_, hs, hA, (heap_alloc w _).1, ?_⟩ ((Below.refl _ _).alloc (Nat.le_refl _) _) (World.size_alloc ..))
  · exact ((heap_alloc w _).2 _ hlt).trans hb
  · have : leftOf arr #[] = arr := by unfold leftOf; simp
    rw [this]
    exact hA
theorem run_mnext {ib : Nat} {left : List (Int × α)} (ty : TypeId) (h : ItAt w ib mb R es left) :
    (left = [] ∧ (Instr.next (.pointer (some ⟨ib, 0, none⟩)) false ty).run P w = .ok (.tuple #[.bool false]) w) ∨
    ∃ j q v w', left[j]? = some q ∧ R v q.2 ∧ (Instr.next (.pointer (some ⟨ib, 0, none⟩)) false ty).run P w = .ok (.tuple #[.bool true, .int .u64 q.1, v]) w' ∧ ItAt w' ib mb R es (left.eraseIdx j) ∧ ItCur w' ib mb R q ∧ Chg [ib] w w' ∧ w'.heap.size = w.heap.size := by
  obtain ⟨arr, clock, seen, hb, hs, hA, hi, hL⟩ := h
  have hne : mb ≠ ib := by rintro rfl; rw [hb] at hi; cases hi
  have hil : ib < w.heap.size := (Array.getElem?_eq_some_iff.1 hi).1
  have hold : ∀ x ∈ arr.toList, x.born < clock := hs.1
  simp only [Instr.next, getObj, Sem.run_bind, Sem.run, hi, hb, Result.andThen, next_test_false seen arr clock clock hold (Nat.le_refl _), Bool.false_eq_true, if_false]
  have hseen : ∀ (e : MapEntry) (j : Nat), (leftOf arr seen).toList[j]? = some e → (leftOf arr (seen.push e.born)).toList = (leftOf arr seen).toList.eraseIdx j := by
    intro e j hj
    rw [← filter_erase _ j e ?_ hj]
    · unfold leftOf
      simp only [Array.toList_filter, List.filter_filter, Array.contains_push]
      congr 1
      funext x
      cases h1 : seen.contains x.born <;> cases h2 : (x.born == e.born) <;> simp_all
    · exact ((Array.toList_filter ▸ List.filter_sublist : (leftOf arr seen).toList.Sublist arr.toList).map _).nodup hs.2.1
  have hmem : ∀ x ∈ (leftOf arr seen).toList, x.born < clock := fun x hx => hold x (by unfold leftOf at hx; simp at hx ⊢; exact hx.1)
  have hmemA : ∀ x ∈ (leftOf arr seen).toList, x ∈ arr.toList := fun x hx => by unfold leftOf at hx; simp at hx ⊢; exact hx.1
  have eL : Array.filter (fun e => !seen.contains e.born) arr = leftOf arr seen := rfl
  simp only [eL]
  clear eL
  generalize leftOf arr seen = L at hmem hmemA hL hseen ⊢
  have e1 : L.filter (fun x => decide (x.born < clock)) = L := Array.filter_eq_self.2 (fun x hx => by simpa using hmem x (by simpa using hx))
  have e2 : L.filter (fun x => decide (x.born ≥ clock)) = #[] := by
    rw [Array.filter_eq_empty_iff]
    intro x hx
    have := hmem x (by simpa using hx)
    simp
    omega
  simp only [e1, e2, Array.append_empty]
  by_cases h0 : L.size = 0
  · left
    have : L = #[] := Array.eq_empty_of_size_eq_zero h0
    subst this
    have hl : left = [] := List.eq_nil_of_length_eq_zero (hL.len ▸ rfl)
    exact ⟨hl, by simp [choose, Sem.run, Question.forced]⟩
  · right
    have hne2 : L.isEmpty = false := by simp [Array.isEmpty, h0]
    simp only [hne2, Bool.false_eq_true, if_false, Array.empty_append, Array.size_map]
    have hch : ∃ (j : Nat) (w1 : World), j < L.size ∧ (w1 = w ∨ w1 = w.drew) ∧ (choose (Question.mapNext L.size)).run P w = .ok j w1 := by
      by_cases hf : L.size ≤ 1
      · exact ⟨0, w, by omega, .inl rfl, by simp [choose, Sem.run, Question.forced, hf]⟩
      · exact ⟨_, w.drew, Nat.mod_lt _ (by omega), .inr rfl, by
          simp only [choose, Sem.run, Question.forced, decide_eq_true_eq, hf, if_false, Question.cut]
          rfl⟩
    obtain ⟨j, w1, hj, hw1, hrun⟩ := hch
    have hLj : L.toList[j]? = some L[j] := by simp [hj]
    obtain ⟨q, hq, hk, hR⟩ := hL.get hLj
    have hheap : w1.heap = w.heap := by rcases hw1 with rfl | rfl <;> rfl
    have hi1 : w1.heap[ib]? = some (.mapIter (some mb) clock seen clock) := by rw [hheap]; exact hi
    refine ⟨j, q, L[j].val, { w1 with heap := w1.heap.setIfInBounds ib (.mapIter (some mb) clock (seen.push L[j].born) clock) }, hq, hR, ?_, ⟨arr, clock, seen.push L[j].born, ?_, hs, hA, ?_, ?_⟩, ⟨arr, clock, seen.push L[j].born, L[j], ?_, hs, ?_, by simp, hmemA _ (List.mem_of_getElem? hLj), hk, hR⟩, ?_, by simp [hheap]⟩
    · rw [hrun]
      simp [hj, setObj, Sem.run, hi1, hk]
    · show (w1.heap.setIfInBounds ib _)[mb]? = _
      rw [hheap]
      simp [Ne.symm hne, hb]
    · show (w1.heap.setIfInBounds ib _)[ib]? = _
      rw [hheap]
      simp [hil]
    · rw [hseen L[j] j hLj]
      exact hL.erase j
    · show (w1.heap.setIfInBounds ib _)[mb]? = _
      rw [hheap]
      simp [Ne.symm hne, hb]
    · show (w1.heap.setIfInBounds ib _)[ib]? = _
      rw [hheap]
      simp [hil]
    · have : Chg [ib] w w1 := by 
        rcases hw1 with rfl | rfl
        · exact .refl _ _
        · exact (Chg.refl _ _).drew
      exact this.trans (set_chg w1)
theorem Lst_mapnext {d ib : Nat} {x : Operand} {left : List (Int × α)} (hx : ev F x = .pointer (some ⟨ib, 0, none⟩)) (hit : ItAt w ib mb R es left) (hd : Nat.blt d n = true)
    (h0 : left = [] → Lst P rd n ops Q rest (upd F d (.tuple #[.bool false])) ds w)
    (h1 : ∀ j q v w', left[j]? = some q → R v q.2 → ItAt w' ib mb R es (left.eraseIdx j) → ItCur w' ib mb R q → Chg [ib] w w' → w'.heap.size = w.heap.size → Lst P rd n ops Q rest (upd F d (.tuple #[.bool true, .int .u64 q.1, v])) ds w') :
    Lst P rd n ops Q (⟨some d, .next x false, ty, pos, after, none⟩ :: rest) F ds w := by
  rcases run_mnext (P := P) ty hit with ⟨hl, hrun⟩ | ⟨j, q, v, w', hq, hR, hrun, hit', hcur, hc, hz⟩
  · exact Lst_value rfl (by simp [execOp, hx, hrun]) hd (h0 hl)
  · exact Lst_value rfl (by simp [execOp, hx, hrun]) hd (h1 j q v w' hq hR hit' hcur hc hz)
end map
end SxU
namespace Sx
open Go Go.RowKit
section loads
variable {P : Program} {rd : Option Nat} {n : Nat} {ops : Array Oper} {Q : Post} {rest : List Oper} {F : Fr} {ds : List Deferred} {w : World} {ty : TypeId} {pos : String} {after : Array Edge}
/-- A struct read whole, wherever it lies. -/
theorem Lst_loadS' {d b off : Nat} {x : Operand} {t : TypeId} {u : TypeDesc} {i : TypeInfo} {cs : List Value} (hx : ev F x = .pointer (some ⟨b, off, none⟩)) (ht : P.underlying t = some u) (hu : u.isRow = true) (hi : P.info? t = some i) (hs : i.size = cs.length) (hc : ∀ (j : Nat) (v : Value), cs[j]? = some v → w.cell? ⟨b, off + j, none⟩ = some v) (hd : Nat.blt d n = true)
    (h : Lst P rd n ops Q rest (upd F d (.agg cs.toArray)) ds w) : Lst P rd n ops Q (⟨some d, .load t x, ty, pos, after, none⟩ :: rest) F ds w :=
  Lst_value rfl (by
    have := run_loadAt_mid (P := P) w b off t cs u hc ht hu (by rw [hi]; simp [hs])
    simp [execOp, hx, this]) hd h
end loads
/-- A slice of structs that is only read: the cells of each. -/
def SRows (w : World) (sz : Nat) (v : Value) (ls : List (List Value)) : Prop :=
  ∃ b off cap, (v = .slice (some ⟨b, off, none⟩) ls.length cap ∨ (v = .slice none 0 0 ∧ ls = [])) ∧ ∀ i (h : i < ls.length), b < w.heap.size ∧ ∀ j u, (ls[i])[j]? = some u → w.cell? ⟨b, off + i * sz + j, none⟩ = some u
theorem SRows.form {w : World} {sz : Nat} {v : Value} {ls : List (List Value)} (h : SRows w sz v ls) : ∃ a c, v = .slice a ls.length c := by
  obtain ⟨b, off, cap, hf | ⟨hf, rfl⟩, _⟩ := h
  · exact ⟨_, _, hf⟩
  · exact ⟨_, _, hf⟩
theorem SRows.nil (w : World) (sz : Nat) : SRows w sz (.slice none 0 0) [] := ⟨0, 0, 0, .inr ⟨rfl, rfl⟩, fun _ h => absurd h (Nat.not_lt_zero _)⟩
theorem SRows.below {w w' : World} {sz : Nat} {v : Value} {ls : List (List Value)} {B : Nat} (h : SRows w sz v ls) (hb : Below B w w') (hB : w.heap.size ≤ B) : SRows w' sz v ls := by
  obtain ⟨b, off, cap, hf, hr⟩ := h
  refine ⟨b, off, cap, hf, fun i hi => ?_⟩
  obtain ⟨h1, h2⟩ := hr i hi
  refine ⟨Nat.lt_of_lt_of_le h1 hb.size, fun j u hu => ?_⟩
  exact (hb.cell (p := ⟨b, off + i * sz + j, none⟩) (by show b < B; omega)).trans (h2 j u hu)
theorem SRows.at {w : World} {sz nn : Nat} {a : Option Addr} {c : Nat} {ls : List (List Value)} (h : SRows w sz (.slice a nn c) ls) {i : Nat} (hi : i < ls.length) : ∃ b off, a = some ⟨b, off, none⟩ ∧ b < w.heap.size ∧ ∀ j u, (ls[i])[j]? = some u → w.cell? ⟨b, off + i * sz + j, none⟩ = some u := by
  obtain ⟨b, off, cap, hf | ⟨_, rfl⟩, hr⟩ := h
  · cases hf
    exact ⟨b, off, rfl, hr i hi⟩
  · exact absurd hi (Nat.not_lt_zero _)
theorem SRows.cons {w : World} {sz b off n c : Nat} {l : List Value} {ls : List (List Value)} (h : SRows w sz (.slice (some ⟨b, off, none⟩) (n + 1) c) (l :: ls)) : SRows w sz (.slice (some ⟨b, off + sz, none⟩) n (c - 1)) ls := by
  obtain ⟨b, off, cap, hf | ⟨hf, _⟩, hr⟩ := h
  · cases hf
    refine ⟨b, off + sz, _, .inl rfl, fun i hi => ?_⟩
    obtain ⟨h1, h2⟩ := hr (i + 1) (by simpa using hi)
    refine ⟨h1, fun j u hu => ?_⟩
    rw [show off + sz + i * sz + j = off + (i + 1) * sz + j by rw [Nat.succ_mul]; omega]
    exact h2 j u (by simpa using hu)
  · cases hf
theorem flat_get {sz : Nat} : ∀ (ls : List (List Value)) (i j : Nat) (hi : i < ls.length), (∀ l ∈ ls, l.length = sz) → j < sz → ls.flatten[i * sz + j]? = (ls[i])[j]?
  | l :: ls, 0, j, _, h, hj => by
    have := h l (by simp)
    rw [List.flatten_cons, Nat.zero_mul, Nat.zero_add, List.getElem?_append_left (by omega)]
    rfl
  | l :: ls, i + 1, j, hi, h, hj => by
    have hl := h l (by simp)
    rw [List.flatten_cons, Nat.succ_mul, List.getElem?_append_right (by omega), show i * sz + sz + j - l.length = i * sz + j by omega]
    exact flat_get ls i j (by simpa using hi) (fun l' h' => h l' (by simp [h'])) hj
theorem flat_len {sz : Nat} : ∀ (ls : List (List Value)), (∀ l ∈ ls, l.length = sz) → ls.flatten.length = ls.length * sz
  | [], _ => by simp
  | l :: ls, h => by
    rw [List.flatten_cons, List.length_append, flat_len ls fun l' h' => h l' (by simp [h']), h l (by simp), List.length_cons, Nat.succ_mul]
    omega
theorem SRows.of_own {w : World} {base e sz nn : Nat} {v : Value} {ls : List (List Value)} (h : w.ownsRow base e sz v nn ls.flatten) (hs : ∀ l ∈ ls, l.length = sz) (h1 : 1 ≤ sz) : SRows w sz v ls := by
  obtain ⟨hl, h⟩ := h
  rw [flat_len ls hs] at hl
  have hn : ls.length = nn := Nat.eq_of_mul_eq_mul_right (by omega) hl
  subst hn
  rcases h with ⟨rfl, hn⟩ | ⟨g, cap, cur, rfl, _, hg, _, _, hz, ht⟩
  · exact ⟨0, 0, 0, (.inr ⟨rfl, List.eq_nil_of_length_eq_zero hn⟩), fun i hi => by omega⟩
  · refine ⟨g, 0, cap, .inl rfl, fun i hi => ⟨(Array.getElem?_eq_some_iff.1 hg).1, fun j u hu => ?_⟩⟩
    have hj : j < sz := by
      have := (List.getElem?_eq_some_iff.1 hu).1
      rw [hs _ (List.getElem_mem hi)] at this
      exact this
    have hf := flat_get ls i j hi hs hj
    rw [hu, ← ht, List.getElem?_take_of_lt (by
      have : (i + 1) * sz ≤ ls.length * sz := Nat.mul_le_mul_right _ hi
      rw [Nat.succ_mul] at this
      omega)] at hf
    unfold World.cell?
    simp only [hg]
    rw [Nat.zero_add]
    simpa using hf
end Sx
namespace Sx
open Go Go.RowKit
theorem SRows.flat {w : World} {sz b off n c : Nat} {ls : List (List Value)} (h : SRows w sz (.slice (some ⟨b, off, none⟩) n c) ls) (hs : ∀ l ∈ ls, l.length = sz) (h1 : 1 ≤ sz) (j : Nat) (u : Value) (hu : ls.flatten[j]? = some u) : w.cell? ⟨b, off + j, none⟩ = some u := by
  have hj : j < ls.length * sz := by
    have := (List.getElem?_eq_some_iff.1 hu).1
    rwa [flat_len ls hs] at this
  have hi : j / sz < ls.length := (Nat.div_lt_iff_lt_mul (by omega)).2 hj
  have hr : j % sz < sz := Nat.mod_lt _ (by omega)
  have e : j / sz * sz + j % sz = j := Nat.div_add_mod' j sz
  have hf := flat_get ls (j / sz) (j % sz) hi hs hr
  rw [e, hu] at hf
  obtain ⟨b', off', ha, _, hc⟩ := h.at hi
  cases ha
  have := hc (j % sz) u hf.symm
  rwa [Nat.add_assoc, e] at this
theorem flat_set {sz : Nat} (u : Value) : ∀ (ls : List (List Value)) (i j : Nat) (hi : i < ls.length), (∀ l ∈ ls, l.length = sz) → j < sz → ls.flatten.set (i * sz + j) u = (ls.set i ((ls[i]).set j u)).flatten
  | l :: ls, 0, j, _, h, hj => by
    have := h l (by simp)
    rw [List.flatten_cons, Nat.zero_mul, Nat.zero_add, List.set_append_left _ _ (by omega)]
    rfl
  | l :: ls, i + 1, j, hi, h, hj => by
    have hl := h l (by simp)
    rw [List.flatten_cons, Nat.succ_mul, List.set_append_right _ _ (by omega), show i * sz + sz + j - l.length = i * sz + j by omega, flat_set u ls i j (by simpa using hi) (fun l' h' => h l' (by simp [h'])) hj]
    rfl
/-- A row of one's own, with one cell turned. -/
theorem own_set {w : World} {base e sz nn : Nat} {v : Value} {xs : List Value} (h : w.ownsRow base e sz v nn xs) {k : Nat} (hk : k < xs.length) :
    ∃ g cap l, v = .slice (some ⟨g, 0, none⟩) nn cap ∧ nn ≤ cap ∧ base ≤ g ∧ Blk w g l e ∧ k < l.length ∧ ∀ u, (w.putObj g (.cells (l.set k u).toArray e)).ownsRow base e sz v nn (xs.set k u) := by
  obtain ⟨hl, h⟩ := h
  rcases h with ⟨rfl, rfl⟩ | ⟨g, cap, cur, rfl, hb, hg, hc, hm, hz, ht⟩
  · omega
  · have hk2 : k < nn * sz := by omega
    have hcl : cur.toList.length = cap * sz := by rw [Array.length_toList]; exact hz
    have hle : nn * sz ≤ cap * sz := Nat.mul_le_mul_right _ hc
    refine ⟨g, cap, cur.toList, rfl, hc, hb, ?_, by omega, fun u => ⟨by rw [List.length_set]; exact hl, .inr ⟨g, cap, _, rfl, hb, Blk.put_same (lt_of_some hg) _ _, hc, hm, ?_, ?_⟩⟩⟩
    · unfold Blk
      rw [hg]
    · rw [List.size_toArray, List.length_set]
      exact hcl
    · show (cur.toList.set k u).take (nn * sz) = _
      rw [List.take_set, ht]
/-- One element of a slice that is only read. -/
theorem SRows.cut1 {w : World} {sz c : Nat} {a : Option Addr} {ls : List (List Value)} (h : SRows w sz (.slice a ls.length c) ls) (hc : ls.length ≤ c) {i : Nat} (hi : i < ls.length) : SRows w sz (sliced a i (i + 1) c sz) [ls[i]] := by
  obtain ⟨b, off, rfl, hb, hr⟩ := h.at hi
  unfold sliced
  rw [if_neg (by omega)]
  refine ⟨b, off + i * sz, c - i, .inl ?_, fun j hj => ?_⟩
  · simp [add_none]
  · have hj' : j < 1 := hj
    obtain rfl : j = 0 := by omega
    refine ⟨hb, fun k u hu => ?_⟩
    rw [Nat.zero_mul, Nat.add_zero]
    exact hr k u hu
section rules
variable {P : Program} {rd : Option Nat} {n : Nat} {ops : Array Oper} {Q : Post} {rest : List Oper} {F : Fr} {ds : List Deferred} {w : World} {ty : TypeId} {pos : String} {after : Array Edge}
/-- append of structs that are only read. -/
theorem Lst_appendR {d : Nat} {s x : Operand} {t e B sz bytes nn : Nat} {i : TypeInfo} {z v y : Value} {xs : List Value} {ls : List (List Value)} (hown : w.ownsRow B e sz v nn xs) (hy : SRows w sz y ls) (hls : ∀ l ∈ ls, l.length = sz) (hone : ∀ u ∈ ls.flatten, u.oneCell' = true) (hs : ev F s = v) (hx : ev F x = y) (ht : P.underlying t = some (.slice e)) (hi : P.info? e = some i) (hz : i.zero = some z)
    (hsize : i.size = sz) (hby : i.bytes = bytes) (hzs : z.cells.size = sz) (h1 : Nat.ble 1 sz = true) (h63 : nn + ls.length ≤ 9223372036854775807) (hbytes : (nn + ls.length) * bytes ≤ 140737488355328) (hbase : B ≤ w.heap.size) (hd : Nat.blt d n = true)
    (h : ∀ v' w', w'.ownsRow B e sz v' (nn + ls.length) (xs ++ ls.flatten) → w.grownBy w' v.ownBlock → Lst P rd n ops Q rest (upd F d v') ds w') :
    Lst P rd n ops Q (⟨some d, .call { callee := .builtin .append, args := #[s, x], argTypes := #[t, t] }, ty, pos, after, none⟩ :: rest) F ds w := by
  have h1' : 1 ≤ sz := by simpa using h1
  obtain ⟨b, off, cap, hf | ⟨hf, hnil⟩, hr⟩ := id hy
  · subst hf
    exact Lst_append (news := ls.flatten) hs hx ht hi hz hsize hby hzs h1 hown (fun j u hu => hy.flat hls h1' j u hu) (flat_len ls hls) hone h63 hbytes hbase hd fun v' w' ho hg _ => h v' w' ho hg
  · subst hf
    subst hnil
    have hrun := run_append_owned_none (P := P) (w := w) B t ty e i sz ht hi v nn xs hown
    refine Lst_value (v := v) (w' := w) rfl ?_ hd (h v w (by rw [List.flatten_nil, List.append_nil]; exact hown) ⟨rfl, rfl, rfl, Nat.le_refl _, fun _ _ _ => rfl⟩)
    simp [execOp, resolve, invoke, builtin, hs, hx, hrun]
end rules
section q
variable {P : Program} {n : Nat} {ops : Array Oper} {C : World → Prop} {K : Fr → Prop} {rest : List Oper} {F : Fr} {ds : List Deferred} {ty : TypeId} {pos : String} {after : Array Edge}
/-- A struct read whole, in a drawn region. -/
theorem Qst_loadS {d b off : Nat} {x : Operand} {t : TypeId} {u : TypeDesc} {i : TypeInfo} {cs : List Value} (hx : ev F x = .pointer (some ⟨b, off, none⟩)) (ht : P.underlying t = some u) (hu : u.isRow = true) (hi : P.info? t = some i) (hs : i.size = cs.length) (hc : ∀ w, C w → ∀ (j : Nat) (v : Value), cs[j]? = some v → w.cell? ⟨b, off + j, none⟩ = some v) (hd : Nat.blt d n = true)
    (h : Qst P n ops C K rest (upd F d (.agg cs.toArray)) ds) : Qst P n ops C K (⟨some d, .load t x, ty, pos, after, none⟩ :: rest) F ds :=
  Qst_value rfl (fun w hw => by
    have := run_loadAt_mid (P := P) w b off t cs u (hc w hw) ht hu (by rw [hi]; simp [hs])
    simp [execOp, hx, this]) hd h
end q
end Sx
end Go.Proofs.YtfocnbmihcnaoaaGreatDoor
