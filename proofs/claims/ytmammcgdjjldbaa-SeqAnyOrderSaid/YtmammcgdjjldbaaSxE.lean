/- Our calculus of walks: the rules for drawn regions with their numbers told. Over any program. -/
import Derived.Test.YtmammcgdjjldbaaSxGo
namespace Go.Proofs.Ytmammcgdjjldbaa
namespace Sx
open Go Go.RowKit
section act
variable {P : Program} {r : Nat} {ops : Array Oper} {md : Region.Mode} {S : World → Prop} {Q : Exit → Act → World → Prop}
/-- Whatever order is picked, and S holds behind every operation. -/
def AnyS (r : Nat) (P : Program) (md : Region.Mode) (ops : Array Oper) (Q : Exit → Act → World → Prop) (S : World → Prop) : Nat → Array Bool → Act → World → Prop
  | 0, x, a, w => Region.ready md ops x = [] ∧ Q .normal a w
  | f + 1, x, a, w => (Region.ready md ops x = [] → Q .normal a w) ∧ ∀ i ∈ Region.ready md ops x, wpOpIn En r P ops Q i (fun a' w' => S w' ∧ AnyS r P md ops Q S f (x.setIfInBounds i true) a' w') a w
theorem anyIn_of_S : ∀ (f : Nat) (x : Array Bool) (a : Act) (w : World), AnyS r P md ops Q S f x a w → wpAnyIn En r P md ops Q f x a w
  | 0, _, _, _, h => h
  | f + 1, _, _, _, h => ⟨h.1, fun i hi => wpOpIn_mono (fun a' w' h' => anyIn_of_S f _ a' w' h'.2) (h.2 i hi)⟩
theorem anyS_first {i : Nat} {oi : Oper} {v : Value} (hi : ops[i]? = some oi) (hsel : ∀ (j : Nat) (o : Oper) cs b, ops[j]? = some o → o.op ≠ .select cs b)
    (hQ : ∀ c a w, ¬ Q (.panic c) a w) :
    ∀ (fuel : Nat) (x : Array Bool) (a : Act) (w : World),
      (∀ j oj, ops[j]? = some oj → j ≠ i → x.getD j true = false → (∀ e ∈ oj.after, Region.binds md e = true → e.on ≠ i) → oi.apart ops oj = true) →
      i ∈ Region.ready md ops x → YieldsS P ops S oi v a → S w →
      AnyS r P md ops Q S fuel (x.setIfInBounds i true) (a.put oi.dst v) w → AnyS r P md ops Q S (fuel + 1) x a w := by
  intro fuel
  induction fuel with
  | zero =>
    intro x a w _ hr hy hS H
    refine ⟨fun h => (by rw [h] at hr; cases hr), fun j hj => ?_⟩
    by_cases hji : j = i
    · subst hji; exact hy.op hi hS ⟨hS, H⟩
    · have := ready_mono hj hji
      rw [H.1] at this
      cases this
  | succ fuel ih =>
    intro x a w hfree hr hy hS H
    refine ⟨fun h => (by rw [h] at hr; cases hr), fun j hj => ?_⟩
    by_cases hji : j = i
    · subst hji; exact hy.op hi hS ⟨hS, H⟩
    · have h1 := H.2 j (ready_mono hj hji)
      obtain ⟨hjun, oj, hoj, hall⟩ := mem_ready.1 hj
      have hnot : ∀ e ∈ oj.after, Region.binds md e = true → e.on ≠ i := fun e he hb heq => by
        have h1 := hall e he hb
        have h0 := (mem_ready.1 hr).1
        rw [heq] at h1
        rw [getD_both h0] at h1
        cases h1
      have h2 := opIn_putS hoj (hfree j oj hoj hji hjun hnot) (fun cs b => hsel i oi cs b hi) (fun cs b => hsel j oj cs b hoj) hQ hy h1
      have hfree' : ∀ k ok, ops[k]? = some ok → k ≠ i → (x.setIfInBounds j true).getD k true = false →
          (∀ e ∈ ok.after, Region.binds md e = true → e.on ≠ i) → oi.apart ops ok = true := fun k ok hk hki hun hno => by
        refine hfree k ok hk hki ?_ hno
        by_cases hjk : j = k
        · subst hjk; exact hjun
        · rw [getD_set_ne true hjk] at hun; exact hun
      refine wpOpIn_mono (fun a' w' h3 => ⟨h3.2.1, ih (x.setIfInBounds j true) a' w' hfree' (ready_mono hr (Ne.symm hji)) h3.1 h3.2.1 ?_⟩) h2
      rw [Array.setIfInBounds_comm _ _ hji]
      exact h3.2.2
end act

section fr
variable {P : Program} {n : Nat} {C S : World → Prop} {F : Fr} {ds : List Deferred} {w : World}
theorem R_takeN {l : List Oper} {Q : Post} {g' : Nat} {L : List Nat} (i : Nat) (J : List Nat) (g : Nat) (S : World → Prop) (hg : g' = J.length + g + 1)
    (hB : (Region.noSelect l.toArray && (Region.ready .any l.toArray (lst l.length L)).contains i && Region.free .any l.toArray (lst l.length L) i && forcedB .any l.toArray i J (lst l.length L) && (nth l i).all (fun o => calm o.op)) = true)
    (hQ : ∀ c F ds w, ¬ Q (.panic c) F ds w) (hS : S w) (h : Qst P n l.toArray S (fun G => Tk P n l S Q (Rn P n l Q g (J.reverse ++ i :: L)) J G ds w) (nth l i) F ds) : Rn P n l Q g' L F ds w := by
  subst hg
  exact R_take i J S hB hQ hS h
theorem W_drawN {id : Nat} {l : List Oper} {Q : Post} (m s g : Nat) (C : World → Prop) (hm : P.follows .mixedOrders = true) (hB : beginB l.toArray m s = true) (hg : l.length - m = g) (hC : C w.drew)
    (h : Qst P n l.toArray C (fun G => ∀ w', C w' → Rn P n l Q g (List.range m).reverse G ds w') (l.take m) F ds) : W P none n (.region id l.toArray true) Q F ds w := by
  subst hg
  exact W_drawP m s C hm hB hC h
theorem R_done {l : List Oper} {Q : Post} {L : List Nat} (hB : (Region.ready .any l.toArray (lst l.length L)).isEmpty = true) (h : Q .normal F ds w) : Rn P n l Q 0 L F ds w := fun _ _ hf =>
  ⟨by simpa using hB, F, ds, hf, h⟩
/-- The region's rest, where S holds behind every operation: pure operations may be taken first, others branch. -/
def RnS (P : Program) (n : Nat) (l : List Oper) (S : World → Prop) (Q : Post) (g : Nat) (L : List Nat) (F : Fr) (ds : List Deferred) (w : World) : Prop :=
  ∀ r a, Fits n F ds a → AnyS r P .any l.toArray (lift n Q) S g (lst l.length L) a w
theorem W_drawS {id : Nat} {l : List Oper} {Q : Post} (g : Nat) (S : World → Prop) (hm : P.follows .mixedOrders = true) (hg : l.length = g) (h : RnS P n l S Q g [] F ds w.drew) : W P none n (.region id l.toArray true) Q F ds w := fun r a hf => by
  refine wpIn_region_any hm ?_
  subst hg
  have := anyIn_of_S _ _ _ _ (h r a hf)
  simpa [lst] using this
theorem S_take {l : List Oper} {Q : Post} {g' : Nat} {L : List Nat} (i g : Nat) (hg : g' = g + 1) (hB : (Region.noSelect l.toArray && (Region.ready .any l.toArray (lst l.length L)).contains i && Region.free .any l.toArray (lst l.length L) i && (nth l i).all (fun o => calm o.op)) = true)
    (hQ : ∀ c F ds w, ¬ Q (.panic c) F ds w) (hS : S w) (h : Qst P n l.toArray S (fun G => RnS P n l S Q g (i :: L) G ds w) (nth l i) F ds) : RnS P n l S Q g' L F ds w := fun r a hf => by
  subst hg
  have hQ' : ∀ c a w, ¬ lift n Q (.panic c) a w := fun c a w ⟨F, ds, _, h⟩ => hQ c F ds w h
  simp only [Bool.and_eq_true] at hB
  obtain ⟨⟨⟨hsel, hr⟩, hfree⟩, hc⟩ := hB
  have hr : i ∈ Region.ready .any l.toArray (lst l.length L) := by simpa using hr
  obtain ⟨_, o, ho, _⟩ := mem_ready.1 hr
  rw [nth_some ho] at hc h
  simp only [List.all_cons, List.all_nil, Bool.and_true] at hc
  have h := h a hf
  have : ∃ v, YieldsS P l.toArray S o v a ∧ ∃ G, Fits n G ds (a.put o.dst v) ∧ RnS P n l S Q g (i :: L) G ds w := by
    unfold wpQuiet at h
    by_cases hw : Region.wanted o (yielded l.toArray a.tmps) = true
    · rw [if_pos hw] at h
      obtain ⟨v, h1, G, hG, h2⟩ := h
      exact ⟨v, .inl ⟨hw, fun w' hw' => calm_value hc (h1 w' hw')⟩, G, hG, h2⟩
    · rw [if_neg hw] at h
      obtain ⟨G, hG, h2⟩ := h
      exact ⟨undef, .inr ⟨by simpa using hw, rfl⟩, G, hG, h2⟩
  obtain ⟨v, hy, G, hG, hT⟩ := this
  exact anyS_first ho (Region.noSelect_spec hsel) hQ' g _ a w (Region.free_spec ho hfree) hr hy hS (hT r _ hG)
/-- Whichever of those that can come up. -/
theorem S_any {l : List Oper} {Q : Post} {g' : Nat} {L : List Nat} (rs : List Nat) (g : Nat) (hg : g' = g + 1) (hB : (decide (Region.ready .any l.toArray (lst l.length L) = rs) && !rs.isEmpty) = true)
    (h : ∀ i ∈ rs, Lst P none n l.toArray (rnQ Q (fun G ds' w' => S w' ∧ RnS P n l S Q g (i :: L) G ds' w')) (nth l i) F ds w) : RnS P n l S Q g' L F ds w := fun r a hf => by
  subst hg
  simp only [Bool.and_eq_true, decide_eq_true_eq] at hB
  obtain ⟨hr, hne⟩ := hB
  refine ⟨fun e => (by rw [hr] at e; subst e; simp at hne), fun j hj => ?_⟩
  have hj' := hj
  rw [hr] at hj'
  obtain ⟨_, o, ho, _⟩ := mem_ready.1 hj
  refine op_of_lst ho ?_ (h j hj') hf
  rintro a w ⟨G, ds', hG, hS, hR⟩
  exact ⟨hS, hR r a hG⟩
theorem all1 {p : Nat → Prop} {i : Nat} (h : p i) : ∀ j ∈ [i], p j := by simpa using h
theorem all2 {p : Nat → Prop} {i k : Nat} (h : p i) (h2 : p k) : ∀ j ∈ [i, k], p j := by simp [h, h2]
theorem S_done {l : List Oper} {Q : Post} {L : List Nat} (hB : (Region.ready .any l.toArray (lst l.length L)).isEmpty = true) (h : Q .normal F ds w) : RnS P n l S Q 0 L F ds w := fun _ _ hf =>
  ⟨by simpa using hB, F, ds, hf, h⟩
/-- Frames that agree. -/
theorem W_frame {rd : Option Nat} {c : Code} {Q : Post} {G : Fr} (e : ∀ i, F i = G i) (h : W P rd n c Q G ds w) : W P rd n c Q F ds w := fun m a hf => h m a (hf.congr e)
theorem upd_comm {d e : Nat} {u v : Value} (hne : d ≠ e) (i : Nat) : upd (upd F d u) e v i = upd (upd F e v) d u i := by
  unfold upd
  by_cases h1 : i = e
  · subst h1; simp [beq_ne (Ne.symm hne)]
  · rw [beq_ne h1]; rfl
end fr
end Sx
namespace Sx
open Go Go.RowKit
section fr
variable {P : Program} {n : Nat} {S : World → Prop} {F : Fr} {ds : List Deferred} {w : World}
theorem S_takeP {l : List Oper} {Q : Post} {g' : Nat} {L : List Nat} {d : Nat} {op : Op} {ty : TypeId} {v : Value} {pos : String} {after : Array Edge} (i g : Nat) (hg : g' = g + 1) (hB : (Region.noSelect l.toArray && (Region.ready .any l.toArray (lst l.length L)).contains i && Region.free .any l.toArray (lst l.length L) i) = true)
    (hQ : ∀ c F ds w, ¬ Q (.panic c) F ds w) (hS : S w) (hn : nth l i = [⟨some d, op, ty, pos, after, none⟩]) (hp : Pu P F op ty v) (hd : Nat.blt d n = true) (h : RnS P n l S Q g (i :: L) (upd F d v) ds w) : RnS P n l S Q g' L F ds w := fun r a hf => by
  subst hg
  have hQ' : ∀ c a w, ¬ lift n Q (.panic c) a w := fun c a w ⟨F, ds, _, h⟩ => hQ c F ds w h
  simp only [Bool.and_eq_true] at hB
  obtain ⟨⟨hsel, hr⟩, hfree⟩ := hB
  have hr : i ∈ Region.ready .any l.toArray (lst l.length L) := by simpa using hr
  obtain ⟨_, o, ho, _⟩ := mem_ready.1 hr
  rw [nth_some ho] at hn
  obtain rfl : o = ⟨some d, op, ty, pos, after, none⟩ := (List.cons.inj hn).1
  exact anyS_first ho (Region.noSelect_spec hsel) hQ' g _ a w (Region.free_spec ho hfree) hr (.inl ⟨wanted_none rfl _, fun w' _ => by rw [hf.eval]; exact hp _ _ _ _⟩) hS (h r _ (show Fits n (updO F (some d) v) ds (a.put (some d) v) from hf.put v hd))
end fr
end Sx
namespace Sx
open Go Go.RowKit
/-- No call. -/
def plainOp : Op → Bool
  | .move _ | .assign _ | .pick _ _ _ | .build _ _ | .load _ _ | .binOp _ _ _ _ _ | .unOp _ _ _ | .convert _ _ _ | .makeInterface _ _ | .makeFunc _ _ _ | .fieldAddr _ _ _ | .field _ _ _ | .indexAddr _ _ _ | .index _ _ _ | .lookup _ _ _ _ | .typeAssert _ _ _ _ | .extract _ _ | .slice _ _ _ _ _ => true
  | .nilCheck _ => true
  | _ => false
section fr
variable {P : Program} {n : Nat} {C S : World → Prop} {F : Fr} {ds : List Deferred} {w : World}
theorem yv_bind {α : Type} {m : Sem α} {k : α → Sem Next} (hk : ∀ b w x w', (k b).run P w = .ok x w' → ∃ u, x = .value u) {w w' : World} {x : Next} (h : (m >>= k).run P w = .ok x w') : ∃ u, x = .value u := by
  rw [Sem.run_bind] at h
  cases hs : m.run P w with
  | ok v w2 => rw [hs] at h; exact hk _ _ _ _ h
  | halt v w2 => rw [hs] at h; cases h
theorem plain_value {o : Oper} {a : Act} {v : Value} (hc : plainOp o.op = true) (h : o.quietAt P a C w v) : (execOp a.eval o).run P w = .ok (.value v) w := by
  unfold Oper.quietAt at h
  have key : ∀ x w', (execOp a.eval o).run P w = .ok x w' → ∃ u, x = .value u := by
    intro x w' hx
    unfold execOp at hx
    split at hx <;> simp only [*, plainOp, Bool.false_eq_true] at hc
    all_goals first
      | exact run_value hx
      | (simp only [Sem.run_pure] at hx; cases hx; exact ⟨_, rfl⟩)
      | skip
    · exact yv_bind (fun b w x w' hx => by simp only [Sem.run_pure] at hx; cases hx; exact ⟨_, rfl⟩) hx
    · split at hx
      · cases hx
      · cases hx
      · cases hx
      · split at hx
        · cases hx
        · exact yv_bind (fun b w x w' hx => yv_bind (fun c w x w' hx => by
            split at hx
            · exact yv_bind (fun d w x w' hx => by simp only [Sem.run_pure] at hx; cases hx; exact ⟨_, rfl⟩) hx
            · simp only [Sem.run_pure] at hx; cases hx; exact ⟨_, rfl⟩) hx) hx
        · simp only [Sem.run_pure] at hx; cases hx; exact ⟨_, rfl⟩
      · simp only [Sem.run_pure] at hx; cases hx; exact ⟨_, rfl⟩
  cases hz : (execOp a.eval o).run P w with
  | halt x w' => rw [hz] at h; exact h.elim
  | ok x w' =>
    obtain ⟨u, rfl⟩ := key x w' hz
    rw [hz] at h
    simp only [Oper.quietUpon] at h
    rw [h.1, h.2]
theorem S_takeV {l : List Oper} {Q : Post} {g' : Nat} {L : List Nat} (i g : Nat) (hg : g' = g + 1) (hB : (Region.noSelect l.toArray && (Region.ready .any l.toArray (lst l.length L)).contains i && Region.free .any l.toArray (lst l.length L) i && (nth l i).all (fun o => plainOp o.op)) = true)
    (hQ : ∀ c F ds w, ¬ Q (.panic c) F ds w) (hS : S w) (h : Qst P n l.toArray S (fun G => RnS P n l S Q g (i :: L) G ds w) (nth l i) F ds) : RnS P n l S Q g' L F ds w := fun r a hf => by
  subst hg
  have hQ' : ∀ c a w, ¬ lift n Q (.panic c) a w := fun c a w ⟨F, ds, _, h⟩ => hQ c F ds w h
  simp only [Bool.and_eq_true] at hB
  obtain ⟨⟨⟨hsel, hr⟩, hfree⟩, hc⟩ := hB
  have hr : i ∈ Region.ready .any l.toArray (lst l.length L) := by simpa using hr
  obtain ⟨_, o, ho, _⟩ := mem_ready.1 hr
  rw [nth_some ho] at hc h
  simp only [List.all_cons, List.all_nil, Bool.and_true] at hc
  have h := h a hf
  have : ∃ v, YieldsS P l.toArray S o v a ∧ ∃ G, Fits n G ds (a.put o.dst v) ∧ RnS P n l S Q g (i :: L) G ds w := by
    unfold wpQuiet at h
    by_cases hw : Region.wanted o (yielded l.toArray a.tmps) = true
    · rw [if_pos hw] at h
      obtain ⟨v, h1, G, hG, h2⟩ := h
      exact ⟨v, .inl ⟨hw, fun w' hw' => plain_value hc (h1 w' hw')⟩, G, hG, h2⟩
    · rw [if_neg hw] at h
      obtain ⟨G, hG, h2⟩ := h
      exact ⟨undef, .inr ⟨by simpa using hw, rfl⟩, G, hG, h2⟩
  obtain ⟨v, hy, G, hG, hT⟩ := this
  exact anyS_first ho (Region.noSelect_spec hsel) hQ' g _ a w (Region.free_spec ho hfree) hr hy hS (hT r _ hG)
end fr
end Sx
end Go.Proofs.Ytmammcgdjjldbaa
