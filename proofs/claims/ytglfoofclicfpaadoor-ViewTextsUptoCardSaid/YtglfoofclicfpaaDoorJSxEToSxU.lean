/- Merged: SxE, SxR, SxT, SxU. -/
import Derived.Test.YtglfoofclicfpaaDoorSxGo
import Derived.Test.YtglfoofclicfpaaDoorSxD
import Derived.Laws.OwnMore
import Derived.Scope
import Derived.OrdersIn
namespace Go.Proofs.YtglfoofclicfpaaDoor
set_option maxRecDepth 100000
namespace Sx
open Go Go.RowKit
section act
variable {P : Program} {r : Nat} {ops : Array Oper} {md : Region.Mode} {S : World → Prop} {Q : Exit → Act → World → Prop}
/-- Whatever order is picked, and S holds behind every operation. -/
def AnyS (r : Nat) (P : Program) (md : Region.Mode) (ops : Array Oper) (Q : Exit → Act → World → Prop) (S : World → Prop) : Nat → Array Bool → Act → World → Prop
  | 0, x, a, w => Region.ready md ops x = [] ∧ Q .normal a w
  | f + 1, x, a, w => (Region.ready md ops x = [] → Q .normal a w) ∧ ∀ i ∈ Region.ready md ops x, wpOpIn En r P ops Q i (fun a' w' => S w' ∧ AnyS r P md ops Q S f (x.setIfInBounds i true) a' w') a w
theorem anyIn_of_S : ∀ (f : Nat) (x : Array Bool) (a : Act) (w : World), AnyS r P md ops Q S f x a w → wpAnyIn En r P md ops Q f x a w
  | 0, _, _, _, h => h
  | f + 1, _, _, _, h => ⟨h.1, fun i hi => wpOpIn_mono (fun a' w' h' => anyIn_of_S f _ a' w' h'.2) (h.2 i hi)⟩
theorem anyS_first {i : Nat} {oi : Oper} {v : Value} (hi : ops[i]? = some oi) (hsel : ∀ (j : Nat) (o : Oper) cs b, ops[j]? = some o → o.op ≠ .select cs b)
    (hQ : ∀ c a w, ¬ Q (.panic c) a w) :
    ∀ (fuel : Nat) (x : Array Bool) (a : Act) (w : World),
      (∀ j oj, ops[j]? = some oj → j ≠ i → x.getD j true = false → (∀ e ∈ oj.after, Region.binds md e = true → e.on ≠ i) → oi.apart ops oj = true) →
      i ∈ Region.ready md ops x → YieldsS P ops S oi v a → S w →
      AnyS r P md ops Q S fuel (x.setIfInBounds i true) (a.put oi.dst v) w → AnyS r P md ops Q S (fuel + 1) x a w := by
  intro fuel
  induction fuel with
  | zero =>
    intro x a w _ hr hy hS H
    refine ⟨fun h => (by rw [h] at hr; cases hr), fun j hj => ?_⟩
    by_cases hji : j = i
    · subst hji; exact hy.op hi hS ⟨hS, H⟩
    · have := ready_mono hj hji
      rw [H.1] at this
      cases this
  | succ fuel ih =>
    intro x a w hfree hr hy hS H
    refine ⟨fun h => (by rw [h] at hr; cases hr), fun j hj => ?_⟩
    by_cases hji : j = i
    · subst hji; exact hy.op hi hS ⟨hS, H⟩
    · have h1 := H.2 j (ready_mono hj hji)
      obtain ⟨hjun, oj, hoj, hall⟩ := mem_ready.1 hj
      have hnot : ∀ e ∈ oj.after, Region.binds md e = true → e.on ≠ i := fun e he hb heq => by
        have h1 := hall e he hb
        have h0 := (mem_ready.1 hr).1
        rw [heq] at h1
        rw [getD_both h0] at h1
        cases h1
      have h2 := opIn_putS hoj (hfree j oj hoj hji hjun hnot) (fun cs b => hsel i oi cs b hi) (fun cs b => hsel j oj cs b hoj) hQ hy h1
      have hfree' : ∀ k ok, ops[k]? = some ok → k ≠ i → (x.setIfInBounds j true).getD k true = false →
          (∀ e ∈ ok.after, Region.binds md e = true → e.on ≠ i) → oi.apart ops ok = true := fun k ok hk hki hun hno => by
        refine hfree k ok hk hki ?_ hno
        by_cases hjk : j = k
        · subst hjk; exact hjun
        · rw [getD_set_ne true hjk] at hun; exact hun
      refine wpOpIn_mono (fun a' w' h3 => ⟨h3.2.1, ih (x.setIfInBounds j true) a' w' hfree' (ready_mono hr (Ne.symm hji)) h3.1 h3.2.1 ?_⟩) h2
      rw [Array.setIfInBounds_comm _ _ hji]
      exact h3.2.2
end act

section fr
variable {P : Program} {n : Nat} {C S : World → Prop} {F : Fr} {ds : List Deferred} {w : World}
theorem R_takeN {l : List Oper} {Q : Post} {g' : Nat} {L : List Nat} (i : Nat) (J : List Nat) (g : Nat) (S : World → Prop) (hg : g' = J.length + g + 1)
    (hB : (Region.noSelect l.toArray && (Region.ready .any l.toArray (lst l.length L)).contains i && Region.free .any l.toArray (lst l.length L) i && forcedB .any l.toArray i J (lst l.length L) && (nth l i).all (fun o => calm o.op)) = true)
    (hQ : ∀ c F ds w, ¬ Q (.panic c) F ds w) (hS : S w) (h : Qst P n l.toArray S (fun G => Tk P n l S Q (Rn P n l Q g (J.reverse ++ i :: L)) J G ds w) (nth l i) F ds) : Rn P n l Q g' L F ds w := by
  subst hg
  exact R_take i J S hB hQ hS h
theorem W_drawN {id : Nat} {l : List Oper} {Q : Post} (m s g : Nat) (C : World → Prop) (hm : P.follows .mixedOrders = true) (hB : beginB l.toArray m s = true) (hg : l.length - m = g) (hC : C w.drew)
    (h : Qst P n l.toArray C (fun G => ∀ w', C w' → Rn P n l Q g (List.range m).reverse G ds w') (l.take m) F ds) : W P none n (.region id l.toArray true) Q F ds w := by
  subst hg
  exact W_drawP m s C hm hB hC h
theorem R_done {l : List Oper} {Q : Post} {L : List Nat} (hB : (Region.ready .any l.toArray (lst l.length L)).isEmpty = true) (h : Q .normal F ds w) : Rn P n l Q 0 L F ds w := fun _ _ hf =>
  ⟨by simpa using hB, F, ds, hf, h⟩
/-- The region's rest, where S holds behind every operation: pure operations may be taken first, others branch. -/
def RnS (P : Program) (n : Nat) (l : List Oper) (S : World → Prop) (Q : Post) (g : Nat) (L : List Nat) (F : Fr) (ds : List Deferred) (w : World) : Prop :=
  ∀ r a, Fits n F ds a → AnyS r P .any l.toArray (lift n Q) S g (lst l.length L) a w
theorem W_drawS {id : Nat} {l : List Oper} {Q : Post} (g : Nat) (S : World → Prop) (hm : P.follows .mixedOrders = true) (hg : l.length = g) (h : RnS P n l S Q g [] F ds w.drew) : W P none n (.region id l.toArray true) Q F ds w := fun r a hf => by
  refine wpIn_region_any hm ?_
  subst hg
  have := anyIn_of_S _ _ _ _ (h r a hf)
  simpa [lst] using this
theorem S_take {l : List Oper} {Q : Post} {g' : Nat} {L : List Nat} (i g : Nat) (hg : g' = g + 1) (hB : (Region.noSelect l.toArray && (Region.ready .any l.toArray (lst l.length L)).contains i && Region.free .any l.toArray (lst l.length L) i && (nth l i).all (fun o => calm o.op)) = true)
    (hQ : ∀ c F ds w, ¬ Q (.panic c) F ds w) (hS : S w) (h : Qst P n l.toArray S (fun G => RnS P n l S Q g (i :: L) G ds w) (nth l i) F ds) : RnS P n l S Q g' L F ds w := fun r a hf => by
  subst hg
  have hQ' : ∀ c a w, ¬ lift n Q (.panic c) a w := fun c a w ⟨F, ds, _, h⟩ => hQ c F ds w h
  simp only [Bool.and_eq_true] at hB
  obtain ⟨⟨⟨hsel, hr⟩, hfree⟩, hc⟩ := hB
  have hr : i ∈ Region.ready .any l.toArray (lst l.length L) := by simpa using hr
  obtain ⟨_, o, ho, _⟩ := mem_ready.1 hr
  rw [nth_some ho] at hc h
  simp only [List.all_cons, List.all_nil, Bool.and_true] at hc
  have h := h a hf
  have : ∃ v, YieldsS P l.toArray S o v a ∧ ∃ G, Fits n G ds (a.put o.dst v) ∧ RnS P n l S Q g (i :: L) G ds w := by
    unfold wpQuiet at h
    by_cases hw : Region.wanted o (yielded l.toArray a.tmps) = true
    · rw [if_pos hw] at h
      obtain ⟨v, h1, G, hG, h2⟩ := h
      exact ⟨v, .inl ⟨hw, fun w' hw' => calm_value hc (h1 w' hw')⟩, G, hG, h2⟩
    · rw [if_neg hw] at h
      obtain ⟨G, hG, h2⟩ := h
      exact ⟨undef, .inr ⟨by simpa using hw, rfl⟩, G, hG, h2⟩
  obtain ⟨v, hy, G, hG, hT⟩ := this
  exact anyS_first ho (Region.noSelect_spec hsel) hQ' g _ a w (Region.free_spec ho hfree) hr hy hS (hT r _ hG)
/-- Whichever of those that can come up. -/
theorem S_any {l : List Oper} {Q : Post} {g' : Nat} {L : List Nat} (rs : List Nat) (g : Nat) (hg : g' = g + 1) (hB : (decide (Region.ready .any l.toArray (lst l.length L) = rs) && !rs.isEmpty) = true)
    (h : ∀ i ∈ rs, Lst P none n l.toArray (rnQ Q (fun G ds' w' => S w' ∧ RnS P n l S Q g (i :: L) G ds' w')) (nth l i) F ds w) : RnS P n l S Q g' L F ds w := fun r a hf => by
  subst hg
  simp only [Bool.and_eq_true, decide_eq_true_eq] at hB
  obtain ⟨hr, hne⟩ := hB
  refine ⟨fun e => (by rw [hr] at e; subst e; simp at hne), fun j hj => ?_⟩
  have hj' := hj
  rw [hr] at hj'
  obtain ⟨_, o, ho, _⟩ := mem_ready.1 hj
  refine op_of_lst ho ?_ (h j hj') hf
  rintro a w ⟨G, ds', hG, hS, hR⟩
  exact ⟨hS, hR r a hG⟩
theorem all1 {p : Nat → Prop} {i : Nat} (h : p i) : ∀ j ∈ [i], p j := by simpa using h
theorem all2 {p : Nat → Prop} {i k : Nat} (h : p i) (h2 : p k) : ∀ j ∈ [i, k], p j := by simp [h, h2]
theorem S_done {l : List Oper} {Q : Post} {L : List Nat} (hB : (Region.ready .any l.toArray (lst l.length L)).isEmpty = true) (h : Q .normal F ds w) : RnS P n l S Q 0 L F ds w := fun _ _ hf =>
  ⟨by simpa using hB, F, ds, hf, h⟩
/-- Frames that agree. -/
theorem W_frame {rd : Option Nat} {c : Code} {Q : Post} {G : Fr} (e : ∀ i, F i = G i) (h : W P rd n c Q G ds w) : W P rd n c Q F ds w := fun m a hf => h m a (hf.congr e)
theorem upd_comm {d e : Nat} {u v : Value} (hne : d ≠ e) (i : Nat) : upd (upd F d u) e v i = upd (upd F e v) d u i := by
  unfold upd
  by_cases h1 : i = e
  · subst h1; simp [beq_ne (Ne.symm hne)]
  · rw [beq_ne h1]; rfl
end fr
end Sx
namespace Sx
open Go Go.RowKit
section fr
variable {P : Program} {n : Nat} {S : World → Prop} {F : Fr} {ds : List Deferred} {w : World}
theorem S_takeP {l : List Oper} {Q : Post} {g' : Nat} {L : List Nat} {d : Nat} {op : Op} {ty : TypeId} {v : Value} {pos : String} {after : Array Edge} (i g : Nat) (hg : g' = g + 1) (hB : (Region.noSelect l.toArray && (Region.ready .any l.toArray (lst l.length L)).contains i && Region.free .any l.toArray (lst l.length L) i) = true)
    (hQ : ∀ c F ds w, ¬ Q (.panic c) F ds w) (hS : S w) (hn : nth l i = [⟨some d, op, ty, pos, after, none⟩]) (hp : Pu P F op ty v) (hd : Nat.blt d n = true) (h : RnS P n l S Q g (i :: L) (upd F d v) ds w) : RnS P n l S Q g' L F ds w := fun r a hf => by
  subst hg
  have hQ' : ∀ c a w, ¬ lift n Q (.panic c) a w := fun c a w ⟨F, ds, _, h⟩ => hQ c F ds w h
  simp only [Bool.and_eq_true] at hB
  obtain ⟨⟨hsel, hr⟩, hfree⟩ := hB
  have hr : i ∈ Region.ready .any l.toArray (lst l.length L) := by simpa using hr
  obtain ⟨_, o, ho, _⟩ := mem_ready.1 hr
  rw [nth_some ho] at hn
  obtain rfl : o = ⟨some d, op, ty, pos, after, none⟩ := (List.cons.inj hn).1
  exact anyS_first ho (Region.noSelect_spec hsel) hQ' g _ a w (Region.free_spec ho hfree) hr (.inl ⟨wanted_none rfl _, fun w' _ => by rw [hf.eval]; exact hp _ _ _ _⟩) hS (h r _ (show Fits n (updO F (some d) v) ds (a.put (some d) v) from hf.put v hd))
end fr
end Sx
namespace Sx
open Go Go.RowKit
/-- No call. -/
def plainOp : Op → Bool
  | .move _ | .assign _ | .pick _ _ _ | .build _ _ | .load _ _ | .binOp _ _ _ _ _ | .unOp _ _ _ | .convert _ _ _ | .makeInterface _ _ | .makeFunc _ _ _ | .fieldAddr _ _ _ | .field _ _ _ | .indexAddr _ _ _ | .index _ _ _ | .lookup _ _ _ _ | .typeAssert _ _ _ _ | .extract _ _ | .slice _ _ _ _ _ => true
  | .nilCheck _ => true
  | _ => false
section fr
variable {P : Program} {n : Nat} {C S : World → Prop} {F : Fr} {ds : List Deferred} {w : World}
theorem yv_bind {α : Type} {m : Sem α} {k : α → Sem Next} (hk : ∀ b w x w', (k b).run P w = .ok x w' → ∃ u, x = .value u) {w w' : World} {x : Next} (h : (m >>= k).run P w = .ok x w') : ∃ u, x = .value u := by
  rw [Sem.run_bind] at h
  cases hs : m.run P w with
  | ok v w2 => rw [hs] at h; exact hk _ _ _ _ h
  | halt v w2 => rw [hs] at h; cases h
theorem plain_value {o : Oper} {a : Act} {v : Value} (hc : plainOp o.op = true) (h : o.quietAt P a C w v) : (execOp a.eval o).run P w = .ok (.value v) w := by
  unfold Oper.quietAt at h
  have key : ∀ x w', (execOp a.eval o).run P w = .ok x w' → ∃ u, x = .value u := by
    intro x w' hx
    unfold execOp at hx
    split at hx <;> simp only [*, plainOp, Bool.false_eq_true] at hc
    all_goals first
      | exact run_value hx
      | (simp only [Sem.run_pure] at hx; cases hx; exact ⟨_, rfl⟩)
      | skip
    · exact yv_bind (fun b w x w' hx => by simp only [Sem.run_pure] at hx; cases hx; exact ⟨_, rfl⟩) hx
    · split at hx
      · cases hx
      · cases hx
      · cases hx
      · split at hx
        · cases hx
        · exact yv_bind (fun b w x w' hx => yv_bind (fun c w x w' hx => by
            split at hx
            · exact yv_bind (fun d w x w' hx => by simp only [Sem.run_pure] at hx; cases hx; exact ⟨_, rfl⟩) hx
            · simp only [Sem.run_pure] at hx; cases hx; exact ⟨_, rfl⟩) hx) hx
        · simp only [Sem.run_pure] at hx; cases hx; exact ⟨_, rfl⟩
      · simp only [Sem.run_pure] at hx; cases hx; exact ⟨_, rfl⟩
  cases hz : (execOp a.eval o).run P w with
  | halt x w' => rw [hz] at h; exact h.elim
  | ok x w' =>
    obtain ⟨u, rfl⟩ := key x w' hz
    rw [hz] at h
    simp only [Oper.quietUpon] at h
    rw [h.1, h.2]
theorem S_takeV {l : List Oper} {Q : Post} {g' : Nat} {L : List Nat} (i g : Nat) (hg : g' = g + 1) (hB : (Region.noSelect l.toArray && (Region.ready .any l.toArray (lst l.length L)).contains i && Region.free .any l.toArray (lst l.length L) i && (nth l i).all (fun o => plainOp o.op)) = true)
    (hQ : ∀ c F ds w, ¬ Q (.panic c) F ds w) (hS : S w) (h : Qst P n l.toArray S (fun G => RnS P n l S Q g (i :: L) G ds w) (nth l i) F ds) : RnS P n l S Q g' L F ds w := fun r a hf => by
  subst hg
  have hQ' : ∀ c a w, ¬ lift n Q (.panic c) a w := fun c a w ⟨F, ds, _, h⟩ => hQ c F ds w h
  simp only [Bool.and_eq_true] at hB
  obtain ⟨⟨⟨hsel, hr⟩, hfree⟩, hc⟩ := hB
  have hr : i ∈ Region.ready .any l.toArray (lst l.length L) := by simpa using hr
  obtain ⟨_, o, ho, _⟩ := mem_ready.1 hr
  rw [nth_some ho] at hc h
  simp only [List.all_cons, List.all_nil, Bool.and_true] at hc
  have h := h a hf
  have : ∃ v, YieldsS P l.toArray S o v a ∧ ∃ G, Fits n G ds (a.put o.dst v) ∧ RnS P n l S Q g (i :: L) G ds w := by
    unfold wpQuiet at h
    by_cases hw : Region.wanted o (yielded l.toArray a.tmps) = true
    · rw [if_pos hw] at h
      obtain ⟨v, h1, G, hG, h2⟩ := h
      exact ⟨v, .inl ⟨hw, fun w' hw' => plain_value hc (h1 w' hw')⟩, G, hG, h2⟩
    · rw [if_neg hw] at h
      obtain ⟨G, hG, h2⟩ := h
      exact ⟨undef, .inr ⟨by simpa using hw, rfl⟩, G, hG, h2⟩
  obtain ⟨v, hy, G, hG, hT⟩ := this
  exact anyS_first ho (Region.noSelect_spec hsel) hQ' g _ a w (Region.free_spec ho hfree) hr hy hS (hT r _ hG)
end fr
end Sx
namespace Sx
open Go Go.RowKit
section loads
variable {P : Program} {rd : Option Nat} {n : Nat} {ops : Array Oper} {Q : Post} {rest : List Oper} {F : Fr} {ds : List Deferred} {w : World} {ty : TypeId} {pos : String} {after : Array Edge}
/-- A struct read whole, wherever it lies. -/
theorem Lst_loadS' {d b off : Nat} {x : Operand} {t : TypeId} {u : TypeDesc} {i : TypeInfo} {cs : List Value} (hx : ev F x = .pointer (some ⟨b, off, none⟩)) (ht : P.underlying t = some u) (hu : u.isRow = true) (hi : P.info? t = some i) (hs : i.size = cs.length) (hc : ∀ (j : Nat) (v : Value), cs[j]? = some v → w.cell? ⟨b, off + j, none⟩ = some v) (hd : Nat.blt d n = true)
    (h : Lst P rd n ops Q rest (upd F d (.agg cs.toArray)) ds w) : Lst P rd n ops Q (⟨some d, .load t x, ty, pos, after, none⟩ :: rest) F ds w :=
  Lst_value rfl (by
    have := run_loadAt_mid (P := P) w b off t cs u hc ht hu (by rw [hi]; simp [hs])
    simp [execOp, hx, this]) hd h
end loads
/-- A slice of structs that is only read: the cells of each. -/
def SRows (w : World) (sz : Nat) (v : Value) (ls : List (List Value)) : Prop :=
  ∃ b off cap, (v = .slice (some ⟨b, off, none⟩) ls.length cap ∨ (v = .slice none 0 0 ∧ ls = [])) ∧ ∀ i (h : i < ls.length), b < w.heap.size ∧ ∀ j u, (ls[i])[j]? = some u → w.cell? ⟨b, off + i * sz + j, none⟩ = some u
theorem SRows.form {w : World} {sz : Nat} {v : Value} {ls : List (List Value)} (h : SRows w sz v ls) : ∃ a c, v = .slice a ls.length c := by
  obtain ⟨b, off, cap, hf | ⟨hf, rfl⟩, _⟩ := h
  · exact ⟨_, _, hf⟩
  · exact ⟨_, _, hf⟩
theorem SRows.nil (w : World) (sz : Nat) : SRows w sz (.slice none 0 0) [] := ⟨0, 0, 0, .inr ⟨rfl, rfl⟩, fun _ h => absurd h (Nat.not_lt_zero _)⟩
theorem SRows.below {w w' : World} {sz : Nat} {v : Value} {ls : List (List Value)} {B : Nat} (h : SRows w sz v ls) (hb : Below B w w') (hB : w.heap.size ≤ B) : SRows w' sz v ls := by
  obtain ⟨b, off, cap, hf, hr⟩ := h
  refine ⟨b, off, cap, hf, fun i hi => ?_⟩
  obtain ⟨h1, h2⟩ := hr i hi
  refine ⟨Nat.lt_of_lt_of_le h1 hb.size, fun j u hu => ?_⟩
  exact (hb.cell (p := ⟨b, off + i * sz + j, none⟩) (by show b < B; omega)).trans (h2 j u hu)
theorem SRows.at {w : World} {sz nn : Nat} {a : Option Addr} {c : Nat} {ls : List (List Value)} (h : SRows w sz (.slice a nn c) ls) {i : Nat} (hi : i < ls.length) : ∃ b off, a = some ⟨b, off, none⟩ ∧ b < w.heap.size ∧ ∀ j u, (ls[i])[j]? = some u → w.cell? ⟨b, off + i * sz + j, none⟩ = some u := by
  obtain ⟨b, off, cap, hf | ⟨_, rfl⟩, hr⟩ := h
  · cases hf
    exact ⟨b, off, rfl, hr i hi⟩
  · exact absurd hi (Nat.not_lt_zero _)
theorem SRows.cons {w : World} {sz b off n c : Nat} {l : List Value} {ls : List (List Value)} (h : SRows w sz (.slice (some ⟨b, off, none⟩) (n + 1) c) (l :: ls)) : SRows w sz (.slice (some ⟨b, off + sz, none⟩) n (c - 1)) ls := by
  obtain ⟨b, off, cap, hf | ⟨hf, _⟩, hr⟩ := h
  · cases hf
    refine ⟨b, off + sz, _, .inl rfl, fun i hi => ?_⟩
    obtain ⟨h1, h2⟩ := hr (i + 1) (by simpa using hi)
    refine ⟨h1, fun j u hu => ?_⟩
    rw [show off + sz + i * sz + j = off + (i + 1) * sz + j by rw [Nat.succ_mul]; omega]
    exact h2 j u (by simpa using hu)
  · cases hf
theorem flat_get {sz : Nat} : ∀ (ls : List (List Value)) (i j : Nat) (hi : i < ls.length), (∀ l ∈ ls, l.length = sz) → j < sz → ls.flatten[i * sz + j]? = (ls[i])[j]?
  | l :: ls, 0, j, _, h, hj => by
    have := h l (by simp)
    rw [List.flatten_cons, Nat.zero_mul, Nat.zero_add, List.getElem?_append_left (by omega)]
    rfl
  | l :: ls, i + 1, j, hi, h, hj => by
    have hl := h l (by simp)
    rw [List.flatten_cons, Nat.succ_mul, List.getElem?_append_right (by omega), show i * sz + sz + j - l.length = i * sz + j by omega]
    exact flat_get ls i j (by simpa using hi) (fun l' h' => h l' (by simp [h'])) hj
theorem flat_len {sz : Nat} : ∀ (ls : List (List Value)), (∀ l ∈ ls, l.length = sz) → ls.flatten.length = ls.length * sz
  | [], _ => by simp
  | l :: ls, h => by
    rw [List.flatten_cons, List.length_append, flat_len ls fun l' h' => h l' (by simp [h']), h l (by simp), List.length_cons, Nat.succ_mul]
    omega
theorem SRows.of_own {w : World} {base e sz nn : Nat} {v : Value} {ls : List (List Value)} (h : w.ownsRow base e sz v nn ls.flatten) (hs : ∀ l ∈ ls, l.length = sz) (h1 : 1 ≤ sz) : SRows w sz v ls := by
  obtain ⟨hl, h⟩ := h
  rw [flat_len ls hs] at hl
  have hn : ls.length = nn := Nat.eq_of_mul_eq_mul_right (by omega) hl
  subst hn
  rcases h with ⟨rfl, hn⟩ | ⟨g, cap, cur, rfl, _, hg, _, _, hz, ht⟩
  · exact ⟨0, 0, 0, (.inr ⟨rfl, List.eq_nil_of_length_eq_zero hn⟩), fun i hi => by omega⟩
  · refine ⟨g, 0, cap, .inl rfl, fun i hi => ⟨(Array.getElem?_eq_some_iff.1 hg).1, fun j u hu => ?_⟩⟩
    have hj : j < sz := by
      have := (List.getElem?_eq_some_iff.1 hu).1
      rw [hs _ (List.getElem_mem hi)] at this
      exact this
    have hf := flat_get ls i j hi hs hj
    rw [hu, ← ht, List.getElem?_take_of_lt (by
      have : (i + 1) * sz ≤ ls.length * sz := Nat.mul_le_mul_right _ hi
      rw [Nat.succ_mul] at this
      omega)] at hf
    unfold World.cell?
    simp only [hg]
    rw [Nat.zero_add]
    simpa using hf
end Sx
namespace Sx
open Go Go.RowKit
theorem SRows.flat {w : World} {sz b off n c : Nat} {ls : List (List Value)} (h : SRows w sz (.slice (some ⟨b, off, none⟩) n c) ls) (hs : ∀ l ∈ ls, l.length = sz) (h1 : 1 ≤ sz) (j : Nat) (u : Value) (hu : ls.flatten[j]? = some u) : w.cell? ⟨b, off + j, none⟩ = some u := by
  have hj : j < ls.length * sz := by
    have := (List.getElem?_eq_some_iff.1 hu).1
    rwa [flat_len ls hs] at this
  have hi : j / sz < ls.length := (Nat.div_lt_iff_lt_mul (by omega)).2 hj
  have hr : j % sz < sz := Nat.mod_lt _ (by omega)
  have e : j / sz * sz + j % sz = j := Nat.div_add_mod' j sz
  have hf := flat_get ls (j / sz) (j % sz) hi hs hr
  rw [e, hu] at hf
  obtain ⟨b', off', ha, _, hc⟩ := h.at hi
  cases ha
  have := hc (j % sz) u hf.symm
  rwa [Nat.add_assoc, e] at this
theorem flat_set {sz : Nat} (u : Value) : ∀ (ls : List (List Value)) (i j : Nat) (hi : i < ls.length), (∀ l ∈ ls, l.length = sz) → j < sz → ls.flatten.set (i * sz + j) u = (ls.set i ((ls[i]).set j u)).flatten
  | l :: ls, 0, j, _, h, hj => by
    have := h l (by simp)
    rw [List.flatten_cons, Nat.zero_mul, Nat.zero_add, List.set_append_left _ _ (by omega)]
    rfl
  | l :: ls, i + 1, j, hi, h, hj => by
    have hl := h l (by simp)
    rw [List.flatten_cons, Nat.succ_mul, List.set_append_right _ _ (by omega), show i * sz + sz + j - l.length = i * sz + j by omega, flat_set u ls i j (by simpa using hi) (fun l' h' => h l' (by simp [h'])) hj]
    rfl
/-- A row of one's own, with one cell turned. -/
theorem own_set {w : World} {base e sz nn : Nat} {v : Value} {xs : List Value} (h : w.ownsRow base e sz v nn xs) {k : Nat} (hk : k < xs.length) :
    ∃ g cap l, v = .slice (some ⟨g, 0, none⟩) nn cap ∧ nn ≤ cap ∧ base ≤ g ∧ Blk w g l e ∧ k < l.length ∧ ∀ u, (w.putObj g (.cells (l.set k u).toArray e)).ownsRow base e sz v nn (xs.set k u) := by
  obtain ⟨hl, h⟩ := h
  rcases h with ⟨rfl, rfl⟩ | ⟨g, cap, cur, rfl, hb, hg, hc, hm, hz, ht⟩
  · omega
  · have hk2 : k < nn * sz := by omega
    have hcl : cur.toList.length = cap * sz := by rw [Array.length_toList]; exact hz
    have hle : nn * sz ≤ cap * sz := Nat.mul_le_mul_right _ hc
    refine ⟨g, cap, cur.toList, rfl, hc, hb, ?_, by omega, fun u => ⟨by rw [List.length_set]; exact hl, .inr ⟨g, cap, _, rfl, hb, Blk.put_same (lt_of_some hg) _ _, hc, hm, ?_, ?_⟩⟩⟩
    · unfold Blk
      rw [hg]
    · rw [List.size_toArray, List.length_set]
      exact hcl
    · show (cur.toList.set k u).take (nn * sz) = _
      rw [List.take_set, ht]
/-- One element of a slice that is only read. -/
theorem SRows.cut1 {w : World} {sz c : Nat} {a : Option Addr} {ls : List (List Value)} (h : SRows w sz (.slice a ls.length c) ls) (hc : ls.length ≤ c) {i : Nat} (hi : i < ls.length) : SRows w sz (sliced a i (i + 1) c sz) [ls[i]] := by
  obtain ⟨b, off, rfl, hb, hr⟩ := h.at hi
  unfold sliced
  rw [if_neg (by omega)]
  refine ⟨b, off + i * sz, c - i, .inl ?_, fun j hj => ?_⟩
  · simp [add_none]
  · have hj' : j < 1 := hj
    obtain rfl : j = 0 := by omega
    refine ⟨hb, fun k u hu => ?_⟩
    rw [Nat.zero_mul, Nat.add_zero]
    exact hr k u hu
section rules
variable {P : Program} {rd : Option Nat} {n : Nat} {ops : Array Oper} {Q : Post} {rest : List Oper} {F : Fr} {ds : List Deferred} {w : World} {ty : TypeId} {pos : String} {after : Array Edge}
/-- append of structs that are only read. -/
theorem Lst_appendR {d : Nat} {s x : Operand} {t e B sz bytes nn : Nat} {i : TypeInfo} {z v y : Value} {xs : List Value} {ls : List (List Value)} (hown : w.ownsRow B e sz v nn xs) (hy : SRows w sz y ls) (hls : ∀ l ∈ ls, l.length = sz) (hone : ∀ u ∈ ls.flatten, u.oneCell' = true) (hs : ev F s = v) (hx : ev F x = y) (ht : P.underlying t = some (.slice e)) (hi : P.info? e = some i) (hz : i.zero = some z)
    (hsize : i.size = sz) (hby : i.bytes = bytes) (hzs : z.cells.size = sz) (h1 : Nat.ble 1 sz = true) (h63 : nn + ls.length ≤ 9223372036854775807) (hbytes : (nn + ls.length) * bytes ≤ 140737488355328) (hbase : B ≤ w.heap.size) (hd : Nat.blt d n = true)
    (h : ∀ v' w', w'.ownsRow B e sz v' (nn + ls.length) (xs ++ ls.flatten) → w.grownBy w' v.ownBlock → Lst P rd n ops Q rest (upd F d v') ds w') :
    Lst P rd n ops Q (⟨some d, .call { callee := .builtin .append, args := #[s, x], argTypes := #[t, t] }, ty, pos, after, none⟩ :: rest) F ds w := by
  have h1' : 1 ≤ sz := by simpa using h1
  obtain ⟨b, off, cap, hf | ⟨hf, hnil⟩, hr⟩ := id hy
  · subst hf
    exact Lst_append (news := ls.flatten) hs hx ht hi hz hsize hby hzs h1 hown (fun j u hu => hy.flat hls h1' j u hu) (flat_len ls hls) hone h63 hbytes hbase hd fun v' w' ho hg _ => h v' w' ho hg
  · subst hf
    subst hnil
    have hrun := run_append_owned_none (P := P) (w := w) B t ty e i sz ht hi v nn xs hown
    refine Lst_value (v := v) (w' := w) rfl ?_ hd (h v w (by rw [List.flatten_nil, List.append_nil]; exact hown) ⟨rfl, rfl, rfl, Nat.le_refl _, fun _ _ _ => rfl⟩)
    simp [execOp, resolve, invoke, builtin, hs, hx, hrun]
end rules
section q
variable {P : Program} {n : Nat} {ops : Array Oper} {C : World → Prop} {K : Fr → Prop} {rest : List Oper} {F : Fr} {ds : List Deferred} {ty : TypeId} {pos : String} {after : Array Edge}
/-- A struct read whole, in a drawn region. -/
theorem Qst_loadS {d b off : Nat} {x : Operand} {t : TypeId} {u : TypeDesc} {i : TypeInfo} {cs : List Value} (hx : ev F x = .pointer (some ⟨b, off, none⟩)) (ht : P.underlying t = some u) (hu : u.isRow = true) (hi : P.info? t = some i) (hs : i.size = cs.length) (hc : ∀ w, C w → ∀ (j : Nat) (v : Value), cs[j]? = some v → w.cell? ⟨b, off + j, none⟩ = some v) (hd : Nat.blt d n = true)
    (h : Qst P n ops C K rest (upd F d (.agg cs.toArray)) ds) : Qst P n ops C K (⟨some d, .load t x, ty, pos, after, none⟩ :: rest) F ds :=
  Qst_value rfl (fun w hw => by
    have := run_loadAt_mid (P := P) w b off t cs u (hc w hw) ht hu (by rw [hi]; simp [hs])
    simp [execOp, hx, this]) hd h
end q
end Sx
namespace Tl
open Go Go.RowKit Sx
theorem setR_set : ∀ (l : List Value) (o : Nat) (v : Value), o < l.length → SetR l o v (l.set o v)
  | a :: l, 0, v, _ => .zero a v l
  | a :: l, o + 1, v, h => .succ a v l _ o (setR_set l o v (by simpa using h))
  | [], _, _, h => by simp at h
section rules0
variable {P : Program} {rd : Option Nat} {n : Nat} {ops : Array Oper} {Q : Post} {rest : List Oper} {F : Fr} {ds : List Deferred} {w : World} {ty : TypeId} {pos : String} {after : Array Edge}
theorem P_idxu {t e b off len c : Nat} {x ix : Operand} {k : IntKind} {q : Int} {i : TypeInfo} (hx : ev F x = .slice (some ⟨b, off, none⟩) len c) (hq : ev F ix = .int k q) (ht : P.underlying t = some (.slice e)) (hi : P.info? e = some i) (hs : i.size = 1) (h0 : 0 ≤ q) (h1 : q < len) :
    Pu P F (.indexAddr t x ix) ty (.pointer (some ⟨b, off + q.toNat, none⟩)) := by
  have := P_idx (ty := ty) hx hq ht hi hs h0 h1
  simpa using this
/-- s[j:], s[:j] of a row whose elements take one cell each, written out. -/
theorem P_sl_lo {t e g o n' c : Nat} {x lo : Operand} {k : IntKind} {q : Int} {i : TypeInfo} (j : Nat) (hx : ev F x = .slice (some ⟨g, o, none⟩) n' c) (hlo : ev F lo = .int k q) (ht : P.underlying t = some (.slice e)) (hi' : P.info? e = some i) (hs : i.size = 1) (hq : q = (j : Int)) (h1 : j ≤ n') (h2 : c ≠ j) :
    Pu P F (.slice t x (some lo) none none) ty (.slice (some ⟨g, o + j, none⟩) (n' - j) (c - j)) := by
  have := P_lslice_lo (ty := ty) hx hlo ht hi' hs (by omega) (by omega)
  subst hq
  unfold sliced at this
  rw [Int.toNat_natCast, if_neg h2] at this
  simpa [add_none] using this
theorem P_sl_hi {t e g o n' c : Nat} {x hi : Operand} {k : IntKind} {q : Int} {i : TypeInfo} (j : Nat) (hx : ev F x = .slice (some ⟨g, o, none⟩) n' c) (hhi : ev F hi = .int k q) (ht : P.underlying t = some (.slice e)) (hi' : P.info? e = some i) (hs : i.size = 1) (hq : q = (j : Int)) (h1 : j ≤ c) :
    Pu P F (.slice t x none (some hi) none) ty (.slice (some ⟨g, o, none⟩) j c) := by
  have := P_lslice_hi (ty := ty) hx hhi ht hi' hs (by omega) (by omega)
  subst hq
  unfold sliced at this
  rw [Int.toNat_natCast] at this
  split at this <;> simpa [add_none] using this
/-- A call that the model answers itself, in this world. -/
theorem Lst_ext {d : Nat} {f : Operand} {as : List Operand} {g : Nat} {ts : Array TypeId} {fn : Func} {e : Array Value → Sem Value} {v : Value} (he : Extern.find fn = some e) (hf : ev F f = .func (.func g) #[] #[]) (hfn : P.funcs[g]? = some fn) (hname : (fn.name == "runtime.NumGoroutine") = false) (hb : fn.body.isNone = true) (hn : Extern.findNext fn = none)
    (hrun : (e (evs F as).toArray).run P w = .ok v w) (hd : Nat.blt d n = true) (h : Lst P rd n ops Q rest (upd F d v) ds w) : Lst P rd n ops Q (⟨some d, .call { callee := .value f, args := as.toArray, argTypes := ts }, ty, pos, after, none⟩ :: rest) F ds w := by
  have e2 := map_evs (F := F) as
  have hr : (callFunc g (evs F as).toArray).run P w = .ok (.value v) w := by rw [run_callFunc_extern hfn hname hb hn he, hrun]; rfl
  refine Lst_value (v := v) (w' := w) rfl ?_ hd h
  simp only [execOp, resolve, hf, Deferred.ofValue, invoke, Sem.run_bind, Sem.run_pure, Result.andThen, e2]
  simpa using hr
theorem rndQ_p {α : Type} {vals : α → St} {I : α → World → Prop} {μ : α → World → Nat} {m : Nat} {ds' : List Deferred} (h : ∀ c F ds w, ¬ Q (.panic c) F ds w) : ∀ c F ds w, ¬ rndQ vals I μ m Q ds' (.panic c) F ds w := fun c F ds w => h c F ds w
end rules0
theorem Qa {G G' : Prop} (k : G') (h : Box G' → G := by
  intro hkbox
  (repeat' (first | (apply Qst_nil) | (apply Qst_guard_t; (focus rfl); (focus rfl)) | (apply Qst_guard_f; (focus rfl); (focus rfl); (focus rfl); (focus rfl)) | (apply Qst_guard_u; (focus rfl); (focus rfl); (focus rfl)) | (apply Qst_load; (focus rfl); (focus rfl); (focus rfl); (focus (intro _ hA; subst hA; (repeat (first | assumption | (apply Blk.below (hb := hb1); rotate_left; (focus ((try simp only [World.size_alloc, World.putObj_size, Sx.size_drew]); omega)); rotate_right) | (apply Blk.below (hb := hb2); rotate_left; (focus ((try simp only [World.size_alloc, World.putObj_size, Sx.size_drew]); omega)); rotate_right) | (apply Blk.below (hb := hb3); rotate_left; (focus ((try simp only [World.size_alloc, World.putObj_size, Sx.size_drew]); omega)); rotate_right) | (apply Blk.below (hb := hb4); rotate_left; (focus ((try simp only [World.size_alloc, World.putObj_size, Sx.size_drew]); omega)); rotate_right) | (apply Blk.below (hb := hb5); rotate_left; (focus ((try simp only [World.size_alloc, World.putObj_size, Sx.size_drew]); omega)); rotate_right) | (apply Blk.below (hb := hb6); rotate_left; (focus ((try simp only [World.size_alloc, World.putObj_size, Sx.size_drew]); omega)); rotate_right) | (apply Blk.below (hb := hb7); rotate_left; (focus ((try simp only [World.size_alloc, World.putObj_size, Sx.size_drew]); omega)); rotate_right) | (apply Blk.below (hb := hb8); rotate_left; (focus ((try simp only [World.size_alloc, World.putObj_size, Sx.size_drew]); omega)); rotate_right) | (apply Blk.below (hb := hb9); rotate_left; (focus ((try simp only [World.size_alloc, World.putObj_size, Sx.size_drew]); omega)); rotate_right) | exact Blk.newE (by first | rfl | ((try simp only [World.size_alloc, World.putObj_size, Sx.size_drew]); first | done | omega)) _ _ | exact Blk.put_same (by (try simp only [World.size_alloc, World.putObj_size, Sx.size_drew]); first | done | omega) _ _ | (apply Blk.put_ne; (focus omega)) | apply Blk.alloc | apply Blk.drew)); done)); (focus rfl); (focus rfl)) | (apply Qst_loadc; (focus rfl); (focus rfl); (focus rfl); (focus (intro _ hA; subst hA; assumption)); (focus rfl)) | (apply Qst_pu; (focus (first | (apply P_neg; (focus rfl); (focus (first | assumption | exact wi64 (by omega) (by omega) | exact wu64 (by omega) (by omega) | exact wi32 (by omega) (by omega) | exact wu8 (by omega) (by omega) | rfl))) | (apply P_move; (focus constructor)) | (apply P_assign; (focus constructor)) | (apply P_ar; (focus rfl); (focus rfl); (focus rfl); (focus (first | assumption | exact wi64 (by omega) (by omega) | exact wu64 (by omega) (by omega) | exact wi32 (by omega) (by omega) | exact wu8 (by omega) (by omega) | rfl))) | (apply P_ct; (focus rfl); (focus rfl); (focus rfl); (focus (dsimp only [cmpP]; first | done | omega))) | (apply P_cf; (focus rfl); (focus rfl); (focus rfl); (focus (dsimp only [cmpP]; first | done | omega))) | (apply P_pick_t; (focus rfl); (focus constructor)) | (apply P_pick_f; (focus rfl); (focus constructor)) | (apply P_extract; (focus rfl); (focus rfl)) | (apply P_not; (focus rfl); (focus rfl)) | (apply P_slen; (focus rfl); (focus rfl)) | (apply P_llen; (focus rfl); (focus rfl)) | (apply P_beq; (focus rfl); (focus rfl); (focus rfl); (focus (first | exact beq_self_eq_true _ | rfl))) | (apply P_bne; (focus rfl); (focus rfl); (focus rfl); (focus (first | exact bne_self_eq_false _ | rfl))) | (apply P_sadd; (focus rfl); (focus rfl); (focus omega)) | (apply P_max; (focus rfl); (focus rfl)) | (apply P_min; (focus rfl); (focus rfl)) | (apply P_idx1; (focus rfl); (focus rfl); (focus rfl); (focus rfl); (focus rfl); (focus omega)) | (apply P_nilCheck; (focus rfl)) | (apply P_conv; (focus rfl); (focus rfl); (focus rfl); (focus (first | assumption | exact wi64 (by omega) (by omega) | exact wu64 (by omega) (by omega) | exact wi32 (by omega) (by omega) | exact wu8 (by omega) (by omega) | rfl))) | (apply P_sindex0; (focus rfl); (focus rfl); (focus rfl); (focus omega)) | (apply P_sindexN; (focus rfl); (focus rfl); (focus rfl); (focus omega)) | (apply P_sindex; (focus rfl); (focus rfl); (focus rfl); (focus omega); (focus omega)) | (apply P_makeFunc; (focus (repeat constructor)); (focus (repeat constructor))) | (apply P_seq_t; (focus rfl); (focus rfl); (focus (first | assumption | rfl))) | (apply P_seq_f; (focus rfl); (focus rfl); (focus assumption)) | (apply P_sne_t; (focus rfl); (focus rfl); (focus assumption)) | (apply P_sne_f; (focus rfl); (focus rfl); (focus (first | assumption | rfl))) | (apply P_faddr; (focus rfl); (focus rfl); (focus rfl); (focus rfl); (focus rfl); (focus rfl); (focus (first | (simp only [Nat.zero_add, Nat.add_zero, List.getElem_toArray, List.getElem_cons_zero, List.getElem_cons_succ]; rfl) | rfl))) | (apply P_field; (focus rfl); (focus rfl); (focus rfl); (focus rfl); (focus rfl); (focus rfl)) | (apply P_fieldA; (focus rfl); (focus rfl); (focus rfl); (focus rfl); (focus rfl); (focus rfl); (focus rfl); (focus rfl); (focus (repeat constructor))) | (apply P_build; (focus rfl); (focus rfl); (focus rfl); (focus rfl); (focus rfl); (focus (repeat (first | apply FillO.nil | (apply FillO.cons; (focus constructor); (focus rfl); (focus rfl); (focus (repeat constructor))))))) | (apply P_eqA; (focus rfl); (focus rfl); (focus (kernel_rfl)); (focus (first | (apply Eqv_int_t; (focus rfl); (focus (first | rfl | omega))) | (apply Eqv_int_f; (focus rfl); (focus omega)) | (apply Eqv_str_t; (focus rfl); (focus (first | rfl | assumption))) | (apply Eqv_str_f; (focus rfl); (focus assumption)) | (apply Eqv_bool; (focus rfl); (focus (first | exact beq_self_eq_true _ | rfl))) | (apply Eqv_struct; (focus rfl); (focus (first | rfl | kernel_rfl)); (repeat (first | exact EqvF_nil | (apply EqvF_t; (focus rfl); (focus (first | (apply PartR_1; (focus rfl); (focus rfl); (focus rfl)) | (apply PartR_A; (focus rfl); (focus rfl); (focus rfl); (focus rfl); (focus (repeat constructor))))); (focus (first | (apply PartR_1; (focus rfl); (focus rfl); (focus rfl)) | (apply PartR_A; (focus rfl); (focus rfl); (focus rfl); (focus rfl); (focus (repeat constructor))))); (focus (first | (apply Eqv_int_t; (focus rfl); (focus (first | rfl | omega))) | (apply Eqv_int_f; (focus rfl); (focus omega)) | (apply Eqv_str_t; (focus rfl); (focus (first | rfl | assumption))) | (apply Eqv_str_f; (focus rfl); (focus assumption)) | (apply Eqv_bool; (focus rfl); (focus (first | exact beq_self_eq_true _ | rfl))) | (apply Eqv_struct; (focus rfl); (focus (first | rfl | kernel_rfl)); (repeat (first | exact EqvF_nil | (apply EqvF_t; (focus rfl); (focus (first | (apply PartR_1; (focus rfl); (focus rfl); (focus rfl)) | (apply PartR_A; (focus rfl); (focus rfl); (focus rfl); (focus rfl); (focus (repeat constructor))))); (focus (first | (apply PartR_1; (focus rfl); (focus rfl); (focus rfl)) | (apply PartR_A; (focus rfl); (focus rfl); (focus rfl); (focus rfl); (focus (repeat constructor))))); (focus (first | (apply Eqv_int_t; (focus rfl); (focus (first | rfl | omega))) | (apply Eqv_int_f; (focus rfl); (focus omega)) | (apply Eqv_str_t; (focus rfl); (focus (first | rfl | assumption))) | (apply Eqv_str_f; (focus rfl); (focus assumption)) | (apply Eqv_bool; (focus rfl); (focus (first | exact beq_self_eq_true _ | rfl)))))) | (apply EqvF_f; (focus rfl); (focus (first | (apply PartR_1; (focus rfl); (focus rfl); (focus rfl)) | (apply PartR_A; (focus rfl); (focus rfl); (focus rfl); (focus rfl); (focus (repeat constructor))))); (focus (first | (apply PartR_1; (focus rfl); (focus rfl); (focus rfl)) | (apply PartR_A; (focus rfl); (focus rfl); (focus rfl); (focus rfl); (focus (repeat constructor))))); (focus (first | (apply Eqv_int_t; (focus rfl); (focus (first | rfl | omega))) | (apply Eqv_int_f; (focus rfl); (focus omega)) | (apply Eqv_str_t; (focus rfl); (focus (first | rfl | assumption))) | (apply Eqv_str_f; (focus rfl); (focus assumption)) | (apply Eqv_bool; (focus rfl); (focus (first | exact beq_self_eq_true _ | rfl)))))))))))) | (apply EqvF_f; (focus rfl); (focus (first | (apply PartR_1; (focus rfl); (focus rfl); (focus rfl)) | (apply PartR_A; (focus rfl); (focus rfl); (focus rfl); (focus rfl); (focus (repeat constructor))))); (focus (first | (apply PartR_1; (focus rfl); (focus rfl); (focus rfl)) | (apply PartR_A; (focus rfl); (focus rfl); (focus rfl); (focus rfl); (focus (repeat constructor))))); (focus (first | (apply Eqv_int_t; (focus rfl); (focus (first | rfl | omega))) | (apply Eqv_int_f; (focus rfl); (focus omega)) | (apply Eqv_str_t; (focus rfl); (focus (first | rfl | assumption))) | (apply Eqv_str_f; (focus rfl); (focus assumption)) | (apply Eqv_bool; (focus rfl); (focus (first | exact beq_self_eq_true _ | rfl))) | (apply Eqv_struct; (focus rfl); (focus (first | rfl | kernel_rfl)); (repeat (first | exact EqvF_nil | (apply EqvF_t; (focus rfl); (focus (first | (apply PartR_1; (focus rfl); (focus rfl); (focus rfl)) | (apply PartR_A; (focus rfl); (focus rfl); (focus rfl); (focus rfl); (focus (repeat constructor))))); (focus (first | (apply PartR_1; (focus rfl); (focus rfl); (focus rfl)) | (apply PartR_A; (focus rfl); (focus rfl); (focus rfl); (focus rfl); (focus (repeat constructor))))); (focus (first | (apply Eqv_int_t; (focus rfl); (focus (first | rfl | omega))) | (apply Eqv_int_f; (focus rfl); (focus omega)) | (apply Eqv_str_t; (focus rfl); (focus (first | rfl | assumption))) | (apply Eqv_str_f; (focus rfl); (focus assumption)) | (apply Eqv_bool; (focus rfl); (focus (first | exact beq_self_eq_true _ | rfl)))))) | (apply EqvF_f; (focus rfl); (focus (first | (apply PartR_1; (focus rfl); (focus rfl); (focus rfl)) | (apply PartR_A; (focus rfl); (focus rfl); (focus rfl); (focus rfl); (focus (repeat constructor))))); (focus (first | (apply PartR_1; (focus rfl); (focus rfl); (focus rfl)) | (apply PartR_A; (focus rfl); (focus rfl); (focus rfl); (focus rfl); (focus (repeat constructor))))); (focus (first | (apply Eqv_int_t; (focus rfl); (focus (first | rfl | omega))) | (apply Eqv_int_f; (focus rfl); (focus omega)) | (apply Eqv_str_t; (focus rfl); (focus (first | rfl | assumption))) | (apply Eqv_str_f; (focus rfl); (focus assumption)) | (apply Eqv_bool; (focus rfl); (focus (first | exact beq_self_eq_true _ | rfl))))))))))))))))); (focus rfl)) | (apply P_neA; (focus rfl); (focus rfl); (focus (kernel_rfl)); (focus (first | (apply Eqv_int_t; (focus rfl); (focus (first | rfl | omega))) | (apply Eqv_int_f; (focus rfl); (focus omega)) | (apply Eqv_str_t; (focus rfl); (focus (first | rfl | assumption))) | (apply Eqv_str_f; (focus rfl); (focus assumption)) | (apply Eqv_bool; (focus rfl); (focus (first | exact beq_self_eq_true _ | rfl))) | (apply Eqv_struct; (focus rfl); (focus (first | rfl | kernel_rfl)); (repeat (first | exact EqvF_nil | (apply EqvF_t; (focus rfl); (focus (first | (apply PartR_1; (focus rfl); (focus rfl); (focus rfl)) | (apply PartR_A; (focus rfl); (focus rfl); (focus rfl); (focus rfl); (focus (repeat constructor))))); (focus (first | (apply PartR_1; (focus rfl); (focus rfl); (focus rfl)) | (apply PartR_A; (focus rfl); (focus rfl); (focus rfl); (focus rfl); (focus (repeat constructor))))); (focus (first | (apply Eqv_int_t; (focus rfl); (focus (first | rfl | omega))) | (apply Eqv_int_f; (focus rfl); (focus omega)) | (apply Eqv_str_t; (focus rfl); (focus (first | rfl | assumption))) | (apply Eqv_str_f; (focus rfl); (focus assumption)) | (apply Eqv_bool; (focus rfl); (focus (first | exact beq_self_eq_true _ | rfl))) | (apply Eqv_struct; (focus rfl); (focus (first | rfl | kernel_rfl)); (repeat (first | exact EqvF_nil | (apply EqvF_t; (focus rfl); (focus (first | (apply PartR_1; (focus rfl); (focus rfl); (focus rfl)) | (apply PartR_A; (focus rfl); (focus rfl); (focus rfl); (focus rfl); (focus (repeat constructor))))); (focus (first | (apply PartR_1; (focus rfl); (focus rfl); (focus rfl)) | (apply PartR_A; (focus rfl); (focus rfl); (focus rfl); (focus rfl); (focus (repeat constructor))))); (focus (first | (apply Eqv_int_t; (focus rfl); (focus (first | rfl | omega))) | (apply Eqv_int_f; (focus rfl); (focus omega)) | (apply Eqv_str_t; (focus rfl); (focus (first | rfl | assumption))) | (apply Eqv_str_f; (focus rfl); (focus assumption)) | (apply Eqv_bool; (focus rfl); (focus (first | exact beq_self_eq_true _ | rfl)))))) | (apply EqvF_f; (focus rfl); (focus (first | (apply PartR_1; (focus rfl); (focus rfl); (focus rfl)) | (apply PartR_A; (focus rfl); (focus rfl); (focus rfl); (focus rfl); (focus (repeat constructor))))); (focus (first | (apply PartR_1; (focus rfl); (focus rfl); (focus rfl)) | (apply PartR_A; (focus rfl); (focus rfl); (focus rfl); (focus rfl); (focus (repeat constructor))))); (focus (first | (apply Eqv_int_t; (focus rfl); (focus (first | rfl | omega))) | (apply Eqv_int_f; (focus rfl); (focus omega)) | (apply Eqv_str_t; (focus rfl); (focus (first | rfl | assumption))) | (apply Eqv_str_f; (focus rfl); (focus assumption)) | (apply Eqv_bool; (focus rfl); (focus (first | exact beq_self_eq_true _ | rfl)))))))))))) | (apply EqvF_f; (focus rfl); (focus (first | (apply PartR_1; (focus rfl); (focus rfl); (focus rfl)) | (apply PartR_A; (focus rfl); (focus rfl); (focus rfl); (focus rfl); (focus (repeat constructor))))); (focus (first | (apply PartR_1; (focus rfl); (focus rfl); (focus rfl)) | (apply PartR_A; (focus rfl); (focus rfl); (focus rfl); (focus rfl); (focus (repeat constructor))))); (focus (first | (apply Eqv_int_t; (focus rfl); (focus (first | rfl | omega))) | (apply Eqv_int_f; (focus rfl); (focus omega)) | (apply Eqv_str_t; (focus rfl); (focus (first | rfl | assumption))) | (apply Eqv_str_f; (focus rfl); (focus assumption)) | (apply Eqv_bool; (focus rfl); (focus (first | exact beq_self_eq_true _ | rfl))) | (apply Eqv_struct; (focus rfl); (focus (first | rfl | kernel_rfl)); (repeat (first | exact EqvF_nil | (apply EqvF_t; (focus rfl); (focus (first | (apply PartR_1; (focus rfl); (focus rfl); (focus rfl)) | (apply PartR_A; (focus rfl); (focus rfl); (focus rfl); (focus rfl); (focus (repeat constructor))))); (focus (first | (apply PartR_1; (focus rfl); (focus rfl); (focus rfl)) | (apply PartR_A; (focus rfl); (focus rfl); (focus rfl); (focus rfl); (focus (repeat constructor))))); (focus (first | (apply Eqv_int_t; (focus rfl); (focus (first | rfl | omega))) | (apply Eqv_int_f; (focus rfl); (focus omega)) | (apply Eqv_str_t; (focus rfl); (focus (first | rfl | assumption))) | (apply Eqv_str_f; (focus rfl); (focus assumption)) | (apply Eqv_bool; (focus rfl); (focus (first | exact beq_self_eq_true _ | rfl)))))) | (apply EqvF_f; (focus rfl); (focus (first | (apply PartR_1; (focus rfl); (focus rfl); (focus rfl)) | (apply PartR_A; (focus rfl); (focus rfl); (focus rfl); (focus rfl); (focus (repeat constructor))))); (focus (first | (apply PartR_1; (focus rfl); (focus rfl); (focus rfl)) | (apply PartR_A; (focus rfl); (focus rfl); (focus rfl); (focus rfl); (focus (repeat constructor))))); (focus (first | (apply Eqv_int_t; (focus rfl); (focus (first | rfl | omega))) | (apply Eqv_int_f; (focus rfl); (focus omega)) | (apply Eqv_str_t; (focus rfl); (focus (first | rfl | assumption))) | (apply Eqv_str_f; (focus rfl); (focus assumption)) | (apply Eqv_bool; (focus rfl); (focus (first | exact beq_self_eq_true _ | rfl))))))))))))))))); (focus rfl)) | (apply P_lslice; (focus rfl); (focus rfl); (focus rfl); (focus rfl); (focus rfl); (focus rfl); (focus omega); (focus omega); (focus omega)) | (apply P_lslice_hi; (focus rfl); (focus rfl); (focus rfl); (focus rfl); (focus rfl); (focus omega); (focus omega)) | (apply P_lslice_lo; (focus rfl); (focus rfl); (focus rfl); (focus rfl); (focus rfl); (focus omega); (focus omega)) | (apply P_sslice_lo; (focus rfl); (focus rfl); (focus rfl); (focus omega); (focus omega)) | (apply P_sslice_hi; (focus rfl); (focus rfl); (focus rfl); (focus omega); (focus omega)) | (apply P_sslice; (focus rfl); (focus rfl); (focus rfl); (focus rfl); (focus omega); (focus omega); (focus omega)) | (apply P_idxu; (focus rfl); (focus rfl); (focus rfl); (focus rfl); (focus rfl); (focus omega); (focus omega)))); (focus rfl))))
  exact Box.out hkbox) : G := h ⟨k⟩
section rules
variable {P : Program} {rd : Option Nat} {n : Nat} {Q : Post} {F : Fr} {ds : List Deferred} {w : World}
theorem W_post {Q' : Post} {x : Code} (h : W P rd n x Q F ds w) (hm : ∀ e F ds w, Q e F ds w → Q' e F ds w) : W P rd n x Q' F ds w := fun m a hf =>
  Code.wpIn_mono (fun e a w hq => by
    obtain ⟨G, ds', hg, hq⟩ := hq
    exact ⟨G, ds', hg, hm _ _ _ _ hq⟩) (h m a hf)
theorem cut_seq {α : Type} {vals : α → St} {M : α → World → Prop} {y : Code} (h2 : ∀ (J : Fr) (g : α) (w' : World), M g w' → W P rd n y Q (fr J (vals g)) ds w') : ∀ e F ds' w, cutQ vals M Q ds e F ds' w → seqQ P rd n y Q e F ds' w := by
  intro e F ds' w h
  cases e with
  | normal =>
    obtain ⟨rfl, g, hm, hv⟩ := h
    exact fun m a hf => h2 F g w hm m a (hf.congr (fr_has hv))
  | _ => exact h
theorem W_cutS {α : Type} (vals : α → St) (M : α → World → Prop) {x y : Code} (h1 : W P rd n x (cutQ vals M Q ds) F ds w)
    (h2 : ∀ (J : Fr) (g : α) (w' : World), M g w' → W P rd n y Q (fr J (vals g)) ds w') : W P rd n x (seqQ P rd n y Q) F ds w := W_post h1 (cut_seq h2)
theorem W_cutB {α : Type} (vals : α → St) (M : α → World → Prop) {x y : Code} {id : Nat} (h1 : W P rd n x (blkQ id (cutQ vals M Q ds)) F ds w)
    (h2 : ∀ (J : Fr) (g : α) (w' : World), M g w' → W P rd n y Q (fr J (vals g)) ds w') : W P rd n x (blkQ id (seqQ P rd n y Q)) F ds w := W_post h1 fun e F ds' w h => by
  cases e with
  | exit i =>
    unfold blkQ at h ⊢
    cases hb : Nat.beq i id with
    | true => simp only [hb, cond_true] at h ⊢; exact cut_seq h2 _ _ _ _ h
    | false => simp only [hb, cond_false] at h ⊢; exact cut_seq h2 _ _ _ _ h
  | _ =>
    unfold blkQ at h ⊢
    exact cut_seq h2 _ _ _ _ h
theorem cutQ_p {α : Type} {vals : α → St} {M : α → World → Prop} {ds' : List Deferred} (h : ∀ c F ds w, ¬ Q (.panic c) F ds w) : ∀ c F ds w, ¬ cutQ vals M Q ds' (.panic c) F ds w := fun c F ds w => h c F ds w
/-- A cut behind two pieces of code. -/
theorem W_cut2 {α : Type} (vals : α → St) (M : α → World → Prop) {x y z : Code} (h1 : W P rd n x (seqQ P rd n y (cutQ vals M Q ds)) F ds w)
    (h2 : ∀ (J : Fr) (g : α) (w' : World), M g w' → W P rd n z Q (fr J (vals g)) ds w') : W P rd n x (seqQ P rd n (.seq y z) Q) F ds w := W_post h1 fun e F ds' w h => by
  cases e with
  | normal => exact W_seq (W_post h (cut_seq h2))
  | _ => exact h
end rules
theorem W_scope {P : Program} {n : Nat} {Q : Post} {F : Fr} {ds : List Deferred} {w : World} {c : Code} (hg : ∀ l F ds w, ¬ Q (.goto l) F ds w) (h : W P none n c Q F ds w) : W P none n (.scope c) Q F ds w := fun m a hf => by
  have h1 := wpIn_wide.1 (show c.wpIn Fence.wide m P (lift n Q) a w from h m a hf)
  refine wpIn_wide.2 (wp_scope_straight (Code.wp_mono ?_ h1))
  intro e a' w' hq
  cases e with
  | goto l =>
    obtain ⟨G, ds', _, hq⟩ := hq
    exact absurd hq (hg l G ds' w')
  | _ => exact hq
end Tl
namespace Sx
open Go Go.RowKit
/-! ### A range whose parameters lie in boxes -/
def asgA (B : Nat) (Kp : World → World → Prop) (vals : Nat → St) (I' : Nat → World → Prop) (A : World) : Post
  | .normal, F, ds, A' => ds = [] ∧ ∃ x, Has F (vals x) ∧ I' x A' ∧ KeepsFrom B A A' ∧ Kp A A'
  | _, _, _, _ => False
section rangeA
variable {P : Program} {n : Nat} {Q : Post} {F : Fr} {ds : List Deferred} {w : World}
theorem W_rangeA {g : Operand} {ps : List Nat} {assign body : Code} {gf : Nat} {lb : Array Value} (m : Nat) (enc : Nat → List Value) (Kp : World → World → Prop)
    (hg : ev F g = .func (.func gf) #[] lb) (hen : Enters P gf) (hps : okPs n ps = true) (hlen : ∀ k, (enc k).length = ps.length)
    (hseq : Gives P gf lb m (fun k => (enc k).toArray) Kp w) (hKt : ∀ {A B C : World}, Kp A B → Kp B C → Kp A C)
    (hKb : ∀ (A : World) (l : Nat) (r r' : Loop), w.heap.size ≤ l → A.heap[l]? = some (.loop r) → Kp A (A.putObj l (.loop r')))
    (I : Nat → World → Prop) (Ix : Code → Nat → World → Prop) (hI : ∀ k A A', I k A → Calm w.heap.size A A' → I k A') (hIx : ∀ c k A A', Ix c k A → Calm w.heap.size A A' → Ix c k A') (h0 : I 0 w)
    (vals : Nat → Nat → St) (I' : Nat → Nat → World → Prop) (hI' : ∀ k x A A', I' k x A → Calm w.heap.size A A' → I' k x A')
    (hasg : ∀ l k A, k < m → I k A → W P (some l) n assign (asgA w.heap.size Kp (vals k) (I' k) A) (params F ps (enc k)) [] A)
    (hbody : ∀ l k x J A, k < m → I' k x A → W P (some l) n body (bodyQ w.heap.size Kp I Ix k A) (fr J (vals k x)) [] A)
    (hdone : ∀ D A, w.heap.size ≤ D → I m A → A.heap[D]? = some (.deferred (some [])) → Q .normal F ({ target := .collected D, args := #[] } :: ds) A)
    (hstop : ∀ D c k A, w.heap.size ≤ D → 0 < k → k ≤ m → Ix c k A → A.heap[D]? = some (.deferred (some [])) → W P none n c Q F ({ target := .collected D, args := #[] } :: ds) A) :
    W P none n (.rangeFunc g ps.toArray assign body) Q F ds w := fun r a hf => by
  show (Code.rangeFunc g ps.toArray assign body).wpIn Fence.wide r P (lift n Q) a w
  refine wpIn_rangeFunc ?_
  intro fn _
  let rec_ : LoopState → Option Code → Loop := fun st pe => { state := st, pending := pe, fn, tmps := a.tmps, params := ps.toArray, assign, body, defers := w.heap.size }
  obtain ⟨W1, hW1⟩ : ∃ W1, (w.alloc (.deferred (some []))).alloc (.loop (rec_ .ready none)) = W1 := ⟨_, rfl⟩
  have hL1 : W1.heap[w.heap.size + 1]? = some (.loop (rec_ .ready none)) := by
    rw [← hW1]
    have := World.alloc_heap_new (w.alloc (.deferred (some []))) (.loop (rec_ .ready none))
    rwa [World.size_alloc] at this
  have hK1 : W1.heap[w.heap.size]? = some (.deferred (some [])) := by
    rw [← hW1]
    exact (Below.heap_alloc _ _ _ (by simp)).trans (World.alloc_heap_new w _)
  have hc1 : Calm w.heap.size w W1 := by rw [← hW1]; exact (Calm.alloc _ _ _).trans (Calm.alloc _ _ _)
  have hb1 : Below w.heap.size w W1 := by
    rw [← hW1]
    exact ((Below.refl _ w).alloc (Nat.le_refl _) _).alloc (by simp) _
  have hs1 : W1.heap.size = w.heap.size + 2 := by rw [← hW1]; simp
  have hga : a.eval g = .func (.func gf) #[] lb := by rw [hf.eval]; exact hg
  refine ⟨w.heap.size + 1, [{ target := .collected w.heap.size, args := #[] }], W1, { target := .fn (.func gf) lb, args := #[.func (.yield (w.heap.size + 1)) #[] #[]] }, W1, gf,
    #[.func (.yield (w.heap.size + 1)) #[] #[]] ++ lb, W1, ?_, ?_, (fun _ _ => trivial), ?_, (fun h => (by cases h)), ?_⟩
  · rw [← hW1]; exact run_enterLoop_outer _ _ _ _ _
  · simp only [resolve, hga]
    simp [go_sem]
  · simp only [invoke]; exact hen _ _
  · refine callsIn_wide.2 ?_
    have hst : ∀ (J : Nat → World → Prop) (f : Code → Prop), True := fun _ _ => trivial
    clear hst
    refine (hseq (w.heap.size + 1)
      (fun k A => I k A ∧ A.heap[w.heap.size + 1]? = some (.loop (rec_ .ready none)) ∧ A.heap[w.heap.size]? = some (.deferred (some [])))
      (fun k A => ∃ c, Ix c k A ∧ A.heap[w.heap.size + 1]? = some (.loop (rec_ .done (some c))) ∧ A.heap[w.heap.size]? = some (.deferred (some [])))
      W1 hb1
      (fun k A A' h hc => ⟨hI k A A' h.1 (hc.calm (by omega)), hc.same _ _ h.2.1 (.inr rfl), hc.same _ _ h.2.2 (.inr rfl)⟩)
      (fun k A A' ⟨c, h1, h2, h3⟩ hc => ⟨c, hIx c k A A' h1 (hc.calm (by omega)), hc.same _ _ h2 (.inr rfl), hc.same _ _ h3 (.inr rfl)⟩)
      ?_ ⟨hI _ _ _ h0 hc1, hL1, hK1⟩).mono ?_
    · rintro k A hk ⟨hi, hl, hd⟩
      have hy := run_yield (P := P) (args := (enc k).toArray) hl (by simp [rec_, hlen])
      refine ⟨fn, _, assign, body, hy, ?_⟩
      refine roundIn_of_wpIn (F := Fence.wide) trivial ?_
      have hfit : Fits n (params F ps (enc k)) [] ⟨(ps.zip (enc k)).foldl (fun t x => t.setIfInBounds x.1 x.2) a.tmps, []⟩ :=
        Fits.params ps (enc k) hps ⟨hf.size, rfl, hf.slot⟩
      have ha := hasg (w.heap.size + 1) k A hk hi 0 _ hfit
      have e : (((ps.toArray.zip (enc k).toArray).foldl (fun tmps (x : Nat × Value) => tmps.setIfInBounds x.1 x.2) a.tmps)) = (ps.zip (enc k)).foldl (fun t x => t.setIfInBounds x.1 x.2) a.tmps := by simp
      show assign.wpIn (Fence.wide.inRound (w.heap.size + 1)) 0 P _ { tmps := (ps.toArray.zip (enc k).toArray).foldl (fun tmps (x : Nat × Value) => tmps.setIfInBounds x.1 x.2) a.tmps, defers := [] } A
      rw [e]
      refine Code.wpIn_mono ?_ ha
      rintro e a1 A1 ⟨F1, ds1, hf1, hq⟩
      cases e with
      | normal =>
        obtain ⟨rfl, x, hv, hi', hkf, hkp0⟩ := hq
        have hl0 := hkf.same (w.heap.size + 1) _ (Nat.le_succ _) hl rfl
        have hd0 := hkf.same w.heap.size _ (Nat.le_refl _) hd rfl
        have hlt := lt_of_some hl0
        refine ⟨_, run_beginRound hl0 rfl, ?_⟩
        have hl2 : (A1.putObj (w.heap.size + 1) (.loop { rec_ .ready none with state := .busy })).heap[w.heap.size + 1]? = some (.loop { rec_ .ready none with state := .busy }) := World.putObj_heap_same hlt
        have hd2 : (A1.putObj (w.heap.size + 1) (.loop { rec_ .ready none with state := .busy })).heap[w.heap.size]? = some (.deferred (some [])) := (World.putObj_heap_other (by omega)).trans hd0
        have hp2 := hKb A1 (w.heap.size + 1) _ { rec_ .ready none with state := .busy } (by omega) hl0
        have hb := hbody (w.heap.size + 1) k x F1 _ hk (hI' _ _ _ _ hi' (Calm.put (.loop { rec_ .ready none with state := .busy }) hl0 (by omega) rfl)) 0 a1 (hf1.congr (fr_has hv))
        refine Code.wpIn_mono ?_ hb
        have fin : ∀ (jump : Option Code) (A3 : World), KeepsFrom w.heap.size (A1.putObj (w.heap.size + 1) (.loop { rec_ .ready none with state := .busy })) A3 →
            (Instr.endRound (w.heap.size + 1) jump).run P A3 = .ok (.bool jump.isNone) (A3.putObj (w.heap.size + 1) (.loop (rec_ (if jump.isNone then .ready else .done) jump))) ∧
            A3.heap[w.heap.size + 1]? = some (.loop { rec_ .ready none with state := .busy }) ∧
            (A3.putObj (w.heap.size + 1) (.loop (rec_ (if jump.isNone then .ready else .done) jump))).heap[w.heap.size + 1]? = some (.loop (rec_ (if jump.isNone then .ready else .done) jump)) ∧
            (A3.putObj (w.heap.size + 1) (.loop (rec_ (if jump.isNone then .ready else .done) jump))).heap[w.heap.size]? = some (.deferred (some [])) := fun jump A3 hk3 => by
          have hl3 := hk3.same _ _ (by omega) hl2 rfl
          have hd3 := hk3.same _ _ (Nat.le_refl _) hd2 rfl
          exact ⟨run_endRound (P := P) jump hl3, hl3, World.putObj_heap_same (lt_of_some hl3), (World.putObj_heap_other (by omega)).trans hd3⟩
        rintro e a3 A3 ⟨F3, ds3, _, hq3⟩
        cases e with
        | normal =>
          obtain ⟨hk3, hkp, hi3⟩ := hq3
          obtain ⟨hr, hl3, hl4, hd4⟩ := fin none A3 hk3
          exact ⟨_, _, hr, .inl ⟨rfl, ⟨hI _ _ _ hi3 (Calm.put _ hl3 (by omega) rfl), hl4, hd4⟩, hKt (hKt (hKt hkp0 hp2) hkp) (hKb A3 _ _ _ (by omega) hl3)⟩⟩
        | ret =>
          obtain ⟨hk3, hi3⟩ := hq3
          obtain ⟨hr, hl3, hl4, hd4⟩ := fin (some .ret) A3 hk3
          exact ⟨_, _, hr, .inr ⟨rfl, .ret, hIx _ _ _ _ hi3 (Calm.put _ hl3 (by omega) rfl), hl4, hd4⟩⟩
        | exit id =>
          obtain ⟨hk3, hi3⟩ := hq3
          obtain ⟨hr, hl3, hl4, hd4⟩ := fin (some (.exit id)) A3 hk3
          exact ⟨_, _, hr, .inr ⟨rfl, .exit id, hIx _ _ _ _ hi3 (Calm.put _ hl3 (by omega) rfl), hl4, hd4⟩⟩
        | goto t => exact hq3.elim
        | panic ch => exact hq3.elim
        | outgrown => exact hq3.elim
      | ret => exact hq.elim
      | exit id => exact hq.elim
      | goto t => exact hq.elim
      | panic ch => exact hq.elim
      | outgrown => exact hq.elim
    · rintro e A ⟨⟨v, rfl⟩, h⟩
      rcases h with ⟨hi, hl, hd⟩ | ⟨k, hk0, hkm, c, hi, hl, hd⟩
      · have hr := run_endLoop (P := P) hl (by simp [rec_])
        refine ⟨none, _, hr, ?_⟩
        have hq := hdone w.heap.size _ (Nat.le_refl _) (hI _ _ _ hi (Calm.put (.loop { rec_ .ready none with state := .exhausted }) hl (by omega) rfl)) ((World.putObj_heap_other (by omega)).trans hd)
        exact ⟨F, _, ⟨hf.size, by rw [hf.defers]; rfl, hf.slot⟩, hq⟩
      · have hr := run_endLoop (P := P) hl (by simp [rec_])
        refine ⟨some c, _, hr, ?_⟩
        have hq := hstop w.heap.size c k _ (Nat.le_refl _) hk0 hkm (hIx _ _ _ _ hi (Calm.put (.loop { rec_ .done (some c) with state := .exhausted }) hl (by omega) rfl)) ((World.putObj_heap_other (by omega)).trans hd)
        exact hq r _ ⟨hf.size, by rw [hf.defers]; rfl, hf.slot⟩

/-! ### A call of yield -/
end rangeA
end Sx
namespace Tl
open Go Go.RowKit Sx
theorem op_mono {F : Fence} {n : Nat} {P : Program} {Q Q' : Exit → Act → World → Prop} {o : Oper} {a : Act} {w : World} {K K' : Act → World → Prop} (h : ∀ a w, K a w → K' a w) (hq : ∀ e a w, Q e a w → Q' e a w)
    (hh : o.wpIn F n P a w K Q) : o.wpIn F n P a w K' Q' := by
  unfold Oper.wpIn at *
  refine ⟨hh.1, ?_⟩
  have hh := hh.2
  generalize (o.semAt F.round a.eval).run P w = r at *
  cases r with
  | ok x w' =>
    cases x <;> simp only [Oper.uponIn] at hh ⊢ <;>
      first
        | exact h _ _ hh
        | exact hq _ _ _ hh
        | exact hh
        | exact ⟨hh.1, CallsIn.mono hh.2 (fun e w'' he => by cases e <;> first | exact h _ _ he | exact hq _ _ _ he | exact let ⟨a, w, ho⟩ := he; ⟨a, w, hq _ _ _ ho⟩ | exact he)⟩
        | exact ⟨hh.1, RowsIn.mono hh.2 (fun _ _ he => h _ _ he)⟩
        | exact ⟨hh.1, RoundIn.mono hh.2 (fun e w'' he => by cases e <;> first | exact h _ _ he | exact hq _ _ _ he | exact let ⟨a, w, ho⟩ := he; ⟨a, w, hq _ _ _ ho⟩ | exact he)⟩
  | halt x w' => cases x <;> simp only [Oper.uponIn] at hh ⊢ <;> first | exact hq _ _ _ hh | exact hh
theorem list_mono {F : Fence} {n : Nat} {P : Program} {ops : Array Oper} {Q Q' : Exit → Act → World → Prop} (hq : ∀ e a w, Q e a w → Q' e a w) : ∀ {l : List Oper} {a : Act} {w : World}, wpListIn F n P ops Q l a w → wpListIn F n P ops Q' l a w
  | [], _, _, h => hq _ _ _ h
  | o :: rest, a, w, h => by
    unfold wpListIn at h ⊢
    split
    · rename_i hw
      rw [if_pos hw] at h
      exact op_mono (fun _ _ h => list_mono hq h) hq h
    · rename_i hw
      rw [if_neg hw] at h
      exact ⟨h.1, list_mono hq h.2⟩
section rules
variable {P : Program} {rd : Option Nat} {n : Nat} {ops : Array Oper} {Q : Post} {rest : List Oper} {F : Fr} {ds : List Deferred} {w : World}
theorem Lst_post {Q' : Post} (h : Lst P rd n ops Q rest F ds w) (hm : ∀ e F ds w, Q e F ds w → Q' e F ds w) : Lst P rd n ops Q' rest F ds w := fun m a hf =>
  list_mono (fun e a w hq => by
    obtain ⟨G, ds', hg, hq⟩ := hq
    exact ⟨G, ds', hg, hm _ _ _ _ hq⟩) (h m a hf)
/-- A cut behind the code that comes next. -/
theorem Lst_cut2 {α : Type} (vals : α → St) (M : α → World → Prop) {y z : Code} (h1 : Lst P rd n ops (seqQ P rd n y (cutQ vals M Q ds)) rest F ds w)
    (h2 : ∀ (J : Fr) (g : α) (w' : World), M g w' → W P rd n z Q (fr J (vals g)) ds w') : Lst P rd n ops (seqQ P rd n y (seqQ P rd n z Q)) rest F ds w := Lst_post h1 fun e F ds' w h => by
  cases e with
  | normal => exact W_post h (cut_seq h2)
  | exit i => exact cut_seq h2 (.exit i) F ds' w h
  | goto i => exact cut_seq h2 (.goto i) F ds' w h
  | ret => exact cut_seq h2 .ret F ds' w h
  | panic i => exact cut_seq h2 (.panic i) F ds' w h
  | outgrown => exact cut_seq h2 .outgrown F ds' w h
/-- A cut behind this list. -/
theorem Lst_cut {α : Type} (vals : α → St) (M : α → World → Prop) {z : Code} (h1 : Lst P rd n ops (cutQ vals M Q ds) rest F ds w)
    (h2 : ∀ (J : Fr) (g : α) (w' : World), M g w' → W P rd n z Q (fr J (vals g)) ds w') : Lst P rd n ops (seqQ P rd n z Q) rest F ds w := Lst_post h1 (cut_seq h2)
end rules
end Tl
end Go.Proofs.YtglfoofclicfpaaDoor
