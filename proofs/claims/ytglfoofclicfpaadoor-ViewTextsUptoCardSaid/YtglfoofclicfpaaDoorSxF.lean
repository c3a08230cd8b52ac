/- Our calculus of walks: drawn regions whose last operation turns what was read. Over any program. -/
import Derived.Test.YtglfoofclicfpaaDoorJSxEToSxU
namespace Go.Proofs.YtglfoofclicfpaaDoor
namespace Sx
open Go Go.RowKit
section act
variable {P : Program} {r : Nat} {ops : Array Oper} {md : Region.Mode} {S : World → Prop} {Q : Exit → Act → World → Prop}
def FullX (ops : Array Oper) (x : Array Bool) : Prop := ∀ k o, ops[k]? = some o → x.getD k true = true
/-- What is listed waits for nothing that isn't. -/
def ClosedX (md : Region.Mode) (ops : Array Oper) (x : Array Bool) : Prop := ∀ k o, ops[k]? = some o → x.getD k true = true → ∀ e ∈ o.after, Region.binds md e = true → x.getD e.on true = true
theorem closed_set {j : Nat} {x : Array Bool} (h : ClosedX md ops x) (hj : j ∈ Region.ready md ops x) : ClosedX md ops (x.setIfInBounds j true) := by
  obtain ⟨h0, oj, hoj, hall⟩ := mem_ready.1 hj
  have up : ∀ q, x.getD q true = true → (x.setIfInBounds j true).getD q true = true := fun q hq => by
    by_cases e : j = q
    · subst e
      rcases Nat.lt_or_ge j x.size with hl | hl
      · simp [hl]
      · simp [hl]
    · rw [getD_set_ne true e]
      exact hq
  intro k o ho hk e he hb
  by_cases hkj : j = k
  · subst hkj
    rw [hoj] at ho
    cases ho
    have h1 := hall e he hb
    refine up _ ?_
    rcases Nat.lt_or_ge e.on x.size with hl | hl
    · simp [hl] at h1 ⊢
      exact h1
    · simp [Array.getElem?_eq_none hl] at h1
  · rw [getD_set_ne true hkj] at hk
    exact up _ (h k o ho hk e he hb)
/-- Whatever order is picked, and S holds behind every operation but the last. -/
def AnyT (r : Nat) (P : Program) (md : Region.Mode) (ops : Array Oper) (Q : Exit → Act → World → Prop) (S : World → Prop) : Nat → Array Bool → Act → World → Prop
  | 0, x, a, w => Region.ready md ops x = [] ∧ Q .normal a w
  | f + 1, x, a, w => (Region.ready md ops x = [] → Q .normal a w) ∧ ∀ i ∈ Region.ready md ops x, wpOpIn En r P ops Q i (fun a' w' => (S w' ∨ FullX ops (x.setIfInBounds i true)) ∧ AnyT r P md ops Q S f (x.setIfInBounds i true) a' w') a w
theorem anyIn_of_T : ∀ (f : Nat) (x : Array Bool) (a : Act) (w : World), AnyT r P md ops Q S f x a w → wpAnyIn En r P md ops Q f x a w
  | 0, _, _, _, h => h
  | f + 1, _, _, _, h => ⟨h.1, fun i hi => wpOpIn_mono (fun a' w' h' => anyIn_of_T f _ a' w' h'.2) (h.2 i hi)⟩
theorem anyT_first {i k : Nat} {oi ok : Oper} {v : Value} (hi : ops[i]? = some oi) (hk : ops[k]? = some ok) (hki : ∃ e ∈ ok.after, Region.binds md e = true ∧ e.on = i) (hne : k ≠ i) (hsel : ∀ (j : Nat) (o : Oper) cs b, ops[j]? = some o → o.op ≠ .select cs b)
    (hQ : ∀ c a w, ¬ Q (.panic c) a w) :
    ∀ (fuel : Nat) (x : Array Bool) (a : Act) (w : World), ClosedX md ops x →
      (∀ j oj, ops[j]? = some oj → j ≠ i → x.getD j true = false → (∀ e ∈ oj.after, Region.binds md e = true → e.on ≠ i) → oi.apart ops oj = true) →
      i ∈ Region.ready md ops x → YieldsS P ops S oi v a → S w →
      AnyT r P md ops Q S fuel (x.setIfInBounds i true) (a.put oi.dst v) w → AnyT r P md ops Q S (fuel + 1) x a w := by
  intro fuel
  induction fuel with
  | zero =>
    intro x a w _ _ hr hy hS H
    refine ⟨fun h => (by rw [h] at hr; cases hr), fun j hj => ?_⟩
    by_cases hji : j = i
    · subst hji; exact hy.op hi hS ⟨.inl hS, H⟩
    · have := ready_mono hj hji
      rw [H.1] at this
      cases this
  | succ fuel ih =>
    intro x a w hcl hfree hr hy hS H
    refine ⟨fun h => (by rw [h] at hr; cases hr), fun j hj => ?_⟩
    by_cases hji : j = i
    · subst hji; exact hy.op hi hS ⟨.inl hS, H⟩
    · have hnf : ¬ FullX ops ((x.setIfInBounds i true).setIfInBounds j true) := fun hfull => by
        have h0 := (mem_ready.1 hr).1
        obtain ⟨e, he, hb, hon⟩ := hki
        by_cases hkj : j = k
        · subst hkj
          obtain ⟨_, o, ho, hall⟩ := mem_ready.1 hj
          rw [hk] at ho
          cases ho
          have h1 := hall e he hb
          rw [hon, getD_both h0] at h1
          cases h1
        · have h1 := hfull k ok hk
          rw [getD_set_ne true hkj, getD_set_ne true (Ne.symm hne)] at h1
          have h2 := hcl k ok hk h1 e he hb
          rw [hon, h0] at h2
          cases h2
      have h1 := wpOpIn_mono (K' := fun a' w' => S w' ∧ AnyT r P md ops Q S fuel ((x.setIfInBounds i true).setIfInBounds j true) a' w') (fun a' w' h => ⟨h.1.resolve_right hnf, h.2⟩) (H.2 j (ready_mono hj hji))
      obtain ⟨hjun, oj, hoj, hall⟩ := mem_ready.1 hj
      have hnot : ∀ e ∈ oj.after, Region.binds md e = true → e.on ≠ i := fun e he hb heq => by
        have h1 := hall e he hb
        have h0 := (mem_ready.1 hr).1
        rw [heq] at h1
        rw [getD_both h0] at h1
        cases h1
      have h2 := opIn_putS hoj (hfree j oj hoj hji hjun hnot) (fun cs b => hsel i oi cs b hi) (fun cs b => hsel j oj cs b hoj) hQ hy h1
      have hfree' : ∀ k ok, ops[k]? = some ok → k ≠ i → (x.setIfInBounds j true).getD k true = false →
          (∀ e ∈ ok.after, Region.binds md e = true → e.on ≠ i) → oi.apart ops ok = true := fun k ok hk hki hun hno => by
        refine hfree k ok hk hki ?_ hno
        by_cases hjk : j = k
        · subst hjk; exact hjun
        · rw [getD_set_ne true hjk] at hun; exact hun
      refine wpOpIn_mono (fun a' w' h3 => ⟨.inl h3.2.1, ih (x.setIfInBounds j true) a' w' (closed_set hcl hj) hfree' (ready_mono hr (Ne.symm hji)) h3.1 h3.2.1 ?_⟩) h2
      rw [Array.setIfInBounds_comm _ _ hji]
      exact h3.2.2
end act
section fr
variable {P : Program} {n : Nat} {S : World → Prop} {F : Fr} {ds : List Deferred} {w : World}
/-- The region's rest, where S holds behind every operation but the last. -/
def RnT (P : Program) (n : Nat) (l : List Oper) (S : World → Prop) (Q : Post) (g : Nat) (L : List Nat) (F : Fr) (ds : List Deferred) (w : World) : Prop :=
  ClosedX .any l.toArray (lst l.length L) → ∀ r a, Fits n F ds a → AnyT r P .any l.toArray (lift n Q) S g (lst l.length L) a w
theorem W_drawT {id : Nat} {l : List Oper} {Q : Post} (g : Nat) (S : World → Prop) (hm : P.follows .mixedOrders = true) (hg : l.length = g) (h : RnT P n l S Q g [] F ds w.drew) : W P none n (.region id l.toArray true) Q F ds w := fun r a hf => by
  refine wpIn_region_any hm ?_
  subst hg
  have := anyIn_of_T _ _ _ _ (h (fun k o ho hk => by
    have hl : k < l.length := by simpa using (Array.getElem?_eq_some_iff.1 ho).1
    simp [lst, hl] at hk) r a hf)
  simpa [lst] using this
/-- Does one wait for it? -/
def waitsFor (l : List Oper) (i k : Nat) : Bool := k != i && (nth l k).any (fun o => o.after.any fun e => Region.binds .any e && e.on == i)
theorem T_takeV {l : List Oper} {Q : Post} {g' : Nat} {L : List Nat} (i k g : Nat) (hg : g' = g + 1) (hB : (Region.noSelect l.toArray && (Region.ready .any l.toArray (lst l.length L)).contains i && Region.free .any l.toArray (lst l.length L) i && (nth l i).all (fun o => plainOp o.op) && waitsFor l i k) = true)
    (hQ : ∀ c F ds w, ¬ Q (.panic c) F ds w) (hS : S w) (h : Qst P n l.toArray S (fun G => RnT P n l S Q g (i :: L) G ds w) (nth l i) F ds) : RnT P n l S Q g' L F ds w := fun hcl r a hf => by
  subst hg
  have hQ' : ∀ c a w, ¬ lift n Q (.panic c) a w := fun c a w ⟨F, ds, _, h⟩ => hQ c F ds w h
  simp only [Bool.and_eq_true] at hB
  obtain ⟨⟨⟨⟨hsel, hr⟩, hfree⟩, hc⟩, hwt⟩ := hB
  have hr : i ∈ Region.ready .any l.toArray (lst l.length L) := by simpa using hr
  obtain ⟨_, o, ho, _⟩ := mem_ready.1 hr
  rw [nth_some ho] at hc h
  simp only [List.all_cons, List.all_nil, Bool.and_true] at hc
  have h := h a hf
  have hcl' := closed_set hcl hr
  have : ∃ v, YieldsS P l.toArray S o v a ∧ ∃ G, Fits n G ds (a.put o.dst v) ∧ RnT P n l S Q g (i :: L) G ds w := by
    unfold wpQuiet at h
    by_cases hw : Region.wanted o (yielded l.toArray a.tmps) = true
    · rw [if_pos hw] at h
      obtain ⟨v, h1, G, hG, h2⟩ := h
      exact ⟨v, .inl ⟨hw, fun w' hw' => plain_value hc (h1 w' hw')⟩, G, hG, h2⟩
    · rw [if_neg hw] at h
      obtain ⟨G, hG, h2⟩ := h
      exact ⟨undef, .inr ⟨by simpa using hw, rfl⟩, G, hG, h2⟩
  obtain ⟨v, hy, G, hG, hT⟩ := this
  unfold waitsFor at hwt
  simp only [Bool.and_eq_true, bne_iff_ne, ne_eq] at hwt
  obtain ⟨hki, hwt⟩ := hwt
  obtain ⟨ok, hok, he⟩ := List.any_eq_true.1 hwt
  have hk : l.toArray[k]? = some ok := by
    rw [nth_eq] at hok
    simpa using hok
  obtain ⟨e, he1, he2⟩ := Array.any_eq_true'.1 he
  simp only [Bool.and_eq_true, beq_iff_eq] at he2
  exact anyT_first ho hk ⟨e, he1, he2.1, he2.2⟩ hki (Region.noSelect_spec hsel) hQ' g _ a w hcl (Region.free_spec ho hfree) hr hy hS (hT hcl' r _ hG)
theorem T_any {l : List Oper} {Q : Post} {g' : Nat} {L : List Nat} (rs : List Nat) (g : Nat) (hg : g' = g + 1) (hB : (decide (Region.ready .any l.toArray (lst l.length L) = rs) && !rs.isEmpty) = true)
    (h : ∀ i ∈ rs, Lst P none n l.toArray (rnQ Q (fun G ds' w' => S w' ∧ RnT P n l S Q g (i :: L) G ds' w')) (nth l i) F ds w) : RnT P n l S Q g' L F ds w := fun hcl r a hf => by
  subst hg
  simp only [Bool.and_eq_true, decide_eq_true_eq] at hB
  obtain ⟨hr, hne⟩ := hB
  refine ⟨fun e => (by rw [hr] at e; subst e; simp at hne), fun j hj => ?_⟩
  have hj' := hj
  rw [hr] at hj'
  obtain ⟨_, o, ho, _⟩ := mem_ready.1 hj
  refine op_of_lst ho ?_ (h j hj') hf
  rintro a w ⟨G, ds', hG, hS, hR⟩
  exact ⟨.inl hS, hR (closed_set hcl hj) r a hG⟩
/-- The last one. -/
theorem T_last {l : List Oper} {Q : Post} {L : List Nat} (i : Nat) (hB : (decide (Region.ready .any l.toArray (lst l.length L) = [i]) && (lst l.length (i :: L)).all id && (Region.ready .any l.toArray (lst l.length (i :: L))).isEmpty) = true)
    (h : Lst P none n l.toArray (rnQ Q (fun G ds' w' => Q .normal G ds' w')) (nth l i) F ds w) : RnT P n l S Q 1 L F ds w := fun _ r a hf => by
  simp only [Bool.and_eq_true, decide_eq_true_eq] at hB
  obtain ⟨⟨hr, hall⟩, hem⟩ := hB
  refine ⟨fun e => (by rw [hr] at e; cases e), fun j hj => ?_⟩
  have hj' := hj
  rw [hr] at hj'
  obtain rfl := List.mem_singleton.1 hj'
  obtain ⟨_, o, ho, _⟩ := mem_ready.1 hj
  refine op_of_lst ho ?_ h hf
  rintro a w ⟨G, ds', hG, hR⟩
  refine ⟨.inr fun k o' ho' => ?_, List.isEmpty_iff.1 hem, G, ds', hG, hR⟩
  have h1 := Array.all_eq_true.1 hall
  by_cases hk : k < (lst l.length (j :: L)).size
  · have := h1 k hk
    show (lst l.length (j :: L)).getD k true = true
    simp only [Array.getD, hk, dif_pos]
    exact this
  · show (lst l.length (j :: L)).getD k true = true
    simp [hk]
end fr
end Sx
end Go.Proofs.YtglfoofclicfpaaDoor
