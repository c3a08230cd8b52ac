/- A rule of our calculus for regions whose order is drawn and whose tail is not forced: a head of operations that are quiet in a class of worlds, then operations that are either the only one that can come up, or free and pure (then they are taken first). Over any program. -/
import Derived.Test.YtoljcnlmockpcaaSxQ
namespace Go.Proofs.Ytoljcnlmockpcaa
namespace Sx
open Go Go.RowKit

section act
variable {P : Program} {r : Nat} {ops : Array Oper} {md : Region.Mode} {S : World → Prop} {Q : Exit → Act → World → Prop}
abbrev En : Fence := E none
theorem En_fn (f : Nat) : En.fn f := E_fn none f

def YieldsS (P : Program) (ops : Array Oper) (S : World → Prop) (o : Oper) (v : Value) (a : Act) : Prop :=
  (Region.wanted o (yielded ops a.tmps) = true ∧ ∀ w, S w → (execOp a.eval o).run P w = .ok (.value v) w) ∨ (Region.wanted o (yielded ops a.tmps) = false ∧ v = undef)

theorem YieldsS.op {i : Nat} {o : Oper} {v : Value} {a : Act} (hi : ops[i]? = some o) (hy : YieldsS P ops S o v a) {K : Act → World → Prop} {w : World} (hS : S w) (h : K (a.put o.dst v) w) : wpOpIn En r P ops Q i K a w := by
  unfold wpOpIn
  simp only [hi]
  rcases hy with ⟨hw, hv⟩ | ⟨hw, rfl⟩
  · simp only [hw, if_true, Oper.wpIn, E_round, Oper.semAt_none, hv w hS, Oper.uponIn]; exact ⟨fun f _ => En_fn f, h⟩
  · simp only [hw, Bool.false_eq_true, if_false]; exact ⟨fun f _ => En_fn f, h⟩
theorem YieldsS.same {o : Oper} {v : Value} {a a' : Act} (hy : YieldsS P ops S o v a) (he : execOp a'.eval o = execOp a.eval o)
    (hw : Region.wanted o (yielded ops a'.tmps) = Region.wanted o (yielded ops a.tmps)) : YieldsS P ops S o v a' := by
  unfold YieldsS at *
  rw [he, hw]
  exact hy

theorem opIn_putS {j : Nat} {oi oj : Oper} {v : Value} (hj : ops[j]? = some oj) (hap : oi.apart ops oj = true)
    (hsi : ∀ cs b, oi.op ≠ .select cs b) (hsj : ∀ cs b, oj.op ≠ .select cs b)
    (hQ : ∀ c a w, ¬ Q (.panic c) a w) {K : Act → World → Prop} {a : Act} {w : World}
    (hy : YieldsS P ops S oi v a) (h : wpOpIn En r P ops Q j K (a.put oi.dst v) w) :
    wpOpIn En r P ops Q j (fun a' w' => YieldsS P ops S oi v a' ∧ K (a'.put oi.dst v) w') a w := by
  obtain ⟨h1, h2, h3⟩ := Oper.apart_spec hap
  have keep : ∀ (a : Act), YieldsS P ops S oi v a → ∀ u, YieldsS P ops S oi v (a.put oj.dst u) := fun a hy u =>
    hy.same (execOp_put oi hsi a oj.dst u h3) (wanted_put oi a oj.dst u h3)
  have keepD : ∀ d, YieldsS P ops S oi v { a with defers := d :: a.defers } := fun d => hy.same rfl rfl
  unfold wpOpIn at *
  simp only [hj] at *
  rw [wanted_put oj a oi.dst v h1, about_put oj w a oi.dst v h1] at h
  split
  · rename_i hw
    simp only [hw, if_true] at h
    unfold Oper.wpIn at *
    rw [about_put oj w a oi.dst v h1] at h
    refine ⟨h.1, ?_⟩
    have h := h.2
    rw [E_round, Oper.semAt_none, execOp_put oj hsj a oi.dst v h1] at h
    rw [E_round, Oper.semAt_none]
    generalize (execOp a.eval oj).run P w = z at *
    cases z with
    | ok x w' =>
      cases x <;> simp only [Oper.uponIn] at h ⊢
      case value u => exact ⟨keep a hy u, by rw [← Act.put_comm a v u h2]; exact h⟩
      case skip => exact ⟨keep a hy _, by rw [← Act.put_comm a v undef h2]; exact h⟩
      case defer d =>
        refine ⟨keep _ (keepD d) _, ?_⟩
        rw [← Act.put_comm _ v undef h2, ← Act.put_defers]
        exact h
      case enter f args =>
        refine ⟨h.1, CallsIn.mono h.2 fun e w'' he => ?_⟩
        cases e with
        | returned u => exact ⟨keep a hy u, by rw [← Act.put_comm a v u h2]; exact he⟩
        | panicked c => exact absurd he (hQ _ _ _)
        | outgrown => exact he
      case row row args => exact ⟨h.1, RowsIn.mono h.2 fun u w'' he => ⟨keep a hy u, by rw [← Act.put_comm a v u h2]; exact he⟩⟩
      case round l f tmps assign body =>
        refine ⟨h.1, RoundIn.mono h.2 fun e w'' he => ?_⟩
        cases e with
        | returned u => exact ⟨keep a hy u, by rw [← Act.put_comm a v u h2]; exact he⟩
        | panicked c => exact absurd he (hQ _ _ _)
        | outgrown => exact he
    | halt x w' =>
      cases x <;> simp only [Oper.uponIn] at h ⊢
      case panic u => exact absurd h (hQ _ _ _)
  · rename_i hw
    simp only [hw] at h
    exact ⟨h.1, keep a hy _, by rw [← Act.put_comm a v undef h2]; exact h.2⟩

/-- One operation after the other, S behind each, then any order. -/
def FJ (r : Nat) (P : Program) (md : Region.Mode) (ops : Array Oper) (Q : Exit → Act → World → Prop) (S : World → Prop) (g : Nat) : List Nat → Array Bool → Act → World → Prop
  | [], x, a, w => wpAnyIn En r P md ops Q g x a w
  | j :: J, x, a, w => wpOpIn En r P ops Q j (fun a' w' => S w' ∧ FJ r P md ops Q S g J (x.setIfInBounds j true) a' w') a w
/-- With number i listed nothing but J's operations can come up, one by one; the last of them waits for i. -/
def forcedB (md : Region.Mode) (ops : Array Oper) (i : Nat) : List Nat → Array Bool → Bool
  | [], _ => false
  | j :: J, x => decide (Region.ready md ops (x.setIfInBounds i true) = [j]) && decide (j ≠ i) && (match J with | [] => Region.waitsFor md ops j i | _ :: _ => forcedB md ops i J (x.setIfInBounds j true))

theorem anyIn_of_FJ {i g : Nat} : ∀ (J : List Nat) (x : Array Bool) (a : Act) (w : World), forcedB md ops i J x = true → FJ r P md ops Q S g J (x.setIfInBounds i true) a w → wpAnyIn En r P md ops Q (J.length + g) (x.setIfInBounds i true) a w := by
  intro J
  induction J with
  | nil => intro x a w hB _; simp [forcedB] at hB
  | cons j J ih =>
    intro x a w hB h
    simp only [forcedB, Bool.and_eq_true, decide_eq_true_eq] at hB
    obtain ⟨⟨hr, hji⟩, hJ⟩ := hB
    rw [show (j :: J).length + g = J.length + g + 1 by simp only [List.length_cons]; omega]
    refine ⟨fun e => (by rw [hr] at e; cases e), fun k hk => ?_⟩
    obtain rfl : k = j := by rw [hr] at hk; simpa using hk
    refine wpOpIn_mono (fun a' w' h' => ?_) h
    have h2 := h'.2
    rw [Array.setIfInBounds_comm _ _ (Ne.symm hji)] at h2 ⊢
    cases J with
    | nil => simpa [FJ] using h2
    | cons j2 J => exact ih _ a' w' hJ h2

theorem take_any {i g : Nat} {oi : Oper} {v : Value} (hi : ops[i]? = some oi) (hsel : ∀ (j : Nat) (o : Oper) cs b, ops[j]? = some o → o.op ≠ .select cs b) (hQ : ∀ c a w, ¬ Q (.panic c) a w) :
    ∀ (J : List Nat) (x : Array Bool) (a : Act) (w : World), forcedB md ops i J x = true →
      (∀ j oj, ops[j]? = some oj → j ≠ i → x.getD j true = false → (∀ e ∈ oj.after, Region.binds md e = true → e.on ≠ i) → oi.apart ops oj = true) →
      i ∈ Region.ready md ops x → YieldsS P ops S oi v a → S w →
      FJ r P md ops Q S g J (x.setIfInBounds i true) (a.put oi.dst v) w → wpAnyIn En r P md ops Q (J.length + g + 1) x a w := by
  intro J
  induction J with
  | nil => intro x a w hB; simp [forcedB] at hB
  | cons j J ih =>
    intro x a w hB hfree hri hy hS H
    refine ⟨fun e => (by rw [e] at hri; cases hri), fun k hk => ?_⟩
    by_cases hki : k = i
    · subst hki; exact hy.op hi hS (anyIn_of_FJ _ _ _ _ hB H)
    · simp only [forcedB, Bool.and_eq_true, decide_eq_true_eq] at hB
      obtain ⟨⟨hr, hji⟩, hJ⟩ := hB
      obtain rfl : k = j := by have := ready_mono hk hki; rw [hr] at this; simpa using this
      obtain ⟨hjun, oj, hoj, hall⟩ := mem_ready.1 hk
      have hnot : ∀ e ∈ oj.after, Region.binds md e = true → e.on ≠ i := fun e he hb heq => by
        have h1 := hall e he hb
        have h0 := (mem_ready.1 hri).1
        rw [heq] at h1
        rw [getD_both h0] at h1
        cases h1
      have h2 := opIn_putS hoj (hfree k oj hoj hki hjun hnot) (fun cs b => hsel i oi cs b hi) (fun cs b => hsel k oj cs b hoj) hQ hy H
      cases J with
      | nil =>
        obtain ⟨o2, ho2, e, he, hb, hon⟩ := Region.waitsFor_spec hJ
        have : o2 = oj := Option.some.inj (ho2.symm.trans hoj)
        subst this
        exact absurd hon (hnot e he hb)
      | cons j2 J =>
        have hfree' : ∀ q oq, ops[q]? = some oq → q ≠ i → (x.setIfInBounds k true).getD q true = false →
            (∀ e ∈ oq.after, Region.binds md e = true → e.on ≠ i) → oi.apart ops oq = true := fun q oq hq hqi hun hno => by
          refine hfree q oq hq hqi ?_ hno
          by_cases hjq : k = q
          · subst hjq; exact hjun
          · rw [getD_set_ne true hjq] at hun; exact hun
        rw [show (k :: j2 :: J).length + g = (j2 :: J).length + g + 1 by simp only [List.length_cons]; omega]
        refine wpOpIn_mono (fun a' w' h3 => ih (x.setIfInBounds k true) a' w' hJ hfree' (ready_mono hri (Ne.symm hki)) h3.1 h3.2.1 ?_) h2
        rw [Array.setIfInBounds_comm _ _ hki]
        exact h3.2.2

/-! ### The head, with any tail behind it -/
def headB (md : Region.Mode) (ops : Array Oper) (X : Array Bool → Bool) : Nat → Nat → Array Bool → Bool
  | 0, _, x => X x
  | f + 1, k, x => (Region.ready md ops x).contains k && Region.free md ops x k && headB md ops X f (k + 1) (x.setIfInBounds k true)
/-- Number s waits for all before it, and all behind it wait for it. -/
def sinkP (md : Region.Mode) (ops : Array Oper) (m s : Nat) : Bool :=
  Region.sinkB md ops s && ((List.range ops.size).all fun t => decide (t ≤ s) || (List.range t).any fun j => decide (s ≤ j) && Region.waitsFor md ops t j) && (decide (s = m) || decide (s + 1 = m))

theorem sink_up {s : Nat} {x : Array Bool} (hs : Region.sinkB md ops s = true) (hcl : ∀ j oj, ops[j]? = some oj → x.getD j false = true → ∀ e ∈ oj.after, Region.binds md e = true → x.getD e.on false = true) :
    ∀ (d i : Nat), s - i = d → i ≤ s → x.getD i false = false → x.getD s false = false := by
  intro d
  induction d using Nat.strongRecOn with
  | _ d ih =>
    intro i hd hi hun
    by_cases his : i = s
    · subst his; exact hun
    · have h1 := List.all_eq_true.1 hs i (List.mem_range.2 (by omega))
      obtain ⟨j, hj, hj2⟩ := List.any_eq_true.1 h1
      simp only [Bool.and_eq_true, decide_eq_true_eq] at hj2
      obtain ⟨oj, hoj, e, he, hb, hon⟩ := Region.waitsFor_spec hj2.2
      have hjle : j ≤ s := by have := List.mem_range.1 hj; omega
      cases hl : x.getD j false with
      | true =>
        have h2 := hcl j oj hoj hl e he hb
        rw [hon, hun] at h2
        cases h2
      | false => exact ih (s - j) (by omega) j rfl hjle hl
theorem tail_up {s : Nat} {x : Array Bool} (hc : ((List.range ops.size).all fun t => decide (t ≤ s) || (List.range t).any fun j => decide (s ≤ j) && Region.waitsFor md ops t j) = true)
    (hcl : ∀ j oj, ops[j]? = some oj → x.getD j false = true → ∀ e ∈ oj.after, Region.binds md e = true → x.getD e.on false = true) (hun : x.getD s false = false) :
    ∀ (d t : Nat), t - s = d → s ≤ t → t < ops.size → x.getD t false = false := by
  intro d
  induction d using Nat.strongRecOn with
  | _ d ih =>
    intro t hd ht hlt
    by_cases hts : t = s
    · subst hts; exact hun
    · have h1 := List.all_eq_true.1 hc t (List.mem_range.2 hlt)
      simp only [Bool.or_eq_true, decide_eq_true_eq] at h1
      rcases h1 with h1 | h1
      · omega
      · obtain ⟨j, hj, hj2⟩ := List.any_eq_true.1 h1
        simp only [Bool.and_eq_true, decide_eq_true_eq] at hj2
        obtain ⟨ot, hot, e, he, hb, hon⟩ := Region.waitsFor_spec hj2.2
        have hjt := List.mem_range.1 hj
        cases hl : x.getD t false with
        | false => rfl
        | true =>
          have h2 := hcl t ot hot hl e he hb
          rw [hon, ih (j - s) (by omega) j rfl hj2.1 (by omega)] at h2
          cases h2
theorem waitsP {m s : Nat} {x : Array Bool} (hs : sinkP md ops m s = true) (inv : HeadInv md ops m x) (i : Nat) (hi : i < m) (hun : x.getD i true = false) : ∀ t, m ≤ t → t ∉ Region.ready md ops x := by
  intro t ht hr
  simp only [sinkP, Bool.and_eq_true, Bool.or_eq_true, decide_eq_true_eq] at hs
  obtain ⟨⟨hs, hc⟩, hsm⟩ := hs
  have hss : x.getD s false = false := sink_up hs inv.closed _ i rfl (by omega) (getD_both hun)
  obtain ⟨_, ot, hot, hall⟩ := mem_ready.1 hr
  have hlt : t < ops.size := (Array.getElem?_eq_some_iff.1 hot).1
  by_cases hts : t = s
  · subst hts
    have h1 := List.all_eq_true.1 hs i (List.mem_range.2 (by omega))
    obtain ⟨j, hj, hj2⟩ := List.any_eq_true.1 h1
    simp only [Bool.and_eq_true, decide_eq_true_eq] at hj2
    have aux : ∀ (d i : Nat), t - i = d → i < t → x.getD i false = false → False := by
      intro d
      induction d using Nat.strongRecOn with
      | _ d ih =>
        intro i hd hi hun
        have h1 := List.all_eq_true.1 hs i (List.mem_range.2 hi)
        obtain ⟨j, hj, hj2⟩ := List.any_eq_true.1 h1
        simp only [Bool.and_eq_true, decide_eq_true_eq] at hj2
        obtain ⟨oj, hoj, e, he, hb, hon⟩ := Region.waitsFor_spec hj2.2
        have hjle : j ≤ t := by have := List.mem_range.1 hj; omega
        by_cases hjt : j = t
        · subst hjt
          have : oj = ot := Option.some.inj (hoj.symm.trans hot)
          subst this
          have h2 := hall e he hb
          rw [hon, hun] at h2
          cases h2
        · cases hl : x.getD j false with
          | true =>
            have h2 := inv.closed j oj hoj hl e he hb
            rw [hon, hun] at h2
            cases h2
          | false => exact ih (t - j) (by omega) j rfl (by omega) hl
    exact aux _ i rfl (by omega) (getD_both hun)
  · have h1 := List.all_eq_true.1 hc t (List.mem_range.2 hlt)
    simp only [Bool.or_eq_true, decide_eq_true_eq] at h1
    rcases h1 with h1 | h1
    · omega
    · obtain ⟨j, hj, hj2⟩ := List.any_eq_true.1 h1
      simp only [Bool.and_eq_true, decide_eq_true_eq] at hj2
      obtain ⟨o', ho', e, he, hb, hon⟩ := Region.waitsFor_spec hj2.2
      have : o' = ot := Option.some.inj (ho'.symm.trans hot)
      subst this
      have h2 := hall e he hb
      have hjt := List.mem_range.1 hj
      rw [hon, tail_up hc inv.closed hss _ j rfl hj2.1 (by omega)] at h2
      cases h2

variable {C : World → Prop} {m s : Nat}
theorem heads_takeP {i : Nat} {o : Oper} {v : Value} {X : Array Bool → Act → Prop} (ho : ops[i]? = some o) (hsel : ∀ (j : Nat) (o : Oper) cs b, ops[j]? = some o → o.op ≠ .select cs b)
    (hs : sinkP md ops m s = true) (him : i < m) (hE : ∀ l a, X l a → ∀ j ∈ Region.ready md ops l, m ≤ j) (f : Nat) :
    ∀ (l : Array Bool) (a : Act), HeadInv md ops m l → i ∈ Region.ready md ops l → YieldsIn P ops C o v a →
      (∀ k ok, ops[k]? = some ok → k ≠ i → l.getD k true = false → (∀ e ∈ ok.after, Region.binds md e = true → e.on ≠ i) → o.apart ops ok = true) →
      Heads P md ops C m X f (l.setIfInBounds i true) (a.put o.dst v) → Heads P md ops C m X (f + 1) l a := by
  induction f with
  | zero =>
    intro l a inv hi hy _ h
    refine ⟨fun e => (by rw [e] at hi; cases hi), fun j hj => ?_⟩
    have hjm : j < m := Nat.lt_of_not_le fun hle => waitsP hs inv i him (mem_ready.1 hi).1 j hle hj
    by_cases e : j = i
    · subst e; exact ⟨hjm, hy.qOp ho h⟩
    · exact absurd (hE _ _ h j (ready_mono hj e)) (by omega)
  | succ f ih =>
    intro l a inv hi hy hap h
    refine ⟨fun e => (by rw [e] at hi; cases hi), fun j hj => ?_⟩
    have hjm : j < m := Nat.lt_of_not_le fun hle => waitsP hs inv i him (mem_ready.1 hi).1 j hle hj
    by_cases e : j = i
    · subst e; exact ⟨hjm, hy.qOp ho h⟩
    · refine ⟨hjm, ?_⟩
      obtain ⟨hju, oj, hoj, hall⟩ := mem_ready.1 hj
      have hni : ∀ e ∈ oj.after, Region.binds md e = true → e.on ≠ i := by
        intro x hx hb hxi
        have := hall x hx hb
        rw [hxi, getD_both (mem_ready.1 hi).1] at this
        cases this
      have hq := qOp_put hoj (hap j oj hoj e hju hni) (fun cs b => hsel i o cs b ho) (fun cs b => hsel j oj cs b hoj) hy (h.2 j (ready_mono hj e)).2
      refine qOp_mono (fun a' ha' => ?_) hq
      refine ih (l.setIfInBounds j true) a' (inv.set hj hjm) (ready_mono hi (Ne.symm e)) ha'.1 ?_ ?_
      · intro k ok hk hki hu hno
        refine hap k ok hk hki ?_ hno
        by_cases hjk : j = k
        · subst hjk; exact hju
        · rwa [getD_set_ne true hjk] at hu
      · rw [Array.setIfInBounds_comm _ _ e]
        exact ha'.2

theorem heads_lexP {T : Array Bool → Bool} {K : Act → Prop} (hsel : Region.noSelect ops = true) (hs : sinkP md ops m s = true) (hT : ∀ x, T x = true → ∀ j ∈ Region.ready md ops x, m ≤ j) :
    ∀ (l : List Oper) (k : Nat) (x : Array Bool) (a : Act), (∀ j, j < l.length → l[j]? = ops[k + j]?) → k + l.length = m → HeadInv md ops m x →
    headB md ops T l.length k x = true → wpQuiet P ops C K l a → Heads P md ops C m (fun y b => T y = true ∧ K b) l.length x a := by
  intro l
  induction l with
  | nil =>
    intro k x a _ hk _ hB h
    exact ⟨by simpa [headB] using hB, h⟩
  | cons o l ih =>
    intro k x a hl hk inv hB h
    have ho : ops[k]? = some o := by have := hl 0 (by simp); simpa using this.symm
    simp only [List.length_cons] at hk
    simp only [List.length_cons, headB, Bool.and_eq_true] at hB
    have hr : k ∈ Region.ready md ops x := by simpa using hB.1.1
    have hq : qOp P ops C k (wpQuiet P ops C K l) a := by
      unfold qOp
      rw [ho]
      exact h
    obtain ⟨v, hy, hK⟩ := yieldsIn_of_qOp ho hq
    refine heads_takeP ho (Region.noSelect_spec hsel) hs (by omega) (fun y b hb => hT y hb.1) l.length x a inv hr hy (Region.free_spec ho hB.1.2) ?_
    refine ih (k + 1) _ _ (fun j hj => ?_) (by omega) (inv.set hr (by omega)) hB.2 hK
    have := hl (j + 1) (by simp; omega)
    rw [Nat.add_assoc, Nat.add_comm 1 j]
    simpa using this

def nth : List Oper → Nat → List Oper
  | [], _ => []
  | o :: _, 0 => [o]
  | _ :: l, i + 1 => nth l i
theorem nth_eq : ∀ (l : List Oper) (i : Nat), nth l i = (l[i]?).toList
  | [], _ => by simp [nth]
  | o :: _, 0 => by simp [nth]
  | _ :: l, i + 1 => by simp [nth, nth_eq l i]
end act

section fr
variable {P : Program} {n : Nat} {C S : World → Prop} {F : Fr} {ds : List Deferred} {w : World}
/-- No call: these are pure, or halt. -/
def calm : Op → Bool
  | .move _ | .load _ _ | .binOp _ _ _ _ _ | .unOp _ _ _ | .convert _ _ _ | .fieldAddr _ _ _ | .field _ _ _ | .indexAddr _ _ _ | .index _ _ _ | .extract _ _ | .slice _ _ _ _ _ => true
  | _ => false
/-- The operations of these numbers are listed. -/
def lst (n : Nat) (L : List Nat) : Array Bool := L.foldr (fun i x => x.setIfInBounds i true) (Array.replicate n false)
/-- The region's rest: L is listed, g operations are left. -/
def Rn (P : Program) (n : Nat) (l : List Oper) (Q : Post) (g : Nat) (L : List Nat) (F : Fr) (ds : List Deferred) (w : World) : Prop :=
  ∀ r a, Fits n F ds a → wpAnyIn En r P .any l.toArray (lift n Q) g (lst l.length L) a w
def rnQ (Q : Post) (R : Fr → List Deferred → World → Prop) : Post
  | .normal, F, ds, w => R F ds w
  | e, F, ds, w => Q e F ds w
theorem rnQ_n {Q : Post} {R : Fr → List Deferred → World → Prop} (h : R F ds w) : rnQ Q R .normal F ds w := h
/-- Behind a free operation that was taken first: J's operations, one by one, S behind each. -/
def Tk (P : Program) (n : Nat) (l : List Oper) (S : World → Prop) (Q : Post) (R : Fr → List Deferred → World → Prop) : List Nat → Fr → List Deferred → World → Prop
  | [], F, ds, w => R F ds w
  | j :: J, F, ds, w => Lst P none n l.toArray (rnQ Q (fun G ds' w' => S w' ∧ Tk P n l S Q R J G ds' w')) (nth l j) F ds w
theorem Tk_s {l : List Oper} {Q : Post} {R : Fr → List Deferred → World → Prop} {j : Nat} {J : List Nat} (h : Lst P none n l.toArray (rnQ Q (fun G ds' w' => S w' ∧ Tk P n l S Q R J G ds' w')) (nth l j) F ds w) : Tk P n l S Q R (j :: J) F ds w := h
theorem Tk_n {l : List Oper} {Q : Post} {R : Fr → List Deferred → World → Prop} (h : R F ds w) : Tk P n l S Q R [] F ds w := h
theorem rnQ_k {l : List Oper} {Q : Post} {R : Fr → List Deferred → World → Prop} {J : List Nat} (hS : S w) (h : Tk P n l S Q R J F ds w) : rnQ Q (fun G ds' w' => S w' ∧ Tk P n l S Q R J G ds' w') .normal F ds w := ⟨hS, h⟩

theorem run_value {s : Sem Value} {x : Next} {w' : World} (h : (do pure (.value (← s)) : Sem Next).run P w = .ok x w') : ∃ u, x = .value u := by
  rw [Sem.run_bind] at h
  cases hs : s.run P w with
  | ok v w2 => rw [hs] at h; cases h; exact ⟨_, rfl⟩
  | halt v w2 => rw [hs] at h; cases h
theorem calm_value {o : Oper} {a : Act} {v : Value} (hc : calm o.op = true) (h : o.quietAt P a C w v) : (execOp a.eval o).run P w = .ok (.value v) w := by
  unfold Oper.quietAt at h
  have key : ∀ x w', (execOp a.eval o).run P w = .ok x w' → ∃ u, x = .value u := by
    intro x w' hx
    unfold execOp at hx
    split at hx <;> simp only [*, calm, Bool.false_eq_true] at hc
    all_goals first
      | exact run_value hx
      | (simp only [Sem.run_pure] at hx; cases hx; exact ⟨_, rfl⟩)
  cases hz : (execOp a.eval o).run P w with
  | halt x w' => rw [hz] at h; exact h.elim
  | ok x w' =>
    obtain ⟨u, rfl⟩ := key x w' hz
    rw [hz] at h
    simp only [Oper.quietUpon] at h
    rw [h.1, h.2]

theorem wpIn_post {F : Fence} {r : Nat} {o : Oper} {a : Act} {w : World} {K K' : Act → World → Prop} {Q Q' : Exit → Act → World → Prop} (hK : ∀ a w, K a w → K' a w) (hQ : ∀ e, e ≠ .normal → ∀ a w, Q e a w → Q' e a w)
    (hh : o.wpIn F r P a w K Q) : o.wpIn F r P a w K' Q' := by
  unfold Oper.wpIn at *
  refine ⟨hh.1, ?_⟩
  have hh := hh.2
  have hl : LetsOut Q → LetsOut Q' := fun ⟨a, w, h⟩ => ⟨a, w, hQ _ (by simp) _ _ h⟩
  generalize (o.semAt F.round a.eval).run P w = z at *
  cases z with
  | ok x w' =>
    cases x <;> simp only [Oper.uponIn] at hh ⊢ <;>
      first
        | exact hK _ _ hh
        | exact ⟨hh.1, CallsIn.mono hh.2 (fun e w'' he => by cases e <;> first | exact hK _ _ he | exact hQ _ (by simp) _ _ he | exact hl he)⟩
        | exact ⟨hh.1, RowsIn.mono hh.2 (fun _ _ he => hK _ _ he)⟩
        | exact ⟨hh.1, RoundIn.mono hh.2 (fun e w'' he => by cases e <;> first | exact hK _ _ he | exact hQ _ (by simp) _ _ he | exact hl he)⟩
  | halt x w' => cases x <;> simp only [Oper.uponIn] at hh ⊢ <;> first | exact hQ _ (by simp) _ _ hh | exact hh

theorem nth_some {l : List Oper} {i : Nat} {o : Oper} (h : l.toArray[i]? = some o) : nth l i = [o] := by
  have : l[i]? = some o := by simpa using h
  rw [nth_eq, this, Option.toList_some]
theorem op_of_lst {l : List Oper} {Q : Post} {R : Fr → List Deferred → World → Prop} {i r : Nat} {o : Oper} {K : Act → World → Prop} {a : Act} (ho : l.toArray[i]? = some o) (hK : ∀ a w, lift n (rnQ Q R) .normal a w → K a w)
    (h : Lst P none n l.toArray (rnQ Q R) (nth l i) F ds w) (hf : Fits n F ds a) : wpOpIn En r P l.toArray (lift n Q) i K a w := by
  rw [nth_some ho] at h
  have h2 := h r a hf
  have post : ∀ e, e ≠ .normal → ∀ a w, lift n (rnQ Q R) e a w → lift n Q e a w := by
    rintro e he a w ⟨G, ds', hG, h⟩
    refine ⟨G, ds', hG, ?_⟩
    cases e <;> first | exact absurd rfl he | exact h
  unfold wpOpIn
  simp only [ho]
  unfold wpListIn at h2
  split
  · rename_i hw
    rw [if_pos hw] at h2
    exact wpIn_post hK post h2
  · rename_i hw
    rw [if_neg hw] at h2
    exact ⟨h2.1, hK _ _ h2.2⟩

/-- The only operation that can come up. -/
theorem R_force {l : List Oper} {Q : Post} {g : Nat} {L : List Nat} (i : Nat) (hB : decide (Region.ready .any l.toArray (lst l.length L) = [i]) = true) (h : Lst P none n l.toArray (rnQ Q (Rn P n l Q g (i :: L))) (nth l i) F ds w) : Rn P n l Q (g + 1) L F ds w := fun r a hf => by
  have hr : Region.ready .any l.toArray (lst l.length L) = [i] := by simpa using hB
  refine ⟨fun e => (by rw [hr] at e; cases e), fun j hj => ?_⟩
  obtain rfl : j = i := by rw [hr] at hj; simpa using hj
  obtain ⟨_, o, ho, _⟩ := mem_ready.1 hj
  refine op_of_lst ho ?_ h hf
  rintro a w ⟨G, ds', hG, hR⟩
  exact hR r a hG

/-- A free operation, taken first; then those that are forced until one waits for it. -/
theorem R_take {l : List Oper} {Q : Post} {g : Nat} {L : List Nat} (i : Nat) (J : List Nat) (S : World → Prop) (hB : (Region.noSelect l.toArray && (Region.ready .any l.toArray (lst l.length L)).contains i && Region.free .any l.toArray (lst l.length L) i && forcedB .any l.toArray i J (lst l.length L) && (nth l i).all (fun o => calm o.op)) = true)
    (hQ : ∀ c F ds w, ¬ Q (.panic c) F ds w) (hS : S w) (h : Qst P n l.toArray S (fun G => Tk P n l S Q (Rn P n l Q g (J.reverse ++ i :: L)) J G ds w) (nth l i) F ds) : Rn P n l Q (J.length + g + 1) L F ds w := fun r a hf => by
  have hQ' : ∀ c a w, ¬ lift n Q (.panic c) a w := fun c a w ⟨F, ds, _, h⟩ => hQ c F ds w h
  simp only [Bool.and_eq_true] at hB
  obtain ⟨⟨⟨⟨hsel, hr⟩, hfree⟩, hforced⟩, hc⟩ := hB
  have hr : i ∈ Region.ready .any l.toArray (lst l.length L) := by simpa using hr
  obtain ⟨_, o, ho, _⟩ := mem_ready.1 hr
  rw [nth_some ho] at hc h
  simp only [List.all_cons, List.all_nil, Bool.and_true] at hc
  have h := h a hf
  have : ∃ v, YieldsS P l.toArray S o v a ∧ ∃ G, Fits n G ds (a.put o.dst v) ∧ Tk P n l S Q (Rn P n l Q g (J.reverse ++ i :: L)) J G ds w := by
    unfold wpQuiet at h
    by_cases hw : Region.wanted o (yielded l.toArray a.tmps) = true
    · rw [if_pos hw] at h
      obtain ⟨v, h1, G, hG, h2⟩ := h
      exact ⟨v, .inl ⟨hw, fun w' hw' => calm_value hc (h1 w' hw')⟩, G, hG, h2⟩
    · rw [if_neg hw] at h
      obtain ⟨G, hG, h2⟩ := h
      exact ⟨undef, .inr ⟨by simpa using hw, rfl⟩, G, hG, h2⟩
  obtain ⟨v, hy, G, hG, hT⟩ := this
  refine take_any ho (Region.noSelect_spec hsel) hQ' J _ a w hforced (Region.free_spec ho hfree) hr hy hS ?_
  have key : ∀ (J : List Nat) (L' : List Nat) (x : Array Bool), (∀ q ∈ J, ∃ o, l.toArray[q]? = some o) → ∀ (G : Fr) (ds : List Deferred) (a : Act) (w : World), Fits n G ds a → Tk P n l S Q (Rn P n l Q g (J.reverse ++ L')) J G ds w → x = lst l.length L' → FJ r P .any l.toArray (lift n Q) S g J x a w := by
    intro J
    induction J with
    | nil => rintro L' x _ G ds a w hG hT rfl; exact hT r a hG
    | cons j J ih =>
      rintro L' x hJ G ds a w hG hT rfl
      obtain ⟨oj, hoj⟩ := hJ j (by simp)
      refine op_of_lst hoj ?_ hT hG
      rintro a w ⟨G', ds', hG', hS', hT'⟩
      refine ⟨hS', ih (j :: L') _ (fun q hq => hJ q (by simp [hq])) G' ds' a w hG' ?_ rfl⟩
      simpa using hT'
  refine key J (i :: L) _ ?_ G ds _ w hG hT rfl
  have aux : ∀ (J : List Nat) (x : Array Bool), forcedB .any l.toArray i J x = true → ∀ q ∈ J, ∃ o, l.toArray[q]? = some o := by
    intro J
    induction J with
    | nil => intro x _ q hq; cases hq
    | cons j J ih =>
      intro x hB q hq
      simp only [forcedB, Bool.and_eq_true, decide_eq_true_eq] at hB
      rcases List.mem_cons.1 hq with rfl | hq
      · have : q ∈ Region.ready .any l.toArray (x.setIfInBounds i true) := by rw [hB.1.1]; simp
        obtain ⟨_, o, ho, _⟩ := mem_ready.1 this
        exact ⟨o, ho⟩
      · cases J with
        | nil => cases hq
        | cons j2 J => exact ih _ hB.2 q hq
  exact aux J _ hforced

/-- From number k on all are quiet, to the end. -/
theorem R_quiet {l : List Oper} {Q : Post} {g : Nat} {L : List Nat} (k : Nat) (C : World → Prop) (hB : (Region.noSelect l.toArray && headB .any l.toArray (fun x => (Region.ready .any l.toArray x).isEmpty) (l.length - k) k (lst l.length L) && decide (g = l.length - k)) = true) (hC : C w)
    (h : Qst P n l.toArray C (fun G => ∀ w', C w' → Q .normal G ds w') (l.drop k) F ds) : Rn P n l Q g L F ds w := fun r a hf => by
  simp only [Bool.and_eq_true, decide_eq_true_eq] at hB
  obtain ⟨⟨hsel, hB⟩, rfl⟩ := hB
  have h := h a hf
  have key : ∀ (q : List Oper) (k : Nat) (x : Array Bool) (a : Act), (∀ j, q[j]? = l.toArray[k + j]?) → headB .any l.toArray (fun x => (Region.ready .any l.toArray x).isEmpty) q.length k x = true →
      wpQuiet P l.toArray C (fun a' => ∃ G, Fits n G ds a' ∧ ∀ w', C w' → Q .normal G ds w') q a → wpAnyQ P .any l.toArray C (fun a' => ∀ w', C w' → lift n Q .normal a' w') q.length x a := by
    intro q
    induction q with
    | nil => rintro k x a _ hB ⟨G, hG, h⟩; exact ⟨by simpa [headB] using hB, fun w' hw' => ⟨G, ds, hG, h w' hw'⟩⟩
    | cons o q ih =>
      intro k x a hq hB h
      have ho : l.toArray[k]? = some o := by simpa using (hq 0).symm
      simp only [List.length_cons, headB, Bool.and_eq_true] at hB
      have hr : k ∈ Region.ready .any l.toArray x := by simpa using hB.1.1
      have hq' : qOp P l.toArray C k (wpQuiet P l.toArray C (fun a' => ∃ G, Fits n G ds a' ∧ ∀ w', C w' → Q .normal G ds w') q) a := by
        unfold qOp
        rw [ho]
        exact h
      obtain ⟨v, hy, hK⟩ := yieldsIn_of_qOp ho hq'
      refine wpAnyQ_first ho (Region.noSelect_spec hsel) q.length x a (Region.free_spec ho hB.1.2) hr hy ?_
      refine ih (k + 1) _ _ (fun j => ?_) hB.2 hK
      have := hq (j + 1)
      rw [Nat.add_assoc, Nat.add_comm 1 j]
      simpa using this
  have hd : (l.drop k).length = l.length - k := by simp
  have := anyIn_of_quiet (rd := none) (r := r) (Q := lift n Q) (X := fun a' => ∀ w', C w' → lift n Q .normal a' w') (fun a w hw h => h w hw) _ _ _ w hC (key (l.drop k) k _ a (fun j => by simp [List.getElem?_drop]) (by rw [hd]; exact hB) h)
  rwa [hd] at this

def beginB (ops : Array Oper) (m s : Nat) : Bool :=
  Region.noSelect ops && decide (m < ops.size) && sinkP .any ops m s &&
    headB .any ops (fun x => (Region.ready .any ops x).all (fun j => decide (m ≤ j)) && decide (x = lst ops.size (List.range m).reverse)) m 0 (Array.replicate ops.size false)

/-- A drawn region: a head of m operations, quiet in a class of worlds (number s is its last one, or the one behind it), then the rest. -/
theorem W_drawP {id : Nat} {l : List Oper} {Q : Post} (m s : Nat) (C : World → Prop) (hm : P.follows .mixedOrders = true) (hB : beginB l.toArray m s = true) (hC : C w.drew)
    (h : Qst P n l.toArray C (fun G => ∀ w', C w' → Rn P n l Q (l.length - m) (List.range m).reverse G ds w') (l.take m) F ds) : W P none n (.region id l.toArray true) Q F ds w := fun r a hf => by
  simp only [beginB, Bool.and_eq_true, decide_eq_true_eq] at hB
  obtain ⟨⟨⟨hsel, hlt⟩, hs⟩, hlex⟩ := hB
  have hlen : (l.take m).length = m := by simp at hlt ⊢; omega
  have inv : HeadInv .any l.toArray m (Array.replicate l.toArray.size false) :=
    ⟨by simp, (fun j oj _ hl => by rw [getD_replicate_false] at hl; cases hl), fun t _ ht => getD_in (by simpa using ht) (getD_replicate_false _ _)⟩
  have H := heads_lexP (md := .any) (T := fun x => (Region.ready .any l.toArray x).all (fun j => decide (m ≤ j)) && decide (x = lst l.toArray.size (List.range m).reverse)) hsel hs
    (fun x hx j hj => by simp only [Bool.and_eq_true, List.all_eq_true, decide_eq_true_eq] at hx; exact hx.1 j hj)
    (l.take m) 0 _ a (fun j hj => by rw [hlen] at hj; simp [hj]) (by simpa using hlen) inv (by rw [hlen]; exact hlex) (h a hf)
  refine wpIn_region_any hm ?_
  have := heads_any (rd := none) (r := r) (Q := lift n Q) (g := l.length - m) (fun y b w' hw' hb => by
    obtain ⟨hT, G, hG, hK⟩ := hb
    simp only [Bool.and_eq_true, decide_eq_true_eq] at hT
    rw [hT.2]
    exact hK w' hw' r b hG) _ _ _ _ hC H
  have e : m + (l.length - m) = l.toArray.size := by simp at hlt ⊢; omega
  rw [hlen, e] at this
  exact this
theorem seqQ_p {rd : Option Nat} {y : Code} {Q : Post} (h : ∀ c F ds w, ¬ Q (.panic c) F ds w) : ∀ c F ds w, ¬ seqQ P rd n y Q (.panic c) F ds w := h
theorem blkQ_p {id : Nat} {Q : Post} (h : ∀ c F ds w, ¬ Q (.panic c) F ds w) : ∀ c F ds w, ¬ blkQ id Q (.panic c) F ds w := h
theorem retQ_p {rs : List ResultVar} {R : Value → World → Prop} : ∀ c F ds w, ¬ retQ P rs R (.panic c) F ds w := fun _ _ _ _ h => h
end fr
end Sx
end Go.Proofs.Ytoljcnlmockpcaa
