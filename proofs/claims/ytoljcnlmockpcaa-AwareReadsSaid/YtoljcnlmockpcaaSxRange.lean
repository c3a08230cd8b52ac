/- Rules of our calculus for a range over a function: the contract of an iterator that hands over element k at its k-th call of yield, the loop's rule, and the rule of a function whose activation holds such a loop. Over any program. -/
import Derived.Test.YtoljcnlmockpcaaSxDraw
import Derived.RangeFuncNested
import Derived.RangeFuncBound
import Derived.RangeFuncCalls
import Derived.RangeFuncLeaves
namespace Go.Proofs.Ytoljcnlmockpcaa
namespace Sx
open Go Go.RowKit

/-- From A to A' nothing has turned but blocks from B on that hold no cells; new blocks may have come. -/
structure Calm (B : Nat) (A A' : World) : Prop where
  os : A'.os = A.os
  tape : A'.tape = A.tape
  output : A'.output = A.output
  size : A.heap.size ≤ A'.heap.size
  same : ∀ r o, A.heap[r]? = some o → (r < B ∨ o.isCells = true) → A'.heap[r]? = some o
/-- Likewise, and only walks' objects (maps, iterators) from B on may have turned. -/
structure CalmW (B : Nat) (A A' : World) : Prop where
  os : A'.os = A.os
  tape : A'.tape = A.tape
  output : A'.output = A.output
  size : A.heap.size ≤ A'.heap.size
  same : ∀ r o, A.heap[r]? = some o → (r < B ∨ o.isWalk = false) → A'.heap[r]? = some o
theorem CalmW.calm {B B' : Nat} {A A' : World} (h : CalmW B A A') (hb : B' ≤ B) : Calm B' A A' :=
  ⟨h.os, h.tape, h.output, h.size, fun r o ho hr => h.same r o ho (by
    rcases hr with hr | hr
    · exact .inl (by omega)
    · right; cases o <;> simp_all [Obj.isCells, Obj.isWalk])⟩
theorem Calm.refl (B : Nat) (A : World) : Calm B A A := ⟨rfl, rfl, rfl, Nat.le_refl _, fun _ _ h _ => h⟩
theorem CalmW.refl (B : Nat) (A : World) : CalmW B A A := ⟨rfl, rfl, rfl, Nat.le_refl _, fun _ _ h _ => h⟩
theorem Calm.trans {B : Nat} {X Y Z : World} (h : Calm B X Y) (k : Calm B Y Z) : Calm B X Z :=
  ⟨k.os.trans h.os, k.tape.trans h.tape, k.output.trans h.output, Nat.le_trans h.size k.size, fun r o ho hr => k.same r o (h.same r o ho hr) hr⟩
theorem CalmW.trans {B : Nat} {X Y Z : World} (h : CalmW B X Y) (k : CalmW B Y Z) : CalmW B X Z :=
  ⟨k.os.trans h.os, k.tape.trans h.tape, k.output.trans h.output, Nat.le_trans h.size k.size, fun r o ho hr => k.same r o (h.same r o ho hr) hr⟩
theorem lt_of_some {A : World} {r : Nat} {o : Obj} (h : A.heap[r]? = some o) : r < A.heap.size := (Array.getElem?_eq_some_iff.1 h).1
theorem Calm.alloc (B : Nat) (A : World) (o : Obj) : Calm B A (A.alloc o) :=
  ⟨rfl, rfl, rfl, by simp, fun r o' ho _ => (Below.heap_alloc A o r (lt_of_some ho)).trans ho⟩
theorem CalmW.alloc (B : Nat) (A : World) (o : Obj) : CalmW B A (A.alloc o) :=
  ⟨rfl, rfl, rfl, by simp, fun r o' ho _ => (Below.heap_alloc A o r (lt_of_some ho)).trans ho⟩
theorem Calm.put {B l : Nat} {A : World} {o : Obj} (o' : Obj) (hl : A.heap[l]? = some o) (hB : B ≤ l) (hc : o.isCells = false) : Calm B A (A.putObj l o') :=
  ⟨rfl, rfl, rfl, by simp, fun r x hx hr => by
    by_cases e : r = l
    · subst e
      rw [hl] at hx
      cases hx
      rcases hr with hr | hr
      · omega
      · rw [hc] at hr; cases hr
    · exact (World.putObj_heap_other e).trans hx⟩
theorem CalmW.put {B l : Nat} {A : World} {o : Obj} (o' : Obj) (hl : A.heap[l]? = some o) (hB : B ≤ l) (hc : o.isWalk = true) : CalmW B A (A.putObj l o') :=
  ⟨rfl, rfl, rfl, by simp, fun r x hx hr => by
    by_cases e : r = l
    · subst e
      rw [hl] at hx
      cases hx
      rcases hr with hr | hr
      · omega
      · rw [hc] at hr; cases hr
    · exact (World.putObj_heap_other e).trans hx⟩
theorem Calm.blk {B b : Nat} {A A' : World} {l : List Value} {e : TypeId} (h : Calm B A A') (hb : Blk A b l e) : Blk A' b l e := h.same b _ hb (.inr rfl)
theorem Calm.below {B n : Nat} {A A' X : World} (h : Calm B A A') (hb : Below n X A) (hn : n ≤ B) (hs : n ≤ X.heap.size) : Below n X A' :=
  hb.trans ⟨h.os, h.tape, h.output, h.size, fun k hk => by
    have hl : k < A.heap.size := by have := hb.size; omega
    obtain ⟨o, ho⟩ : ∃ o, A.heap[k]? = some o := ⟨_, Array.getElem?_eq_getElem hl⟩
    rw [ho]
    exact h.same k o ho (.inl (by omega))⟩
theorem Below.calm {n B : Nat} {A A' : World} (h : Below n A A') (hn : A.heap.size ≤ n) : Calm B A A' :=
  ⟨h.os, h.tape, h.output, h.size, fun r o ho _ => (h.block r (by have := lt_of_some ho; omega)).trans ho⟩

/-- THE CONTRACT OF AN ITERATOR: its k-th call of yield hands over enc k; it ends behind the m-th, or where a round says no more. Kp: what a round that goes on must keep for it. -/
def Gives (P : Program) (gf : Nat) (lb : Array Value) (m : Nat) (enc : Nat → Array Value) (Kp : World → World → Prop) (w : World) : Prop :=
  ∀ (l : Nat) (J Jx : Nat → World → Prop) (W1 : World), Below w.heap.size w W1 → (∀ k A A', J k A → CalmW W1.heap.size A A' → J k A') → (∀ k A A', Jx k A → CalmW W1.heap.size A A' → Jx k A') →
    (∀ k A, k < m → J k A → YieldAt Fence.wide 0 P l (enc k) A fun e A' => (e = .returned (.bool true) ∧ J (k + 1) A' ∧ Kp A A') ∨ (e = .returned (.bool false) ∧ Jx (k + 1) A')) →
    J 0 W1 → Calls P gf (#[.func (.yield l) #[] #[]] ++ lb) W1 fun e A' => (∃ v, e = .returned v) ∧ (J m A' ∨ ∃ k, 0 < k ∧ k ≤ m ∧ Jx k A')

/-- How a round may end. -/
def bodyQ (B : Nat) (Kp : World → World → Prop) (I : Nat → World → Prop) (Ix : Code → Nat → World → Prop) (k : Nat) (A : World) : Post
  | .normal, _, _, A' => KeepsFrom B A A' ∧ Kp A A' ∧ I (k + 1) A'
  | .ret, _, _, A' => KeepsFrom B A A' ∧ Ix .ret (k + 1) A'
  | .exit id, _, _, A' => KeepsFrom B A A' ∧ Ix (.exit id) (k + 1) A'
  | _, _, _, _ => False
def asgQ (vals : St) (A : World) : Post
  | .normal, F, ds, A' => ds = [] ∧ Has F vals ∧ A' = A
  | _, _, _, _ => False
/-- The frame with yield's arguments in the loop's parameters. -/
def params (F : Fr) : List Nat → List Value → Fr
  | p :: ps, v :: vs => params (upd F p v) ps vs
  | _, _ => F
def okPs (n : Nat) : List Nat → Bool
  | [] => true
  | p :: ps => Nat.blt p n && okPs n ps
theorem Fits.params {n : Nat} {F : Fr} {ds : List Deferred} : ∀ (ps : List Nat) (vs : List Value) {t : Array Value}, okPs n ps = true → Fits n F ds ⟨t, ds⟩ →
    Fits n (params F ps vs) ds ⟨(ps.zip vs).foldl (fun t x => t.setIfInBounds x.1 x.2) t, ds⟩ := by
  intro ps
  induction ps generalizing F with
  | nil => intro vs t _ h; cases vs <;> exact h
  | cons p ps ih =>
    intro vs t ho h
    cases vs with
    | nil => exact h
    | cons v vs =>
      simp only [okPs, Bool.and_eq_true] at ho
      simp only [List.zip_cons_cons, List.foldl_cons]
      exact ih vs ho.2 (Fits.put (o := some p) h v ho.1)

section range
variable {P : Program} {n : Nat} {Q : Post} {F : Fr} {ds : List Deferred} {w : World}

theorem W_range {g : Operand} {ps : List Nat} {assign body : Code} {gf : Nat} {lb : Array Value} (m : Nat) (enc : Nat → List Value) (Kp : World → World → Prop)
    (hg : ev F g = .func (.func gf) #[] lb) (hen : Enters P gf) (hps : okPs n ps = true) (hlen : ∀ k, (enc k).length = ps.length)
    (hseq : Gives P gf lb m (fun k => (enc k).toArray) Kp w) (hKt : ∀ {A B C : World}, Kp A B → Kp B C → Kp A C)
    (hKb : ∀ (A : World) (l : Nat) (r r' : Loop), w.heap.size ≤ l → A.heap[l]? = some (.loop r) → Kp A (A.putObj l (.loop r')))
    (I : Nat → World → Prop) (Ix : Code → Nat → World → Prop) (hI : ∀ k A A', I k A → Calm w.heap.size A A' → I k A') (hIx : ∀ c k A A', Ix c k A → Calm w.heap.size A A' → Ix c k A') (h0 : I 0 w)
    (vals : Nat → St)
    (hasg : ∀ l k A, k < m → W P (some l) n assign (asgQ (vals k) A) (params F ps (enc k)) [] A)
    (hbody : ∀ l k J A, k < m → I k A → W P (some l) n body (bodyQ w.heap.size Kp I Ix k A) (fr J (vals k)) [] A)
    (hdone : ∀ D A, w.heap.size ≤ D → I m A → A.heap[D]? = some (.deferred (some [])) → Q .normal F ({ target := .collected D, args := #[] } :: ds) A)
    (hstop : ∀ D c k A, w.heap.size ≤ D → 0 < k → k ≤ m → Ix c k A → A.heap[D]? = some (.deferred (some [])) → W P none n c Q F ({ target := .collected D, args := #[] } :: ds) A) :
    W P none n (.rangeFunc g ps.toArray assign body) Q F ds w := fun r a hf => by
  show (Code.rangeFunc g ps.toArray assign body).wpIn Fence.wide r P (lift n Q) a w
  refine wpIn_rangeFunc ?_
  intro fn _
  let rec_ : LoopState → Option Code → Loop := fun st pe => { state := st, pending := pe, fn, tmps := a.tmps, params := ps.toArray, assign, body, defers := w.heap.size }
  obtain ⟨W1, hW1⟩ : ∃ W1, (w.alloc (.deferred (some []))).alloc (.loop (rec_ .ready none)) = W1 := ⟨_, rfl⟩
  have hL1 : W1.heap[w.heap.size + 1]? = some (.loop (rec_ .ready none)) := by
    rw [← hW1]
    have := World.alloc_heap_new (w.alloc (.deferred (some []))) (.loop (rec_ .ready none))
    rwa [World.size_alloc] at this
  have hK1 : W1.heap[w.heap.size]? = some (.deferred (some [])) := by
    rw [← hW1]
    exact (Below.heap_alloc _ _ _ (by simp)).trans (World.alloc_heap_new w _)
  have hc1 : Calm w.heap.size w W1 := by rw [← hW1]; exact (Calm.alloc _ _ _).trans (Calm.alloc _ _ _)
  have hb1 : Below w.heap.size w W1 := by
    rw [← hW1]
    exact ((Below.refl _ w).alloc (Nat.le_refl _) _).alloc (by simp) _
  have hs1 : W1.heap.size = w.heap.size + 2 := by rw [← hW1]; simp
  have hga : a.eval g = .func (.func gf) #[] lb := by rw [hf.eval]; exact hg
  refine ⟨w.heap.size + 1, [{ target := .collected w.heap.size, args := #[] }], W1, { target := .fn (.func gf) lb, args := #[.func (.yield (w.heap.size + 1)) #[] #[]] }, W1, gf,
    #[.func (.yield (w.heap.size + 1)) #[] #[]] ++ lb, W1, ?_, ?_, (fun _ _ => trivial), ?_, (fun h => (by cases h)), ?_⟩
  · rw [← hW1]; exact run_enterLoop_outer _ _ _ _ _
  · simp only [resolve, hga]
    simp [go_sem]
  · simp only [invoke]; exact hen _ _
  · refine callsIn_wide.2 ?_
    have hst : ∀ (J : Nat → World → Prop) (f : Code → Prop), True := fun _ _ => trivial
    clear hst
    refine (hseq (w.heap.size + 1)
      (fun k A => I k A ∧ A.heap[w.heap.size + 1]? = some (.loop (rec_ .ready none)) ∧ A.heap[w.heap.size]? = some (.deferred (some [])))
      (fun k A => ∃ c, Ix c k A ∧ A.heap[w.heap.size + 1]? = some (.loop (rec_ .done (some c))) ∧ A.heap[w.heap.size]? = some (.deferred (some [])))
      W1 hb1
      (fun k A A' h hc => ⟨hI k A A' h.1 (hc.calm (by omega)), hc.same _ _ h.2.1 (.inr rfl), hc.same _ _ h.2.2 (.inr rfl)⟩)
      (fun k A A' ⟨c, h1, h2, h3⟩ hc => ⟨c, hIx c k A A' h1 (hc.calm (by omega)), hc.same _ _ h2 (.inr rfl), hc.same _ _ h3 (.inr rfl)⟩)
      ?_ ⟨hI _ _ _ h0 hc1, hL1, hK1⟩).mono ?_
    · rintro k A hk ⟨hi, hl, hd⟩
      have hy := run_yield (P := P) (args := (enc k).toArray) hl (by simp [rec_, hlen])
      refine ⟨fn, _, assign, body, hy, ?_⟩
      refine roundIn_of_wpIn (F := Fence.wide) trivial ?_
      have hfit : Fits n (params F ps (enc k)) [] ⟨(ps.zip (enc k)).foldl (fun t x => t.setIfInBounds x.1 x.2) a.tmps, []⟩ :=
        Fits.params ps (enc k) hps ⟨hf.size, rfl, hf.slot⟩
      have ha := hasg (w.heap.size + 1) k A hk 0 _ hfit
      have e : (((ps.toArray.zip (enc k).toArray).foldl (fun tmps (x : Nat × Value) => tmps.setIfInBounds x.1 x.2) a.tmps)) = (ps.zip (enc k)).foldl (fun t x => t.setIfInBounds x.1 x.2) a.tmps := by simp
      show assign.wpIn (Fence.wide.inRound (w.heap.size + 1)) 0 P _ { tmps := (ps.toArray.zip (enc k).toArray).foldl (fun tmps (x : Nat × Value) => tmps.setIfInBounds x.1 x.2) a.tmps, defers := [] } A
      rw [e]
      refine Code.wpIn_mono ?_ ha
      rintro e a1 A1 ⟨F1, ds1, hf1, hq⟩
      cases e with
      | normal =>
        obtain ⟨rfl, hv, rfl⟩ := hq
        have hlt := lt_of_some hl
        refine ⟨_, run_beginRound hl rfl, ?_⟩
        have hl2 : (A1.putObj (w.heap.size + 1) (.loop { rec_ .ready none with state := .busy })).heap[w.heap.size + 1]? = some (.loop { rec_ .ready none with state := .busy }) := World.putObj_heap_same hlt
        have hd2 : (A1.putObj (w.heap.size + 1) (.loop { rec_ .ready none with state := .busy })).heap[w.heap.size]? = some (.deferred (some [])) := (World.putObj_heap_other (by omega)).trans hd
        have hp2 := hKb A1 (w.heap.size + 1) _ { rec_ .ready none with state := .busy } (by omega) hl
        have hb := hbody (w.heap.size + 1) k F1 _ hk (hI _ _ _ hi (Calm.put (.loop { rec_ .ready none with state := .busy }) hl (by omega) rfl)) 0 a1 (hf1.congr (fr_has hv))
        refine Code.wpIn_mono ?_ hb
        have fin : ∀ (jump : Option Code) (A3 : World), KeepsFrom w.heap.size (A1.putObj (w.heap.size + 1) (.loop { rec_ .ready none with state := .busy })) A3 →
            (Instr.endRound (w.heap.size + 1) jump).run P A3 = .ok (.bool jump.isNone) (A3.putObj (w.heap.size + 1) (.loop (rec_ (if jump.isNone then .ready else .done) jump))) ∧
            A3.heap[w.heap.size + 1]? = some (.loop { rec_ .ready none with state := .busy }) ∧
            (A3.putObj (w.heap.size + 1) (.loop (rec_ (if jump.isNone then .ready else .done) jump))).heap[w.heap.size + 1]? = some (.loop (rec_ (if jump.isNone then .ready else .done) jump)) ∧
            (A3.putObj (w.heap.size + 1) (.loop (rec_ (if jump.isNone then .ready else .done) jump))).heap[w.heap.size]? = some (.deferred (some [])) := fun jump A3 hk3 => by
          have hl3 := hk3.same _ _ (by omega) hl2 rfl
          have hd3 := hk3.same _ _ (Nat.le_refl _) hd2 rfl
          exact ⟨run_endRound (P := P) jump hl3, hl3, World.putObj_heap_same (lt_of_some hl3), (World.putObj_heap_other (by omega)).trans hd3⟩
        rintro e a3 A3 ⟨F3, ds3, _, hq3⟩
        cases e with
        | normal =>
          obtain ⟨hk3, hkp, hi3⟩ := hq3
          obtain ⟨hr, hl3, hl4, hd4⟩ := fin none A3 hk3
          exact ⟨_, _, hr, .inl ⟨rfl, ⟨hI _ _ _ hi3 (Calm.put _ hl3 (by omega) rfl), hl4, hd4⟩, hKt (hKt hp2 hkp) (hKb A3 _ _ _ (by omega) hl3)⟩⟩
        | ret =>
          obtain ⟨hk3, hi3⟩ := hq3
          obtain ⟨hr, hl3, hl4, hd4⟩ := fin (some .ret) A3 hk3
          exact ⟨_, _, hr, .inr ⟨rfl, .ret, hIx _ _ _ _ hi3 (Calm.put _ hl3 (by omega) rfl), hl4, hd4⟩⟩
        | exit id =>
          obtain ⟨hk3, hi3⟩ := hq3
          obtain ⟨hr, hl3, hl4, hd4⟩ := fin (some (.exit id)) A3 hk3
          exact ⟨_, _, hr, .inr ⟨rfl, .exit id, hIx _ _ _ _ hi3 (Calm.put _ hl3 (by omega) rfl), hl4, hd4⟩⟩
        | goto t => exact hq3.elim
        | panic ch => exact hq3.elim
        | outgrown => exact hq3.elim
      | ret => exact hq.elim
      | exit id => exact hq.elim
      | goto t => exact hq.elim
      | panic ch => exact hq.elim
      | outgrown => exact hq.elim
    · rintro e A ⟨⟨v, rfl⟩, h⟩
      rcases h with ⟨hi, hl, hd⟩ | ⟨k, hk0, hkm, c, hi, hl, hd⟩
      · have hr := run_endLoop (P := P) hl (by simp [rec_])
        refine ⟨none, _, hr, ?_⟩
        have hq := hdone w.heap.size _ (Nat.le_refl _) (hI _ _ _ hi (Calm.put (.loop { rec_ .ready none with state := .exhausted }) hl (by omega) rfl)) ((World.putObj_heap_other (by omega)).trans hd)
        exact ⟨F, _, ⟨hf.size, by rw [hf.defers]; rfl, hf.slot⟩, hq⟩
      · have hr := run_endLoop (P := P) hl (by simp [rec_])
        refine ⟨some c, _, hr, ?_⟩
        have hq := hstop w.heap.size c k _ (Nat.le_refl _) hk0 hkm (hIx _ _ _ _ hi (Calm.put (.loop { rec_ .done (some c) with state := .exhausted }) hl (by omega) rfl)) ((World.putObj_heap_other (by omega)).trans hd)
        exact hq r _ ⟨hf.size, by rw [hf.defers]; rfl, hf.slot⟩

/-! ### A call of yield -/
theorem E_round_in {rd : Option Nat} {m m' : Nat} {l : Nat} {f : FuncId} {tmps : Array Value} {assign body : Code} {R : Ending → World → Prop} (h : RoundIn Fence.wide m P l f tmps assign body w R) : RoundIn (E rd) m' P l f tmps assign body w R := by
  cases rd with
  | none => exact ⟨trivial, fun c cs _ => h.2 c cs (room_wide _)⟩
  | some l => exact ⟨trivial, fun c cs _ => h.2 c cs (room_wide _)⟩
theorem Lst_yield {rd : Option Nat} {ops : Array Oper} {rest : List Oper} {ty : TypeId} {pos : String} {after : Array Edge} {d : Option Nat} {x : Operand} {as : List Operand} {l : Nat} {ts : Array TypeId} (hx : ev F x = .func (.yield l) #[] #[]) (hd : okd n d = true)
    (h : YieldAt Fence.wide 0 P l (evs F as).toArray w fun e w' => ∃ v, e = .returned v ∧ Lst P rd n ops Q rest (updO F d v) ds w') : Lst P rd n ops Q (⟨d, .call { callee := .value x, args := as.toArray, argTypes := ts }, ty, pos, after, none⟩ :: rest) F ds w := fun m a hf => by
  obtain ⟨fn, tmps, assign, body, hy, hr⟩ := h
  unfold wpListIn
  rw [if_pos (wanted_none rfl _)]
  refine ⟨fun f _ => E_fn rd f, ?_⟩
  have e2 := map_evs (F := F) as
  have hrun : (execOp (ev F) ⟨d, .call { callee := .value x, args := as.toArray, argTypes := ts }, ty, pos, after, none⟩).run P w = .ok (.round l fn tmps assign body) w := by
    simp only [execOp, resolve, hx, Deferred.ofValue, invoke, Sem.run_bind, Sem.run_pure, Result.andThen, e2]
    simpa using hy
  rw [hf.eval, sem_same (no_defer hrun (by simp)), hrun, Oper.uponIn_round]
  refine ⟨E_one rd m, E_round_in (hr.mono ?_)⟩
  rintro e w2 ⟨v, rfl, hl⟩
  exact hl m _ (hf.put v hd)

/-! ### A function whose activation holds such loops -/
def leaveQ (P : Program) (rs : List ResultVar) (R : Value → World → Prop) (F : Fr) : List Deferred → World → Prop
  | [], w => ∃ vs, retV F P w rs vs ∧ R (oneOrMore vs) w
  | d :: ds, w => ∃ D, d.target = .collected D ∧ w.heap[D]? = some (.deferred (some [])) ∧ leaveQ P rs R F ds (w.putObj D (.deferred none))
def retM (P : Program) (rs : List ResultVar) (R : Value → World → Prop) : Post
  | .ret, F, ds, w | .normal, F, ds, w => leaveQ P rs R F ds w
  | _, _, _, _ => False
theorem retM1 {R : Value → World → Prop} {t D : Nat} {v : Value} (hD : w.heap[D]? = some (.deferred (some []))) (hv : F t = v) (h : R v (w.putObj D (.deferred none))) : retM P [.tmp t] R .ret F [{ target := .collected D, args := #[] }] w := ⟨D, rfl, hD, [v], ⟨hv, trivial⟩, h⟩
theorem retM2 {R : Value → World → Prop} {t u D : Nat} {v x : Value} (hD : w.heap[D]? = some (.deferred (some []))) (hv : F t = v) (hx : F u = x) (h : R (.tuple #[v, x]) (w.putObj D (.deferred none))) : retM P [.tmp t, .tmp u] R .ret F [{ target := .collected D, args := #[] }] w := ⟨D, rfl, hD, [v, x], ⟨hv, hx, trivial⟩, h⟩
theorem retM1p {R : Value → World → Prop} {t : Nat} {v : Value} (hv : F t = v) (h : R v w) : retM P [.tmp t] R .ret F [] w := ⟨[v], ⟨hv, trivial⟩, h⟩
theorem retM2p {R : Value → World → Prop} {t u : Nat} {v x : Value} (hv : F t = v) (hx : F u = x) (h : R (.tuple #[v, x]) w) : retM P [.tmp t, .tmp u] R .ret F [] w := ⟨[v, x], ⟨hv, hx, trivial⟩, h⟩
theorem leaves {fn : Func} {rs : List ResultVar} {R : Value → World → Prop} (hr : fn.results = rs.toArray) (h4 : rs.length ≤ 4) {t : Array Value} (hs : ∀ i, t.getD i undef = F i) (hz : t.size = n) : ∀ (ds : List Deferred) (w : World), leaveQ P rs R F ds w →
    LeavesInM Fence.wide 0 P fn t (fun e w' => ∃ v, e = .returned v ∧ R v w') ds .returning w := by
  intro ds
  induction ds with
  | nil =>
    rintro w ⟨vs, hv, hR⟩
    exact ⟨_, run_results (a := ⟨t, []⟩) hr h4 (⟨hz, rfl, hs⟩ : Fits n F [] ⟨t, []⟩) hv, _, rfl, hR⟩
  | cons d ds ih =>
    rintro w ⟨D, hd, hD, h⟩
    exact ⟨by simp, .inl ⟨D, _, hd, run_takeDeferred hD, ih _ h⟩⟩
theorem Does_of_marks {f : Nat} {fn : Func} {c : Code} {rs : List ResultVar} {args : List Value} {R : Value → World → Prop} (hf : P.funcs[f]? = some fn) (hname : (fn.name == "runtime.NumGoroutine") = false)
    (hb : fn.body = some c) (hr : fn.results = rs.toArray) (hn : fn.ntmps = n) (hl : Nat.ble args.length n = true) (h4 : Nat.ble rs.length 4 = true) (h : W P none n c (retM P rs R) (start args) [] w) : Does P f args.toArray w R := by
  refine ⟨enters_of hf hname hb, callsIn_wide.1 (callsIn_of_wp_marks (F := Fence.wide) (n := 0) hf hb trivial ?_ rfl)⟩
  have hl' : args.length ≤ n := by simpa using hl
  refine Code.wpIn_mono (fun e a w hq => ?_) (h 0 _ ⟨by simp [hn]; omega, rfl, fun i => start_eq args _ i⟩)
  obtain ⟨G, ds, hg, hq⟩ := hq
  cases e with
  | normal => show LeavesInM _ _ _ _ _ _ a.defers _ _; rw [hg.defers]; exact leaves hr (by simpa using h4) hg.slot hg.size ds w hq
  | ret => show LeavesInM _ _ _ _ _ _ a.defers _ _; rw [hg.defers]; exact leaves hr (by simpa using h4) hg.slot hg.size ds w hq
  | exit i => exact hq.elim
  | goto l => exact hq.elim
  | panic ch => exact hq.elim
  | outgrown => exact hq.elim
end range
end Sx
end Go.Proofs.Ytoljcnlmockpcaa
