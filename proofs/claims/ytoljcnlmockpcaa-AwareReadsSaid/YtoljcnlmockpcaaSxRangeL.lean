/- A range over an iterator whose elements come in an order that nobody knows ahead. Over any program. -/
import Derived.Test.YtoljcnlmockpcaaSxRange
namespace Go.Proofs.Ytoljcnlmockpcaa
namespace Sx
open Go Go.RowKit
/-- THE CONTRACT OF SUCH AN ITERATOR: it hands over elements, one a round, such that S holds of all of them in their order; B: what an element must be like behind those that came. -/
def GivesL {β : Type} (P : Program) (gf : Nat) (lb : Array Value) (enc : β → Array Value) (B : List β → β → Prop) (S : List β → Prop) (Kp : World → World → Prop) (w : World) : Prop :=
  ∀ (l : Nat) (J : List β → World → Prop) (W1 : World), Below w.heap.size w W1 → (∀ s A A', J s A → CalmW W1.heap.size A A' → J s A') →
    (∀ s x A, B s x → J s A → YieldAt Fence.wide 0 P l (enc x) A fun e A' => e = .returned (.bool true) ∧ J (s ++ [x]) A' ∧ Kp A A') →
    J [] W1 → Calls P gf (#[.func (.yield l) #[] #[]] ++ lb) W1 fun e A' => (∃ v, e = .returned v) ∧ ∃ s, S s ∧ J s A'
def bodyL {β : Type} (B : Nat) (Kp : World → World → Prop) (I : List β → World → Prop) (s : List β) (x : β) (A : World) : Post
  | .normal, _, _, A' => KeepsFrom B A A' ∧ Kp A A' ∧ I (s ++ [x]) A'
  | _, _, _, _ => False
section range
variable {P : Program} {n : Nat} {Q : Post} {F : Fr} {ds : List Deferred} {w : World}
theorem W_rangeL {β : Type} {g : Operand} {ps : List Nat} {assign body : Code} {gf : Nat} {lb : Array Value} (enc : β → List Value) (B : List β → β → Prop) (S : List β → Prop) (Kp : World → World → Prop)
    (hg : ev F g = .func (.func gf) #[] lb) (hen : Enters P gf) (hps : okPs n ps = true) (hlen : ∀ x, (enc x).length = ps.length)
    (hseq : GivesL P gf lb (fun x => (enc x).toArray) B S Kp w) (hKt : ∀ {A B C : World}, Kp A B → Kp B C → Kp A C)
    (hKb : ∀ (A : World) (l : Nat) (r r' : Loop), w.heap.size ≤ l → A.heap[l]? = some (.loop r) → Kp A (A.putObj l (.loop r')))
    (I : List β → World → Prop) (hI : ∀ s A A', I s A → Calm w.heap.size A A' → I s A') (h0 : I [] w)
    (vals : β → St)
    (hasg : ∀ l x A, W P (some l) n assign (asgQ (vals x) A) (params F ps (enc x)) [] A)
    (hbody : ∀ l s x J A, B s x → I s A → W P (some l) n body (bodyL w.heap.size Kp I s x A) (fr J (vals x)) [] A)
    (hdone : ∀ D s A, w.heap.size ≤ D → S s → I s A → A.heap[D]? = some (.deferred (some [])) → Q .normal F ({ target := .collected D, args := #[] } :: ds) A) :
    W P none n (.rangeFunc g ps.toArray assign body) Q F ds w := fun r a hf => by
  show (Code.rangeFunc g ps.toArray assign body).wpIn Fence.wide r P (lift n Q) a w
  refine wpIn_rangeFunc ?_
  intro fn _
  let rec_ : LoopState → Option Code → Loop := fun st pe => { state := st, pending := pe, fn, tmps := a.tmps, params := ps.toArray, assign, body, defers := w.heap.size }
  obtain ⟨W1, hW1⟩ : ∃ W1, (w.alloc (.deferred (some []))).alloc (.loop (rec_ .ready none)) = W1 := ⟨_, rfl⟩
  have hL1 : W1.heap[w.heap.size + 1]? = some (.loop (rec_ .ready none)) := by
    rw [← hW1]
    have := World.alloc_heap_new (w.alloc (.deferred (some []))) (.loop (rec_ .ready none))
    rwa [World.size_alloc] at this
  have hK1 : W1.heap[w.heap.size]? = some (.deferred (some [])) := by
    rw [← hW1]
    exact (Below.heap_alloc _ _ _ (by simp)).trans (World.alloc_heap_new w _)
  have hc1 : Calm w.heap.size w W1 := by rw [← hW1]; exact (Calm.alloc _ _ _).trans (Calm.alloc _ _ _)
  have hb1 : Below w.heap.size w W1 := by
    rw [← hW1]
    exact ((Below.refl _ w).alloc (Nat.le_refl _) _).alloc (by simp) _
  have hs1 : W1.heap.size = w.heap.size + 2 := by rw [← hW1]; simp
  have hga : a.eval g = .func (.func gf) #[] lb := by rw [hf.eval]; exact hg
  refine ⟨w.heap.size + 1, [{ target := .collected w.heap.size, args := #[] }], W1, { target := .fn (.func gf) lb, args := #[.func (.yield (w.heap.size + 1)) #[] #[]] }, W1, gf,
    #[.func (.yield (w.heap.size + 1)) #[] #[]] ++ lb, W1, ?_, ?_, (fun _ _ => trivial), ?_, (fun h => (by cases h)), ?_⟩
  · rw [← hW1]; exact run_enterLoop_outer _ _ _ _ _
  · simp only [resolve, hga]
    simp [go_sem]
  · simp only [invoke]; exact hen _ _
  · refine callsIn_wide.2 ?_
    refine (hseq (w.heap.size + 1)
      (fun k A => I k A ∧ A.heap[w.heap.size + 1]? = some (.loop (rec_ .ready none)) ∧ A.heap[w.heap.size]? = some (.deferred (some [])))
      W1 hb1
      (fun k A A' h hc => ⟨hI k A A' h.1 (hc.calm (by omega)), hc.same _ _ h.2.1 (.inr rfl), hc.same _ _ h.2.2 (.inr rfl)⟩)
      ?_ ⟨hI _ _ _ h0 hc1, hL1, hK1⟩).mono ?_
    · rintro s x A hk ⟨hi, hl, hd⟩
      have hy := run_yield (P := P) (args := (enc x).toArray) hl (by simp [rec_, hlen])
      refine ⟨fn, _, assign, body, hy, ?_⟩
      refine roundIn_of_wpIn (F := Fence.wide) trivial ?_
      have hfit : Fits n (params F ps (enc x)) [] ⟨(ps.zip (enc x)).foldl (fun t x => t.setIfInBounds x.1 x.2) a.tmps, []⟩ :=
        Fits.params ps (enc x) hps ⟨hf.size, rfl, hf.slot⟩
      have ha := hasg (w.heap.size + 1) x A 0 _ hfit
      have e : (((ps.toArray.zip (enc x).toArray).foldl (fun tmps (x : Nat × Value) => tmps.setIfInBounds x.1 x.2) a.tmps)) = (ps.zip (enc x)).foldl (fun t x => t.setIfInBounds x.1 x.2) a.tmps := by simp
      show assign.wpIn (Fence.wide.inRound (w.heap.size + 1)) 0 P _ { tmps := (ps.toArray.zip (enc x).toArray).foldl (fun tmps (x : Nat × Value) => tmps.setIfInBounds x.1 x.2) a.tmps, defers := [] } A
      rw [e]
      refine Code.wpIn_mono ?_ ha
      rintro e a1 A1 ⟨F1, ds1, hf1, hq⟩
      cases e with
      | normal =>
        obtain ⟨rfl, hv, rfl⟩ := hq
        have hlt := lt_of_some hl
        refine ⟨_, run_beginRound hl rfl, ?_⟩
        have hl2 : (A1.putObj (w.heap.size + 1) (.loop { rec_ .ready none with state := .busy })).heap[w.heap.size + 1]? = some (.loop { rec_ .ready none with state := .busy }) := World.putObj_heap_same hlt
        have hd2 : (A1.putObj (w.heap.size + 1) (.loop { rec_ .ready none with state := .busy })).heap[w.heap.size]? = some (.deferred (some [])) := (World.putObj_heap_other (by omega)).trans hd
        have hp2 := hKb A1 (w.heap.size + 1) _ { rec_ .ready none with state := .busy } (by omega) hl
        have hb := hbody (w.heap.size + 1) s x F1 _ hk (hI _ _ _ hi (Calm.put (.loop { rec_ .ready none with state := .busy }) hl (by omega) rfl)) 0 a1 (hf1.congr (fr_has hv))
        refine Code.wpIn_mono ?_ hb
        have fin : ∀ (jump : Option Code) (A3 : World), KeepsFrom w.heap.size (A1.putObj (w.heap.size + 1) (.loop { rec_ .ready none with state := .busy })) A3 →
            (Instr.endRound (w.heap.size + 1) jump).run P A3 = .ok (.bool jump.isNone) (A3.putObj (w.heap.size + 1) (.loop (rec_ (if jump.isNone then .ready else .done) jump))) ∧
            A3.heap[w.heap.size + 1]? = some (.loop { rec_ .ready none with state := .busy }) ∧
            (A3.putObj (w.heap.size + 1) (.loop (rec_ (if jump.isNone then .ready else .done) jump))).heap[w.heap.size + 1]? = some (.loop (rec_ (if jump.isNone then .ready else .done) jump)) ∧
            (A3.putObj (w.heap.size + 1) (.loop (rec_ (if jump.isNone then .ready else .done) jump))).heap[w.heap.size]? = some (.deferred (some [])) := fun jump A3 hk3 => by
          have hl3 := hk3.same _ _ (by omega) hl2 rfl
          have hd3 := hk3.same _ _ (Nat.le_refl _) hd2 rfl
          exact ⟨run_endRound (P := P) jump hl3, hl3, World.putObj_heap_same (lt_of_some hl3), (World.putObj_heap_other (by omega)).trans hd3⟩
        rintro e a3 A3 ⟨F3, ds3, _, hq3⟩
        cases e with
        | normal =>
          obtain ⟨hk3, hkp, hi3⟩ := hq3
          obtain ⟨hr, hl3, hl4, hd4⟩ := fin none A3 hk3
          exact ⟨_, _, hr, ⟨rfl, ⟨hI _ _ _ hi3 (Calm.put _ hl3 (by omega) rfl), hl4, hd4⟩, hKt (hKt hp2 hkp) (hKb A3 _ _ _ (by omega) hl3)⟩⟩
        | ret => exact hq3.elim
        | exit id => exact hq3.elim
        | goto t => exact hq3.elim
        | panic ch => exact hq3.elim
        | outgrown => exact hq3.elim
      | ret => exact hq.elim
      | exit id => exact hq.elim
      | goto t => exact hq.elim
      | panic ch => exact hq.elim
      | outgrown => exact hq.elim
    · rintro e A ⟨⟨v, rfl⟩, s, hS, hi, hl, hd⟩
      have hr := run_endLoop (P := P) hl (by simp [rec_])
      refine ⟨none, _, hr, ?_⟩
      have hq := hdone w.heap.size s _ (Nat.le_refl _) hS (hI _ _ _ hi (Calm.put (.loop { rec_ .ready none with state := .exhausted }) hl (by omega) rfl)) ((World.putObj_heap_other (by omega)).trans hd)
      exact ⟨F, _, ⟨hf.size, by rw [hf.defers]; rfl, hf.slot⟩, hq⟩
end range
end Sx
end Go.Proofs.Ytoljcnlmockpcaa
