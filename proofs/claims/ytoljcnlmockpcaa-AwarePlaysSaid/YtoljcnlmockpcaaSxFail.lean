/- Functions that may panic, that defer, that recover. Over any program. -/
import Derived.Test.YtoljcnlmockpcaaSxGo
import Derived.RecoverIn
namespace Go.Proofs.Ytoljcnlmockpcaa
namespace Sx
open Go Go.RowKit
section fail
variable {P : Program} {n : Nat}
/-- What holds where the function returns, and where it panics. -/
def RE (R K : Value → World → Prop) : Ending → World → Prop
  | .returned v, w => R v w
  | .panicked chain, w => ∃ v, chain = [{ v, recovered := false }] ∧ K v w
  | .outgrown, _ => False
/-- The function returns and leaves R, or panics with a value and leaves K. -/
def Tries (P : Program) (f : Nat) (args : Array Value) (w : World) (R K : Value → World → Prop) : Prop := Enters P f ∧ Calls P f args w (RE R K)
theorem Tries.mono {f : Nat} {args : Array Value} {w : World} {R K R' K' : Value → World → Prop} (h : Tries P f args w R K) (hr : ∀ v w', R v w' → R' v w') (hk : ∀ v w', K v w' → K' v w') : Tries P f args w R' K' :=
  ⟨h.1, h.2.mono fun e w' he => by
    cases e with
    | returned v => exact hr v w' he
    | panicked chain =>
      obtain ⟨v, hc, hv⟩ := he
      exact ⟨v, hc, hk v w' hv⟩
    | outgrown => exact he⟩
theorem Does.tries {f : Nat} {args : Array Value} {w : World} {R K : Value → World → Prop} (h : Does P f args w R) : Tries P f args w R K :=
  ⟨h.1, h.2.mono fun e w' he => by
    obtain ⟨v, rfl, hv⟩ := he
    exact hv⟩
theorem Tries.does {f : Nat} {args : Array Value} {w : World} {R : Value → World → Prop} (h : Tries P f args w R (fun _ _ => False)) : Does P f args w R :=
  ⟨h.1, h.2.mono fun e w' he => by
    cases e with
    | returned v => exact ⟨v, rfl, he⟩
    | panicked chain =>
      obtain ⟨v, _, hv⟩ := he
      exact hv.elim
    | outgrown => exact he.elim⟩
def retF (P : Program) (rs : List ResultVar) (R K : Value → World → Prop) : Post
  | .ret, F, ds, w | .normal, F, ds, w => ds = [] ∧ ∃ vs, retV F P w rs vs ∧ R (oneOrMore vs) w
  | .panic chain, _, ds, w => ds = [] ∧ ∃ v, chain = [{ v, recovered := false }] ∧ K v w
  | _, _, _, _ => False
variable {F : Fr} {ds : List Deferred} {w : World}
theorem retF_r {rs : List ResultVar} {R K : Value → World → Prop} (h : retQ P rs R .ret F ds w) : retF P rs R K .ret F ds w := h
theorem retF_n {rs : List ResultVar} {R K : Value → World → Prop} (h : retQ P rs R .normal F ds w) : retF P rs R K .normal F ds w := h
theorem retF_p {rs : List ResultVar} {R K : Value → World → Prop} {v : Value} (h : K v w) : retF P rs R K (.panic [{ v, recovered := false }]) F [] w := ⟨rfl, v, rfl, h⟩
theorem seqQ_f {rd : Option Nat} {y : Code} {Q : Post} {c : List PanicEntry} (h : Q (.panic c) F ds w) : seqQ P rd n y Q (.panic c) F ds w := h
theorem blkQ_f {id : Nat} {Q : Post} {c : List PanicEntry} (h : Q (.panic c) F ds w) : blkQ id Q (.panic c) F ds w := h
theorem Tries_of {f : Nat} {fn : Func} {c : Code} {rs : List ResultVar} {args : List Value} {R K : Value → World → Prop} (hf : P.funcs[f]? = some fn) (hname : (fn.name == "runtime.NumGoroutine") = false)
    (hb : fn.body = some c) (hr : fn.results = rs.toArray) (hn : fn.ntmps = n) (hl : Nat.ble args.length n = true) (h4 : Nat.ble rs.length 4 = true) (h : W P none n c (retF P rs R K) (start args) [] w) : Tries P f args.toArray w R K := by
  refine ⟨enters_of hf hname hb, ?_⟩
  refine calls_of_wp hf hb ?_
  have hl' : args.length ≤ n := by simpa using hl
  refine Code.wp_mono (fun e a w hq => ?_) (wpIn_wide.1 (h 0 _ ⟨by simp [hn]; omega, rfl, fun i => start_eq args _ i⟩))
  obtain ⟨G, ds, hg, hq⟩ := hq
  cases e with
  | normal =>
    obtain ⟨rfl, vs, hv, hR⟩ := hq
    exact ⟨hg.defers, _, run_results hr (by simpa using h4) hg hv, hR⟩
  | ret =>
    obtain ⟨rfl, vs, hv, hR⟩ := hq
    exact ⟨hg.defers, _, run_results hr (by simpa using h4) hg hv, hR⟩
  | exit i => exact hq.elim
  | goto l => exact hq.elim
  | panic ch =>
    obtain ⟨rfl, v, hc, hK⟩ := hq
    exact ⟨hg.defers, v, hc, hK⟩
  | outgrown => exact hq.elim
variable {rd : Option Nat} {ops : Array Oper} {Q : Post} {rest : List Oper} {ty : TypeId} {pos : String} {after : Array Edge}
theorem Lst_enterF {o : Oper} {w' : World} {f : Nat} {args : Array Value} (hg : o.guard = none) (hrun : (execOp (ev F) o).run P w = .ok (.enter f args) w') (hd : okd n o.dst = true)
    (h : Calls P f args w' (RE (fun v w'' => Lst P rd n ops Q rest (updO F o.dst v) ds w'') (fun v w'' => Q (.panic [{ v, recovered := false }]) F ds w''))) : Lst P rd n ops Q (o :: rest) F ds w := fun m a hf => by
  unfold wpListIn
  rw [if_pos (wanted_none hg _)]
  refine ⟨fun f _ => E_fn rd f, ?_⟩
  rw [hf.eval, sem_same (no_defer hrun (by simp)), hrun, Oper.uponIn_enter]
  refine ⟨E_one rd m, E_calls.2 (h.mono ?_)⟩
  rintro e w2 he
  cases e with
  | returned v => exact he m _ (hf.put v hd)
  | panicked chain =>
    obtain ⟨v, rfl, hv⟩ := he
    exact ⟨F, ds, hf, hv⟩
  | outgrown => exact he.elim
/-- A call of a function that may panic. -/
theorem Lst_callF {d : Option Nat} {f : Operand} {as : List Operand} {cs : List Value} {g : Nat} {ts : Array TypeId} (hf : ev F f = .func (.func g) #[] cs.toArray) (hd : okd n d = true)
    (h : Tries P g (evs F as ++ cs).toArray w (fun v w' => Lst P rd n ops Q rest (updO F d v) ds w') (fun v w' => Q (.panic [{ v, recovered := false }]) F ds w')) : Lst P rd n ops Q (⟨d, .call { callee := .value f, args := as.toArray, argTypes := ts }, ty, pos, after, none⟩ :: rest) F ds w :=
  Lst_enterF rfl (by
    have e := h.1 (evs F as ++ cs).toArray w
    have e2 := map_evs (F := F) as
    simp only [execOp, resolve, hf, Deferred.ofValue, invoke, Sem.run_bind, Sem.run_pure, Result.andThen, e2]
    simpa using e) hd h.2
/-- panic(x). -/
theorem Lst_panic {d : Option Nat} {x : Operand} {t : TypeId} {v : Value} (hx : ev F x = .iface t v) (h : Q (.panic [{ v := .iface t v, recovered := false }]) F ds w) : Lst P rd n ops Q (⟨d, .panic x, ty, pos, after, none⟩ :: rest) F ds w := fun m a hf => by
  unfold wpListIn
  rw [if_pos (wanted_none rfl _)]
  refine ⟨fun f _ => E_fn rd f, ?_⟩
  have hrun : (execOp (ev F) ⟨d, .panic x, ty, pos, after, none⟩).run P w = .halt (.panic (.iface t v)) w := by
    simp [execOp, hx, Instr.panic, goPanic]
  rw [hf.eval, sem_same (by intro c; simp), hrun, Oper.uponIn_panic]
  exact ⟨F, ds, hf, h⟩
/-- defer f(). -/
theorem Lst_defer {f : Operand} {cs : List Value} {g : Nat} {ts : Array TypeId} (hf : ev F f = .func (.func g) #[] cs.toArray)
    (h : Lst P none n ops Q rest F (⟨.fn (.func g) cs.toArray, #[]⟩ :: ds) w) : Lst P none n ops Q (⟨none, .defer { callee := .value f, args := #[], argTypes := ts }, ty, pos, after, none⟩ :: rest) F ds w := fun m a hft => by
  unfold wpListIn
  rw [if_pos (wanted_none rfl _)]
  refine ⟨fun f _ => E_fn none f, ?_⟩
  have hrun : (execOp (ev F) ⟨none, .defer { callee := .value f, args := #[], argTypes := ts }, ty, pos, after, none⟩).run P w = .ok (.defer ⟨.fn (.func g) cs.toArray, #[]⟩) w := by
    simp [execOp, resolve, hf, Deferred.ofValue]
  rw [hft.eval]
  have hs : ∀ o : Oper, o.semAt (E none).round (ev F) = execOp (ev F) o := fun o => rfl
  rw [hs, hrun, Oper.uponIn_defer]
  exact h m _ ⟨hft.size, by simp [Act.put, hft.defers], hft.slot⟩
/-! ### Leaving with deferred calls -/
def retD (P : Program) (n : Nat) (fn : Func) (R : Ending → World → Prop) : Post
  | .ret, F, ds, w | .normal, F, ds, w => ∀ t : Array Value, t.size = n → (∀ i, t.getD i undef = F i) → LeavesIn Fence.wide 0 P fn t R ds .returning w
  | .panic chain, F, ds, w => ∀ t : Array Value, t.size = n → (∀ i, t.getD i undef = F i) → LeavesIn Fence.wide 0 P fn t R ds (.panicking chain) w
  | _, _, _, _ => False
theorem Tries_of_defers {f : Nat} {fn : Func} {c : Code} {args : List Value} {R K : Value → World → Prop} (hf : P.funcs[f]? = some fn) (hname : (fn.name == "runtime.NumGoroutine") = false)
    (hb : fn.body = some c) (hn : fn.ntmps = n) (hl : Nat.ble args.length n = true) (h : W P none n c (retD P n fn (RE R K)) (start args) [] w) : Tries P f args.toArray w R K := by
  refine ⟨enters_of hf hname hb, callsIn_wide.1 (callsIn_of_wp_defers (F := Fence.wide) (n := 0) hf hb trivial ?_ rfl)⟩
  have hl' : args.length ≤ n := by simpa using hl
  refine Code.wpIn_mono (fun e a w hq => ?_) (h 0 _ ⟨by simp [hn]; omega, rfl, fun i => start_eq args _ i⟩)
  obtain ⟨G, ds, hg, hq⟩ := hq
  cases e with
  | normal => show LeavesIn _ _ _ _ _ _ a.defers _ _; rw [hg.defers]; exact hq a.tmps hg.size hg.slot
  | ret => show LeavesIn _ _ _ _ _ _ a.defers _ _; rw [hg.defers]; exact hq a.tmps hg.size hg.slot
  | exit i => exact hq.elim
  | goto l => exact hq.elim
  | panic ch => show LeavesIn _ _ _ _ _ _ a.defers _ _; rw [hg.defers]; exact hq a.tmps hg.size hg.slot
  | outgrown => exact hq.elim
/-- One deferred call of a Go function, and nothing behind it. -/
theorem leave1 {fn : Func} {t : Array Value} {R : Ending → World → Prop} {g : Nat} {cs : List Value} {u u' : FrameMode} (hu : u ≠ .run) (hg : Enters P g) (S : World → Prop)
    (h : CallsDIn Fence.wide 0 P g cs.toArray u w fun e v w' => (∃ x, e = .returned x) ∧ v = u' ∧ S w') (hL : ∀ w', S w' → LeavesIn Fence.wide 0 P fn t R [] (settle u') w') : LeavesIn Fence.wide 0 P fn t R [⟨.fn (.func g) cs.toArray, #[]⟩] u w := by
  refine leavesIn_cons (f := g) (args := cs.toArray) hu (fun h => by cases h) ?_ (fun _ _ => trivial) ?_
  · have := hg cs.toArray w
    simpa [invoke] using this
  · refine CallsDIn.mono h ?_
    rintro e v w' ⟨⟨x, rfl⟩, rfl, hS⟩
    exact hL w' hS
/-- A deferred function whose first deed is to recover. -/
def retU (R : World → Prop) : Post
  | .ret, _, ds, w | .normal, _, ds, w => ds = [] ∧ R w
  | _, _, _, _ => False
theorem D_recover {g m d id : Nat} {fn : Func} {y : Code} {args : List Value} {u u' : FrameMode} {rv : Value} {S : World → Prop} {ts : TypeId} {ps : String} {af : Array Edge} (hf : P.funcs[g]? = some fn)
    (hb : fn.body = some (.seq (.region id #[⟨some d, .call { callee := .builtin .recover, args := #[], argTypes := #[] }, ts, ps, af, none⟩] false) y)) (hr : fn.results = #[]) (hn : fn.ntmps = n) (hl : Nat.ble args.length n = true) (hd : Nat.blt d n = true)
    (hrec : (u = .panicking [{ v := rv, recovered := false }] ∧ u' = .panicking [{ v := rv, recovered := true }]) ∨ (u = .returning ∧ u' = u ∧ rv = .nilIface))
    (h : W P none n y (retU S) (upd (start args) d rv) [] w) : CallsDIn Fence.wide m P g args.toArray u w fun e v w' => (∃ x, e = .returned x) ∧ v = u' ∧ S w' := by
  have hl' : args.length ≤ n := by simpa using hl
  refine callsDIn_of_wpSIn hf hb trivial fun c₀ cs hc => ?_
  refine wpSIn_seq (wpSIn_region ?_)
  have hfit : Fits n (start args) [] { tmps := args.toArray ++ Array.replicate (fn.ntmps - args.toArray.size) undef, defers := [] } := ⟨by simp [hn]; omega, rfl, fun i => start_eq args _ i⟩
  have key : ∀ cs', (∃ v', cs' = { c₀ with mode := v' } :: cs ∧ v' = u') → y.wpSIn Fence.wide m P (bodyPostS P fn c₀ cs fun e v w' => (∃ x, e = .returned x) ∧ v = u' ∧ S w') (Act.put { tmps := args.toArray ++ Array.replicate (fn.ntmps - args.toArray.size) undef, defers := [] } (some d) rv) cs' w := by
    rintro cs' ⟨v', rfl, rfl⟩
    refine wpSIn_of_wpIn rfl (Code.wpIn_mono (fun e a w' hq => ?_) (h m _ (hfit.put (o := some d) rv hd)))
    obtain ⟨G, ds, hg, hq⟩ := hq
    have hres : (results fn a.tmps).run P w' = .ok (.tuple #[]) w' := run_results (rs := []) (vs := []) hr (by decide) hg trivial
    cases e with
    | normal => exact ⟨hg.defers.trans hq.1, _, rfl, _, hres, ⟨_, rfl⟩, rfl, hq.2⟩
    | ret => exact ⟨hg.defers.trans hq.1, _, rfl, _, hres, ⟨_, rfl⟩, rfl, hq.2⟩
    | exit i => exact hq.elim
    | goto l => exact hq.elim
    | panic ch => exact hq.elim
    | outgrown => exact hq.elim
  have hrun : ∀ ρ, (execOp ρ ⟨some d, .call { callee := .builtin .recover, args := #[], argTypes := #[] }, ts, ps, af, none⟩).run P w = .ok .recover w := fun ρ => by
    simp [execOp, resolve, invoke, builtin]
  have hz : List.range (#[(⟨some d, .call { callee := .builtin .recover, args := #[], argTypes := #[] }, ts, ps, af, none⟩ : Oper)]).size = [0] := rfl
  rw [hz]
  unfold wpOpsSIn
  simp only [List.getElem?_toArray, List.getElem?_cons_zero]
  refine ⟨fun _ _ => trivial, ?_⟩
  rw [if_pos (wanted_none rfl _), hrun]
  rcases hrec with ⟨hu, hu'⟩ | ⟨hu, hu', hv⟩
  · have hrc : recoverD (c₀ :: cs) = some (rv, { c₀ with mode := u' } :: cs) := by
      simp only [recoverD, hc, hu, hu']
    rw [hrc]
    exact key _ ⟨_, rfl, rfl⟩
  · have hrc : recoverD (c₀ :: cs) = none := by
      simp only [recoverD, hc, hu]
    rw [hrc]
    subst hv
    have hsame : c₀ :: cs = { c₀ with mode := u' } :: cs := by rw [hu', ← hc]
    show Exit.thenS _ _ _ _ _ _
    rw [hsame]
    exact key _ ⟨_, rfl, rfl⟩
/-! ### Values of an interface type -/
theorem P_ifnil {t t' : TypeId} {x : Operand} {v : Value} {r : Bool} {ms : Array (String × TypeId)} (hx : ev F x = v) (ht : P.underlying t = some (.interface ms)) (hv : (v = .nilIface ∧ r = true) ∨ ∃ u z, v = .iface u z ∧ r = false) : Pu P F (.binOp .eql t x (.const .nilIface) t') ty (.bool r) :=
  fun _ _ _ w => by
    have hg : (eqGuard .eql t x (.const .nilIface) v .nilIface).run P w = .ok () w := by
      rcases hv with ⟨rfl, _⟩ | ⟨u, z, rfl, _⟩ <;> simp [eqGuard]
    have h : ∀ d : Nat, (Op.equalIn (d + 1) t v .nilIface).run P w = .ok r w := fun d => by
      rcases hv with ⟨rfl, rfl⟩ | ⟨u, z, rfl, rfl⟩ <;> simp [Op.equalIn, run_underlying ht]
    have h2 : (Op.equal t v .nilIface).run P w = .ok r w := by simp [Op.equal, Op.maxDepth, h 9999]
    have hb : (binOp .eql t v .nilIface).run P w = .ok (.bool r) w := by
      rcases hv with ⟨rfl, rfl⟩ | ⟨u, z, rfl, rfl⟩ <;> (simp only [binOp, Sem.run_bind, h2]; rfl)
    exact bin_run hx rfl hg hb
theorem P_iface {t : TypeId} {x : Operand} {u : TypeDesc} {v : Value} (hx : ev F x = v) (ht : P.underlying t = some u) (hu : ∀ ms, u ≠ .interface ms) : Pu P F (.makeInterface t x) ty (.iface t v) :=
  fun _ _ _ w => by
    cases u <;> first | exact absurd rfl (hu _) | simp [execOp, hx, Instr.makeInterface, run_underlying ht]
theorem P_assert {t a : TypeId} {x : Operand} {u : TypeDesc} {v : Value} (hx : ev F x = .iface a v) (ht : P.underlying a = some u) (hu : ∀ ms, u ≠ .interface ms) : Pu P F (.typeAssert x t a true) ty (.tuple #[v, .bool true]) :=
  fun _ _ _ w => by
    cases u <;> first | exact absurd rfl (hu _) | simp [execOp, hx, Instr.typeAssert, run_underlying ht]
end fail
end Sx
end Go.Proofs.Ytoljcnlmockpcaa
