/- A small calculus of our own for stepping through the code of a Go function, over any program: frames as functions of slots, one rule for each form of code. No program in sight. -/
import Derived.WalkKit
import Derived.TacticsIn
import Derived.RangeFuncCalls
namespace Go.Proofs.Ytoljcnlmockpcaa
namespace Sx
open Go Go.RowKit

abbrev Fr := Nat → Value
abbrev St := List (Nat × Value)
def upd (F : Fr) (d : Nat) (v : Value) (i : Nat) : Value := bif Nat.beq i d then v else F i
def updO (F : Fr) : Option Nat → Value → Fr
  | some d, v => upd F d v
  | none, _ => F
/-- The frame that holds what the list says, and J elsewhere. -/
def fr (J : Fr) : St → Fr
  | [], i => J i
  | (d, v) :: l, i => bif Nat.beq i d then v else fr J l i
/-- The frame of a function that is entered with these arguments. -/
def start : List Value → Fr
  | [], _ => undef
  | v :: _, 0 => v
  | _ :: l, i + 1 => start l i
def ev (F : Fr) : Operand → Value
  | .tmp t => F t
  | .const v => v
  | .global g => .pointer (some ⟨g, 0, none⟩)
  | .func f => .func (.func f) #[] #[]
def evs (F : Fr) : List Operand → List Value
  | [] => []
  | x :: l => ev F x :: evs F l
def Has (F : Fr) : St → Prop
  | [] => True
  | (i, v) :: l => F i = v ∧ Has F l

structure Fits (n : Nat) (F : Fr) (ds : List Deferred) (a : Act) : Prop where
  size : a.tmps.size = n
  defers : a.defers = ds
  slot : ∀ i, a.tmps.getD i undef = F i

abbrev Post := Exit → Fr → List Deferred → World → Prop
def lift (n : Nat) (Q : Post) : Exit → Act → World → Prop := fun e a w => ∃ F ds, Fits n F ds a ∧ Q e F ds w
/-- The wide fence; in a round of a loop over a function, that round's. -/
def E : Option Nat → Fence
  | none => Fence.wide
  | some l => Fence.wide.inRound l
theorem E_fn (rd : Option Nat) (f : Nat) : (E rd).fn f := by cases rd <;> exact trivial
theorem E_depth (rd : Option Nat) : (E rd).depth = none := by cases rd <;> rfl
theorem E_room (rd : Option Nat) (m : Nat) : (E rd).room m := fun d h => by rw [E_depth] at h; cases h
theorem E_round (rd : Option Nat) : (E rd).round = rd := by cases rd <;> rfl
theorem E_one (rd : Option Nat) (m : Nat) : (E rd).depth.isSome = true → 1 ≤ m := fun h => by rw [E_depth] at h; cases h
theorem E_calls {rd : Option Nat} {m : Nat} {P : Program} {f : FuncId} {args : Array Value} {w : World} {R : Ending → World → Prop} : CallsIn (E rd) m P f args w R ↔ Calls P f args w R := by
  cases rd with
  | none => exact callsIn_wide
  | some l => exact callsIn_wide (n := m)
def W (P : Program) (rd : Option Nat) (n : Nat) (c : Code) (Q : Post) (F : Fr) (ds : List Deferred) (w : World) : Prop := ∀ m a, Fits n F ds a → c.wpIn (E rd) m P (lift n Q) a w
def Lst (P : Program) (rd : Option Nat) (n : Nat) (ops : Array Oper) (Q : Post) (rest : List Oper) (F : Fr) (ds : List Deferred) (w : World) : Prop :=
  ∀ m a, Fits n F ds a → wpListIn (E rd) m P ops (lift n Q) rest a w

def okd (n : Nat) : Option Nat → Bool
  | none => true
  | some d => Nat.blt d n

section core
variable {P : Program} {rd : Option Nat} {n : Nat} {Q : Post} {F : Fr} {ds : List Deferred} {w : World} {a : Act}

theorem beq_ne {i d : Nat} (e : ¬ i = d) : Nat.beq i d = false := by
  cases h : Nat.beq i d with
  | false => rfl
  | true => exact absurd (Nat.eq_of_beq_eq_true h) e
theorem Fits.eval (h : Fits n F ds a) : a.eval = ev F := by
  funext x
  cases x with
  | tmp t => exact h.slot t
  | _ => rfl

theorem getD_set (t : Array Value) (d i : Nat) (v : Value) (hd : d < t.size) : (t.setIfInBounds d v).getD i undef = if i = d then v else t.getD i undef := by
  by_cases h : i = d
  · subst h
    simp [Array.getD, hd]
  · by_cases hi : i < t.size
    · simp [Array.getD, hi, h, Array.getElem_setIfInBounds_ne, Ne.symm h]
    · simp [Array.getD, hi, h]

theorem Fits.put (h : Fits n F ds a) {o : Option Nat} (v : Value) (hd : okd n o = true) : Fits n (updO F o v) ds (a.put o v) := by
  cases o with
  | none => exact h
  | some d =>
    have hd' : d < a.tmps.size := by rw [h.size]; simpa [okd] using hd
    refine ⟨by simp [Act.put, h.size], h.defers, fun i => ?_⟩
    show (a.tmps.setIfInBounds d v).getD i undef = upd F d v i
    rw [getD_set _ _ _ _ hd', h.slot]
    unfold upd
    by_cases e : i = d
    · subst e; simp
    · simp [e, beq_ne e]

theorem Fits.congr {G : Fr} (h : Fits n F ds a) (e : ∀ i, F i = G i) : Fits n G ds a := ⟨h.size, h.defers, fun i => (h.slot i).trans (e i)⟩

theorem fr_has {F : Fr} : ∀ {l : St}, Has F l → ∀ i, F i = fr F l i
  | [], _, _ => rfl
  | (d, v) :: l, h, i => by
    unfold fr
    by_cases e : i = d
    · subst e
      simp [h.1]
    · rw [beq_ne e]
      exact fr_has h.2 i

/-! ### Forms of code -/
theorem W_skip (h : Q .normal F ds w) : W P rd n .skip Q F ds w := fun _ _ hf => wpIn_skip ⟨F, ds, hf, h⟩
theorem W_label {l : Nat} (h : Q .normal F ds w) : W P rd n (.label l) Q F ds w := fun _ _ hf => wpIn_label ⟨F, ds, hf, h⟩
theorem W_exit {i : Nat} (h : Q (.exit i) F ds w) : W P rd n (.exit i) Q F ds w := fun _ _ hf => wpIn_exit ⟨F, ds, hf, h⟩
theorem W_ret (h : Q .ret F ds w) : W P rd n .ret Q F ds w := fun _ _ hf => wpIn_ret ⟨F, ds, hf, h⟩

def seqQ (P : Program) (rd : Option Nat) (n : Nat) (y : Code) (Q : Post) : Post
  | .normal, F, ds, w => W P rd n y Q F ds w
  | e, F, ds, w => Q e F ds w
theorem seqQ_n {y : Code} (h : W P rd n y Q F ds w) : seqQ P rd n y Q .normal F ds w := h
theorem seqQ_r {y : Code} (h : Q .ret F ds w) : seqQ P rd n y Q .ret F ds w := h
theorem seqQ_e {y : Code} {i : Nat} (h : Q (.exit i) F ds w) : seqQ P rd n y Q (.exit i) F ds w := h
theorem W_seq {x y : Code} (h : W P rd n x (seqQ P rd n y Q) F ds w) : W P rd n (.seq x y) Q F ds w := fun m a hf =>
  wpIn_seq (Code.wpIn_mono (fun e a w hq => by
    obtain ⟨G, ds', hg, hq⟩ := hq
    cases e with
    | normal => exact hq m a hg
    | _ => exact ⟨G, ds', hg, hq⟩) (h m a hf))

def blkQ (id : Nat) (Q : Post) : Post
  | .exit i, F, ds, w => bif Nat.beq i id then Q .normal F ds w else Q (.exit i) F ds w
  | e, F, ds, w => Q e F ds w
theorem blkQ_n {id : Nat} (h : Q .normal F ds w) : blkQ id Q .normal F ds w := h
theorem blkQ_r {id : Nat} (h : Q .ret F ds w) : blkQ id Q .ret F ds w := h
theorem blkQ_e {id : Nat} (h : Q .normal F ds w) : blkQ id Q (.exit id) F ds w := by simp [blkQ, h]
theorem blkQ_o {id i : Nat} (hn : Nat.beq i id = false) (h : Q (.exit i) F ds w) : blkQ id Q (.exit i) F ds w := by simp [blkQ, hn, h]
theorem W_block {id : Nat} {c : Code} (h : W P rd n c (blkQ id Q) F ds w) : W P rd n (.block id c) Q F ds w := fun m a hf =>
  wpIn_block (Code.wpIn_mono (fun e a w hq => by
    obtain ⟨G, ds', hg, hq⟩ := hq
    cases e with
    | exit i =>
      unfold Exit.inBlock
      by_cases e : i = id
      · subst e
        simp only [if_true]
        exact ⟨G, ds', hg, by simpa [blkQ] using hq⟩
      · have hb := beq_ne e
        simp only [if_neg e]
        exact ⟨G, ds', hg, by simpa [blkQ, hb] using hq⟩
    | _ => exact ⟨G, ds', hg, hq⟩) (h m a hf))

theorem W_cond {c : Operand} {x y : Code} (b : Bool) (hc : ev F c = .bool b) (ht : b = true → W P rd n x Q F ds w) (hf : b = false → W P rd n y Q F ds w) : W P rd n (.cond c x y) Q F ds w := fun m a hF => by
  refine wpIn_cond_split (t := b) (by rw [hF.eval]; exact hc) (fun h => ht h m a hF) (fun h => hf h m a hF)
theorem W_cond_t {c : Operand} {x y : Code} (hc : ev F c = .bool true) (h : W P rd n x Q F ds w) : W P rd n (.cond c x y) Q F ds w :=
  W_cond true hc (fun _ => h) (fun e => by cases e)
theorem W_cond_f {c : Operand} {x y : Code} (hc : ev F c = .bool false) (h : W P rd n y Q F ds w) : W P rd n (.cond c x y) Q F ds w :=
  W_cond false hc (fun e => by cases e) (fun _ => h)

theorem W_region {id : Nat} {l : List Oper} (h : Lst P rd n l.toArray Q l F ds w) : W P rd n (.region id l.toArray false) Q F ds w := fun m a hf => wpIn_region_lit (h m a hf)

/-- A cut: behind x a fact on the world and the slots that are named; all else of the frame is forgotten. -/
def cutQ {α : Type} (vals : α → St) (M : α → World → Prop) (Q : Post) (ds : List Deferred) : Post
  | .normal, F, ds', w => ds' = ds ∧ ∃ x, M x w ∧ Has F (vals x)
  | e, F, ds', w => Q e F ds' w
theorem cutQ_n {α : Type} {vals : α → St} {M : α → World → Prop} (x : α) (h : M x w) (hv : Has F (vals x)) : cutQ vals M Q ds .normal F ds w := ⟨rfl, x, h, hv⟩
theorem cutQ_r {α : Type} {vals : α → St} {M : α → World → Prop} {ds' : List Deferred} (h : Q .ret F ds w) : cutQ vals M Q ds' .ret F ds w := h
theorem cutQ_e {α : Type} {vals : α → St} {M : α → World → Prop} {ds' : List Deferred} {i : Nat} (h : Q (.exit i) F ds w) : cutQ vals M Q ds' (.exit i) F ds w := h
theorem W_cut {α : Type} (vals : α → St) (M : α → World → Prop) {x y : Code} (h1 : W P rd n x (cutQ vals M Q ds) F ds w)
    (h2 : ∀ (J : Fr) (g : α) (w' : World), M g w' → W P rd n y Q (fr J (vals g)) ds w') : W P rd n (.seq x y) Q F ds w := fun m a hf =>
  wpIn_seq (Code.wpIn_mono (fun e a w hq => by
    obtain ⟨G, ds', hg, hq⟩ := hq
    cases e with
    | normal =>
      obtain ⟨rfl, g, hm, hv⟩ := hq
      exact h2 G g w hm m a (hg.congr (fr_has hv))
    | _ => exact ⟨G, ds', hg, hq⟩) (h1 m a hf))

theorem loop_ghost {β : Type} {N : Fence} {m : Nat} {c : Code} {Q : Exit → Act → World → Prop} (I : β → Act → World → Prop) (μ : β → World → Nat)
    (round : ∀ x a w, I x a w → c.wpIn N m P (Exit.then (fun a' w' => ∃ x', I x' a' w' ∧ μ x' w' < μ x w) Q) a w) : ∀ x a w, I x a w → (Code.loop c).wpIn N m P Q a w := by
  intro x a w h₀ b k cs hro hb hr
  have key : ∀ j x a w, μ x w = j → I x a w → ∃ e a' w', Q e a' w' ∧ ArrivesIn (Machine.fenced P N) P (lone (b.atR a (.code c :: .inLoop c :: k)) cs w) b k cs e a' w' := by
    intro j
    induction j using Nat.strongRecOn with
    | _ j ih =>
      intro x a w hn hI
      obtain ⟨e, a₁, w₁, hq, harr⟩ := round x a w hI b (.inLoop c :: k) cs hro hb hr
      cases e with
      | normal =>
        obtain ⟨x', hI₁, hlt⟩ := hq
        obtain ⟨e₂, a₂, w₂, hq₂, harr₂⟩ := ih (μ x' w₁) (hn ▸ hlt) x' a₁ w₁ rfl hI₁
        exact ⟨e₂, a₂, w₂, hq₂, .of_steps (StepsIn.trans harr (.one (fenced_calm hb hr rfl) stepR_inLoop)) harr₂⟩
      | _ => exact ⟨_, a₁, w₁, hq, .pass (x := .inLoop c) rfl (fun _ _ => .inl (by simp)) harr⟩
  obtain ⟨e, a', w', hq, harr⟩ := key _ x a w rfl h₀
  exact ⟨e, a', w', hq, .of_steps (.one (fenced_calm hb hr rfl) stepR_loop) harr⟩

/-- Behind a round: the relation at another ghost, with a smaller measure. -/
def rndQ {α : Type} (vals : α → St) (I : α → World → Prop) (μ : α → World → Nat) (m : Nat) (Q : Post) (ds : List Deferred) : Post
  | .normal, F, ds', w => ds' = ds ∧ ∃ x, I x w ∧ Has F (vals x) ∧ μ x w < m
  | e, F, ds', w => Q e F ds' w
theorem rndQ_n {α : Type} {vals : α → St} {I : α → World → Prop} {μ : α → World → Nat} {m : Nat} (x : α) (h : I x w) (hv : Has F (vals x)) (hm : μ x w < m) : rndQ vals I μ m Q ds .normal F ds w := ⟨rfl, x, h, hv, hm⟩
theorem rndQ_r {α : Type} {vals : α → St} {I : α → World → Prop} {μ : α → World → Nat} {m : Nat} {ds' : List Deferred} (h : Q .ret F ds w) : rndQ vals I μ m Q ds' .ret F ds w := h
theorem rndQ_e {α : Type} {vals : α → St} {I : α → World → Prop} {μ : α → World → Nat} {m : Nat} {ds' : List Deferred} {i : Nat} (h : Q (.exit i) F ds w) : rndQ vals I μ m Q ds' (.exit i) F ds w := h
theorem W_loop {α : Type} (vals : α → St) (I : α → World → Prop) (μ : α → World → Nat) {c : Code} (x0 : α) (h0 : I x0 w) (hv : Has F (vals x0))
    (round : ∀ (J : Fr) (x : α) (w' : World), I x w' → W P rd n c (rndQ vals I μ (μ x w') Q ds) (fr J (vals x)) ds w') : W P rd n (.loop c) Q F ds w := fun m a hf =>
  loop_ghost (β := α) (fun x a w => I x w ∧ ∃ G, Fits n G ds a ∧ Has G (vals x)) μ (fun x a w hx => by
    obtain ⟨hI, G, hg, hG⟩ := hx
    refine Code.wpIn_mono (fun e a w hq => ?_) (round G x w hI m a (hg.congr (fr_has hG)))
    obtain ⟨G', ds', hg', hq⟩ := hq
    cases e with
    | normal =>
      obtain ⟨rfl, x', hI', hv', hm⟩ := hq
      exact ⟨x', ⟨hI', G', hg', hv'⟩, hm⟩
    | _ => exact ⟨G', ds', hg', hq⟩) x0 a w ⟨h0, F, hf, hv⟩

/-! ### Functions -/
def Enters (P : Program) (f : Nat) : Prop := ∀ args w, (callFunc f args).run P w = .ok (.enter f args) w
/-- The function returns, and what it returns and leaves fulfils R. -/
def Does (P : Program) (f : Nat) (args : Array Value) (w : World) (R : Value → World → Prop) : Prop :=
  Enters P f ∧ Calls P f args w fun e w' => ∃ v, e = .returned v ∧ R v w'
theorem Does.mono {f : Nat} {args : Array Value} {R R' : Value → World → Prop} (h : Does P f args w R) (hr : ∀ v w', R v w' → R' v w') : Does P f args w R' :=
  ⟨h.1, h.2.mono fun _ _ ⟨v, e, r⟩ => ⟨v, e, hr v _ r⟩⟩

theorem enters_of {f : Nat} {fn : Func} {c : Code} (hf : P.funcs[f]? = some fn) (hname : (fn.name == "runtime.NumGoroutine") = false) (hb : fn.body = some c) : Enters P f := by
  intro args w
  have h1 : fn.name ≠ "runtime.NumGoroutine" := by simpa using hname
  simp [callFunc, hf, h1, hb, mark]

def retV (F : Fr) (P : Program) (w : World) : List ResultVar → List Value → Prop
  | [], [] => True
  | .tmp t :: l, v :: vs => F t = v ∧ retV F P w l vs
  | .cell a t :: l, v :: vs => (∃ p, F a = .pointer (some p) ∧ (loadVar t p).run P w = .ok v w) ∧ retV F P w l vs
  | _, _ => False
def oneOrMore : List Value → Value
  | [v] => v
  | vs => .tuple vs.toArray
def retQ (P : Program) (rs : List ResultVar) (R : Value → World → Prop) : Post
  | .ret, F, ds, w | .normal, F, ds, w => ds = [] ∧ ∃ vs, retV F P w rs vs ∧ R (oneOrMore vs) w
  | _, _, _, _ => False
theorem retQ0 {R : Value → World → Prop} (h : R (.tuple #[]) w) : retQ P [] R .ret F [] w := ⟨rfl, [], trivial, h⟩
theorem retQ0n {R : Value → World → Prop} (h : R (.tuple #[]) w) : retQ P [] R .normal F [] w := ⟨rfl, [], trivial, h⟩
theorem retQ1 {R : Value → World → Prop} {t : Nat} {v : Value} (hv : F t = v) (h : R v w) : retQ P [.tmp t] R .ret F [] w := ⟨rfl, [v], ⟨hv, trivial⟩, h⟩
theorem retQ2 {R : Value → World → Prop} {t u : Nat} {v x : Value} (hv : F t = v) (hx : F u = x) (h : R (.tuple #[v, x]) w) : retQ P [.tmp t, .tmp u] R .ret F [] w := ⟨rfl, [v, x], ⟨hv, hx, trivial⟩, h⟩
theorem retQ3 {R : Value → World → Prop} {t u s : Nat} {v x y : Value} (hv : F t = v) (hx : F u = x) (hy : F s = y) (h : R (.tuple #[v, x, y]) w) : retQ P [.tmp t, .tmp u, .tmp s] R .ret F [] w := ⟨rfl, [v, x, y], ⟨hv, hx, hy, trivial⟩, h⟩

def rvRun (tmps : Array Value) : ResultVar → Sem Value
  | .tmp t => pure (tmps.getD t undef)
  | .cell a t => do loadVar t (← asAddr (tmps.getD a undef))
theorem run_resultVar {tmps : Array Value} (hs : ∀ i, tmps.getD i undef = F i) {r : ResultVar} {v : Value} (h : retV F P w [r] [v]) :
    (rvRun tmps r).run P w = .ok v w := by
  cases r with
  | tmp t =>
    have h1 : tmps.getD t undef = v := (hs t).trans h.1
    simp only [rvRun, h1, Sem.run_pure]
  | cell a t =>
    obtain ⟨⟨p, h1, h2⟩, _⟩ := h
    have h1 : tmps.getD a undef = .pointer (some p) := (hs a).trans h1
    simp only [rvRun, h1, asAddr, Sem.run_bind, Sem.run_pure, Result.andThen, h2]
theorem results_eq (fn : Func) (tmps : Array Value) : results fn tmps = (do let vs ← fn.results.mapM (rvRun tmps); pure (if h : vs.size = 1 then vs[0] else .tuple vs)) := by
  unfold results
  congr 2
theorem retV_one {r : ResultVar} {l : List ResultVar} {v : Value} {vs : List Value} (h : retV F P w (r :: l) (v :: vs)) : retV F P w [r] [v] ∧ retV F P w l vs := by
  cases r with
  | tmp t => exact ⟨⟨h.1, trivial⟩, h.2⟩
  | cell a t => exact ⟨⟨h.1, trivial⟩, h.2⟩
theorem retV_nil {r : ResultVar} {l : List ResultVar} (h : retV F P w (r :: l) []) : False := by cases r <;> exact h.elim
theorem retV_len : ∀ {l : List ResultVar} {vs : List Value}, retV F P w l vs → l.length = vs.length
  | [], [], _ => rfl
  | _ :: _, _ :: _, h => by simp [retV_len (retV_one h).2]
  | [], _ :: _, h => h.elim
  | _ :: _, [], h => (retV_nil h).elim
theorem run_results {fn : Func} {rs : List ResultVar} {vs : List Value} (hr : fn.results = rs.toArray) (h4 : rs.length ≤ 4) (hf : Fits n F ds a) (h : retV F P w rs vs) :
    (results fn a.tmps).run P w = .ok (oneOrMore vs) w := by
  have hl := retV_len h
  rw [results_eq, hr]
  match rs, vs, hl, h4, h with
  | [], [], _, _, _ => simp [oneOrMore]
  | [r], [v], _, _, h =>
    have h1 := run_resultVar hf.slot h
    simp only [List.mapM_toArray, List.mapM_cons, List.mapM_nil, Sem.run_bind, Sem.run_pure, Sem.run_map, h1, Result.andThen]
    rfl
  | [r, s], [v, x], _, _, h =>
    have h1 := run_resultVar hf.slot (retV_one h).1
    have h2 := run_resultVar hf.slot (retV_one h).2
    simp only [List.mapM_toArray, List.mapM_cons, List.mapM_nil, Sem.run_bind, Sem.run_pure, Sem.run_map, h1, h2, Result.andThen]
    rfl
  | [r, s, t], [v, x, y], _, _, h =>
    have h1 := run_resultVar hf.slot (retV_one h).1
    have h2 := run_resultVar hf.slot (retV_one (retV_one h).2).1
    have h3 := run_resultVar hf.slot (retV_one (retV_one h).2).2
    simp only [List.mapM_toArray, List.mapM_cons, List.mapM_nil, Sem.run_bind, Sem.run_pure, Sem.run_map, h1, h2, h3, Result.andThen]
    rfl
  | [r, s, t, u], [v, x, y, z], _, _, h =>
    have h1 := run_resultVar hf.slot (retV_one h).1
    have h2 := run_resultVar hf.slot (retV_one (retV_one h).2).1
    have h3 := run_resultVar hf.slot (retV_one (retV_one (retV_one h).2).2).1
    have h4 := run_resultVar hf.slot (retV_one (retV_one (retV_one h).2).2).2
    simp only [List.mapM_toArray, List.mapM_cons, List.mapM_nil, Sem.run_bind, Sem.run_pure, Sem.run_map, h1, h2, h3, h4, Result.andThen]
    rfl

theorem start_at : ∀ (args : List Value) (m i : Nat), ((args ++ List.replicate m undef)[i]?).getD undef = start args i
  | [], m, i => by
    rw [List.nil_append]
    unfold start
    by_cases h : i < m
    · simp [h]
    · simp [h]
  | v :: l, m, 0 => rfl
  | v :: l, m, i + 1 => by
    have := start_at l m i
    simpa [start] using this
theorem start_eq (args : List Value) (m : Nat) (i : Nat) : (args.toArray ++ Array.replicate m undef).getD i undef = start args i := by
  rw [← start_at args m i]
  have : args.toArray ++ Array.replicate m undef = (args ++ List.replicate m undef).toArray := by simp
  rw [this]
  simp [Array.getD]
  split <;> simp_all

theorem Does_of {f : Nat} {fn : Func} {c : Code} {rs : List ResultVar} {args : List Value} {R : Value → World → Prop} (hf : P.funcs[f]? = some fn) (hname : (fn.name == "runtime.NumGoroutine") = false)
    (hb : fn.body = some c) (hr : fn.results = rs.toArray) (hn : fn.ntmps = n) (hl : Nat.ble args.length n = true) (h4 : Nat.ble rs.length 4 = true) (h : W P none n c (retQ P rs R) (start args) [] w) : Does P f args.toArray w R := by
  refine ⟨enters_of hf hname hb, ?_⟩
  refine calls_of_wp hf hb ?_
  have hl' : args.length ≤ n := by simpa using hl
  refine Code.wp_mono (fun e a w hq => ?_) (wpIn_wide.1 (h 0 _ ⟨by simp [hn]; omega, rfl, fun i => start_eq args _ i⟩))
  obtain ⟨G, ds, hg, hq⟩ := hq
  cases e with
  | normal =>
    obtain ⟨rfl, vs, hv, hR⟩ := hq
    exact ⟨hg.defers, _, run_results hr (by simpa using h4) hg hv, _, rfl, hR⟩
  | ret =>
    obtain ⟨rfl, vs, hv, hR⟩ := hq
    exact ⟨hg.defers, _, run_results hr (by simpa using h4) hg hv, _, rfl, hR⟩
  | exit i => exact hq.elim
  | goto l => exact hq.elim
  | panic ch => exact hq.elim
  | outgrown => exact hq.elim
end core
end Sx
end Go.Proofs.Ytoljcnlmockpcaa
