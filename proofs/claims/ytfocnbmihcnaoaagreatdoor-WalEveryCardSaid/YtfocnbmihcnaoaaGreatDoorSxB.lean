/- Our calculus of walks: forms of code, operations. Over any program. -/
import Derived.WalkKit
import Derived.TacticsIn
import Derived.RangeFuncCalls
import Derived.RangeFuncRecord
import Derived.IntWalk
import Derived.Laws.BitsLemmas
import Derived.Laws.BitsAllLaws
namespace Go.Proofs.YtfocnbmihcnaoaaGreatDoor
namespace Sx
open Go Go.RowKit

abbrev Fr := Nat → Value
abbrev St := List (Nat × Value)
def upd (F : Fr) (d : Nat) (v : Value) (i : Nat) : Value := bif Nat.beq i d then v else F i
def updO (F : Fr) : Option Nat → Value → Fr
  | some d, v => upd F d v
  | none, _ => F
/-- The frame that holds what the list says, and J elsewhere. -/
def fr (J : Fr) : St → Fr
  | [], i => J i
  | (d, v) :: l, i => bif Nat.beq i d then v else fr J l i
/-- The frame of a function that is entered with these arguments. -/
def start : List Value → Fr
  | [], _ => undef
  | v :: _, 0 => v
  | _ :: l, i + 1 => start l i
def ev (F : Fr) : Operand → Value
  | .tmp t => F t
  | .const v => v
  | .global g => .pointer (some ⟨g, 0, none⟩)
  | .func f => .func (.func f) #[] #[]
def evs (F : Fr) : List Operand → List Value
  | [] => []
  | x :: l => ev F x :: evs F l
def Has (F : Fr) : St → Prop
  | [] => True
  | (i, v) :: l => F i = v ∧ Has F l

structure Fits (n : Nat) (F : Fr) (ds : List Deferred) (a : Act) : Prop where
  size : a.tmps.size = n
  defers : a.defers = ds
  slot : ∀ i, a.tmps.getD i undef = F i

abbrev Post := Exit → Fr → List Deferred → World → Prop
def lift (n : Nat) (Q : Post) : Exit → Act → World → Prop := fun e a w => ∃ F ds, Fits n F ds a ∧ Q e F ds w
/-- The wide fence; in a round of a loop over a function, that round's. -/
def E : Option Nat → Fence
  | none => Fence.wide
  | some l => Fence.wide.inRound l
theorem E_fn (rd : Option Nat) (f : Nat) : (E rd).fn f := by cases rd <;> exact trivial
theorem E_depth (rd : Option Nat) : (E rd).depth = none := by cases rd <;> rfl
theorem E_room (rd : Option Nat) (m : Nat) : (E rd).room m := fun d h => by rw [E_depth] at h; cases h
theorem E_round (rd : Option Nat) : (E rd).round = rd := by cases rd <;> rfl
theorem E_one (rd : Option Nat) (m : Nat) : (E rd).depth.isSome = true → 1 ≤ m := fun h => by rw [E_depth] at h; cases h
theorem E_calls {rd : Option Nat} {m : Nat} {P : Program} {f : FuncId} {args : Array Value} {w : World} {R : Ending → World → Prop} : CallsIn (E rd) m P f args w R ↔ Calls P f args w R := by
  cases rd with
  | none => exact callsIn_wide
  | some l => exact callsIn_wide (n := m)
def W (P : Program) (rd : Option Nat) (n : Nat) (c : Code) (Q : Post) (F : Fr) (ds : List Deferred) (w : World) : Prop := ∀ m a, Fits n F ds a → c.wpIn (E rd) m P (lift n Q) a w
def Lst (P : Program) (rd : Option Nat) (n : Nat) (ops : Array Oper) (Q : Post) (rest : List Oper) (F : Fr) (ds : List Deferred) (w : World) : Prop :=
  ∀ m a, Fits n F ds a → wpListIn (E rd) m P ops (lift n Q) rest a w

def okd (n : Nat) : Option Nat → Bool
  | none => true
  | some d => Nat.blt d n

section core
variable {P : Program} {rd : Option Nat} {n : Nat} {Q : Post} {F : Fr} {ds : List Deferred} {w : World} {a : Act}

theorem beq_ne {i d : Nat} (e : ¬ i = d) : Nat.beq i d = false := by
  cases h : Nat.beq i d with
  | false => rfl
  | true => exact absurd (Nat.eq_of_beq_eq_true h) e
theorem Fits.eval (h : Fits n F ds a) : a.eval = ev F := by
  funext x
  cases x with
  | tmp t => exact h.slot t
  | _ => rfl

theorem getD_set (t : Array Value) (d i : Nat) (v : Value) (hd : d < t.size) : (t.setIfInBounds d v).getD i undef = if i = d then v else t.getD i undef := by
  by_cases h : i = d
  · subst h
    simp [Array.getD, hd]
  · by_cases hi : i < t.size
    · simp [Array.getD, hi, h, Array.getElem_setIfInBounds_ne, Ne.symm h]
    · simp [Array.getD, hi, h]

theorem Fits.put (h : Fits n F ds a) {o : Option Nat} (v : Value) (hd : okd n o = true) : Fits n (updO F o v) ds (a.put o v) := by
  cases o with
  | none => exact h
  | some d =>
    have hd' : d < a.tmps.size := by rw [h.size]; simpa [okd] using hd
    refine ⟨by simp [Act.put, h.size], h.defers, fun i => ?_⟩
    show (a.tmps.setIfInBounds d v).getD i undef = upd F d v i
    rw [getD_set _ _ _ _ hd', h.slot]
    unfold upd
    by_cases e : i = d
    · subst e; simp
    · simp [e, beq_ne e]

theorem Fits.congr {G : Fr} (h : Fits n F ds a) (e : ∀ i, F i = G i) : Fits n G ds a := ⟨h.size, h.defers, fun i => (h.slot i).trans (e i)⟩

theorem fr_has {F : Fr} : ∀ {l : St}, Has F l → ∀ i, F i = fr F l i
  | [], _, _ => rfl
  | (d, v) :: l, h, i => by
    unfold fr
    by_cases e : i = d
    · subst e
      simp [h.1]
    · rw [beq_ne e]
      exact fr_has h.2 i

/-! ### Forms of code -/
theorem W_skip (h : Q .normal F ds w) : W P rd n .skip Q F ds w := fun _ _ hf => wpIn_skip ⟨F, ds, hf, h⟩
theorem W_label {l : Nat} (h : Q .normal F ds w) : W P rd n (.label l) Q F ds w := fun _ _ hf => wpIn_label ⟨F, ds, hf, h⟩
theorem W_exit {i : Nat} (h : Q (.exit i) F ds w) : W P rd n (.exit i) Q F ds w := fun _ _ hf => wpIn_exit ⟨F, ds, hf, h⟩
theorem W_ret (h : Q .ret F ds w) : W P rd n .ret Q F ds w := fun _ _ hf => wpIn_ret ⟨F, ds, hf, h⟩

def seqQ (P : Program) (rd : Option Nat) (n : Nat) (y : Code) (Q : Post) : Post
  | .normal, F, ds, w => W P rd n y Q F ds w
  | e, F, ds, w => Q e F ds w
theorem seqQ_n {y : Code} (h : W P rd n y Q F ds w) : seqQ P rd n y Q .normal F ds w := h
theorem seqQ_r {y : Code} (h : Q .ret F ds w) : seqQ P rd n y Q .ret F ds w := h
theorem seqQ_e {y : Code} {i : Nat} (h : Q (.exit i) F ds w) : seqQ P rd n y Q (.exit i) F ds w := h
theorem W_seq {x y : Code} (h : W P rd n x (seqQ P rd n y Q) F ds w) : W P rd n (.seq x y) Q F ds w := fun m a hf =>
  wpIn_seq (Code.wpIn_mono (fun e a w hq => by
    obtain ⟨G, ds', hg, hq⟩ := hq
    cases e with
    | normal => exact hq m a hg
    | _ => exact ⟨G, ds', hg, hq⟩) (h m a hf))

def blkQ (id : Nat) (Q : Post) : Post
  | .exit i, F, ds, w => bif Nat.beq i id then Q .normal F ds w else Q (.exit i) F ds w
  | e, F, ds, w => Q e F ds w
theorem blkQ_n {id : Nat} (h : Q .normal F ds w) : blkQ id Q .normal F ds w := h
theorem blkQ_r {id : Nat} (h : Q .ret F ds w) : blkQ id Q .ret F ds w := h
theorem blkQ_e {id : Nat} (h : Q .normal F ds w) : blkQ id Q (.exit id) F ds w := by simp [blkQ, h]
theorem blkQ_o {id i : Nat} (hn : Nat.beq i id = false) (h : Q (.exit i) F ds w) : blkQ id Q (.exit i) F ds w := by simp [blkQ, hn, h]
theorem W_block {id : Nat} {c : Code} (h : W P rd n c (blkQ id Q) F ds w) : W P rd n (.block id c) Q F ds w := fun m a hf =>
  wpIn_block (Code.wpIn_mono (fun e a w hq => by
    obtain ⟨G, ds', hg, hq⟩ := hq
    cases e with
    | exit i =>
      unfold Exit.inBlock
      by_cases e : i = id
      · subst e
        simp only [if_true]
        exact ⟨G, ds', hg, by simpa [blkQ] using hq⟩
      · have hb := beq_ne e
        simp only [if_neg e]
        exact ⟨G, ds', hg, by simpa [blkQ, hb] using hq⟩
    | _ => exact ⟨G, ds', hg, hq⟩) (h m a hf))

theorem W_cond {c : Operand} {x y : Code} (b : Bool) (hc : ev F c = .bool b) (ht : b = true → W P rd n x Q F ds w) (hf : b = false → W P rd n y Q F ds w) : W P rd n (.cond c x y) Q F ds w := fun m a hF => by
  refine wpIn_cond_split (t := b) (by rw [hF.eval]; exact hc) (fun h => ht h m a hF) (fun h => hf h m a hF)
theorem W_cond_t {c : Operand} {x y : Code} (hc : ev F c = .bool true) (h : W P rd n x Q F ds w) : W P rd n (.cond c x y) Q F ds w :=
  W_cond true hc (fun _ => h) (fun e => by cases e)
theorem W_cond_f {c : Operand} {x y : Code} (hc : ev F c = .bool false) (h : W P rd n y Q F ds w) : W P rd n (.cond c x y) Q F ds w :=
  W_cond false hc (fun e => by cases e) (fun _ => h)

theorem W_region {id : Nat} {l : List Oper} (h : Lst P rd n l.toArray Q l F ds w) : W P rd n (.region id l.toArray false) Q F ds w := fun m a hf => wpIn_region_lit (h m a hf)

/-- A cut: behind x a fact on the world and the slots that are named; all else of the frame is forgotten. -/
def cutQ {α : Type} (vals : α → St) (M : α → World → Prop) (Q : Post) (ds : List Deferred) : Post
  | .normal, F, ds', w => ds' = ds ∧ ∃ x, M x w ∧ Has F (vals x)
  | e, F, ds', w => Q e F ds' w
theorem cutQ_n {α : Type} {vals : α → St} {M : α → World → Prop} (x : α) (h : M x w) (hv : Has F (vals x)) : cutQ vals M Q ds .normal F ds w := ⟨rfl, x, h, hv⟩
theorem cutQ_r {α : Type} {vals : α → St} {M : α → World → Prop} {ds' : List Deferred} (h : Q .ret F ds w) : cutQ vals M Q ds' .ret F ds w := h
theorem cutQ_e {α : Type} {vals : α → St} {M : α → World → Prop} {ds' : List Deferred} {i : Nat} (h : Q (.exit i) F ds w) : cutQ vals M Q ds' (.exit i) F ds w := h
theorem W_cut {α : Type} (vals : α → St) (M : α → World → Prop) {x y : Code} (h1 : W P rd n x (cutQ vals M Q ds) F ds w)
    (h2 : ∀ (J : Fr) (g : α) (w' : World), M g w' → W P rd n y Q (fr J (vals g)) ds w') : W P rd n (.seq x y) Q F ds w := fun m a hf =>
  wpIn_seq (Code.wpIn_mono (fun e a w hq => by
    obtain ⟨G, ds', hg, hq⟩ := hq
    cases e with
    | normal =>
      obtain ⟨rfl, g, hm, hv⟩ := hq
      exact h2 G g w hm m a (hg.congr (fr_has hv))
    | _ => exact ⟨G, ds', hg, hq⟩) (h1 m a hf))

theorem loop_ghost {β : Type} {N : Fence} {m : Nat} {c : Code} {Q : Exit → Act → World → Prop} (I : β → Act → World → Prop) (μ : β → World → Nat)
    (round : ∀ x a w, I x a w → c.wpIn N m P (Exit.then (fun a' w' => ∃ x', I x' a' w' ∧ μ x' w' < μ x w) Q) a w) : ∀ x a w, I x a w → (Code.loop c).wpIn N m P Q a w := by
  intro x a w h₀ b k cs hro hb hr
  have key : ∀ j x a w, μ x w = j → I x a w → ∃ e a' w', Q e a' w' ∧ ArrivesIn (Machine.fenced P N) P (lone (b.atR a (.code c :: .inLoop c :: k)) cs w) b k cs e a' w' := by
    intro j
    induction j using Nat.strongRecOn with
    | _ j ih =>
      intro x a w hn hI
      obtain ⟨e, a₁, w₁, hq, harr⟩ := round x a w hI b (.inLoop c :: k) cs hro hb hr
      cases e with
      | normal =>
        obtain ⟨x', hI₁, hlt⟩ := hq
        obtain ⟨e₂, a₂, w₂, hq₂, harr₂⟩ := ih (μ x' w₁) (hn ▸ hlt) x' a₁ w₁ rfl hI₁
        exact ⟨e₂, a₂, w₂, hq₂, .of_steps (StepsIn.trans harr (.one (fenced_calm hb hr rfl) stepR_inLoop)) harr₂⟩
      | _ => exact ⟨_, a₁, w₁, hq, .pass (x := .inLoop c) rfl (fun _ _ => .inl (by simp)) harr⟩
  obtain ⟨e, a', w', hq, harr⟩ := key _ x a w rfl h₀
  exact ⟨e, a', w', hq, .of_steps (.one (fenced_calm hb hr rfl) stepR_loop) harr⟩

/-- Behind a round: the relation at another ghost, with a smaller measure. -/
def rndQ {α : Type} (vals : α → St) (I : α → World → Prop) (μ : α → World → Nat) (m : Nat) (Q : Post) (ds : List Deferred) : Post
  | .normal, F, ds', w => ds' = ds ∧ ∃ x, I x w ∧ Has F (vals x) ∧ μ x w < m
  | e, F, ds', w => Q e F ds' w
theorem rndQ_n {α : Type} {vals : α → St} {I : α → World → Prop} {μ : α → World → Nat} {m : Nat} (x : α) (h : I x w) (hv : Has F (vals x)) (hm : μ x w < m) : rndQ vals I μ m Q ds .normal F ds w := ⟨rfl, x, h, hv, hm⟩
theorem rndQ_r {α : Type} {vals : α → St} {I : α → World → Prop} {μ : α → World → Nat} {m : Nat} {ds' : List Deferred} (h : Q .ret F ds w) : rndQ vals I μ m Q ds' .ret F ds w := h
theorem rndQ_e {α : Type} {vals : α → St} {I : α → World → Prop} {μ : α → World → Nat} {m : Nat} {ds' : List Deferred} {i : Nat} (h : Q (.exit i) F ds w) : rndQ vals I μ m Q ds' (.exit i) F ds w := h
theorem W_loop {α : Type} (vals : α → St) (I : α → World → Prop) (μ : α → World → Nat) {c : Code} (x0 : α) (h0 : I x0 w) (hv : Has F (vals x0))
    (round : ∀ (J : Fr) (x : α) (w' : World), I x w' → W P rd n c (rndQ vals I μ (μ x w') Q ds) (fr J (vals x)) ds w') : W P rd n (.loop c) Q F ds w := fun m a hf =>
  loop_ghost (β := α) (fun x a w => I x w ∧ ∃ G, Fits n G ds a ∧ Has G (vals x)) μ (fun x a w hx => by
    obtain ⟨hI, G, hg, hG⟩ := hx
    refine Code.wpIn_mono (fun e a w hq => ?_) (round G x w hI m a (hg.congr (fr_has hG)))
    obtain ⟨G', ds', hg', hq⟩ := hq
    cases e with
    | normal =>
      obtain ⟨rfl, x', hI', hv', hm⟩ := hq
      exact ⟨x', ⟨hI', G', hg', hv'⟩, hm⟩
    | _ => exact ⟨G', ds', hg', hq⟩) x0 a w ⟨h0, F, hf, hv⟩

/-! ### Functions -/
def Enters (P : Program) (f : Nat) : Prop := ∀ args w, (callFunc f args).run P w = .ok (.enter f args) w
/-- The function returns, and what it returns and leaves fulfils R. -/
def Does (P : Program) (f : Nat) (args : Array Value) (w : World) (R : Value → World → Prop) : Prop :=
  Enters P f ∧ Calls P f args w fun e w' => ∃ v, e = .returned v ∧ R v w'
theorem Does.mono {f : Nat} {args : Array Value} {R R' : Value → World → Prop} (h : Does P f args w R) (hr : ∀ v w', R v w' → R' v w') : Does P f args w R' :=
  ⟨h.1, h.2.mono fun _ _ ⟨v, e, r⟩ => ⟨v, e, hr v _ r⟩⟩

theorem enters_of {f : Nat} {fn : Func} {c : Code} (hf : P.funcs[f]? = some fn) (hname : (fn.name == "runtime.NumGoroutine") = false) (hb : fn.body = some c) : Enters P f := by
  intro args w
  have h1 : fn.name ≠ "runtime.NumGoroutine" := by simpa using hname
  simp [callFunc, hf, h1, hb, mark]

def retV (F : Fr) (P : Program) (w : World) : List ResultVar → List Value → Prop
  | [], [] => True
  | .tmp t :: l, v :: vs => F t = v ∧ retV F P w l vs
  | .cell a t :: l, v :: vs => (∃ p, F a = .pointer (some p) ∧ (loadVar t p).run P w = .ok v w) ∧ retV F P w l vs
  | _, _ => False
def oneOrMore : List Value → Value
  | [v] => v
  | vs => .tuple vs.toArray
def retQ (P : Program) (rs : List ResultVar) (R : Value → World → Prop) : Post
  | .ret, F, ds, w | .normal, F, ds, w => ds = [] ∧ ∃ vs, retV F P w rs vs ∧ R (oneOrMore vs) w
  | _, _, _, _ => False
theorem retQ0 {R : Value → World → Prop} (h : R (.tuple #[]) w) : retQ P [] R .ret F [] w := ⟨rfl, [], trivial, h⟩
theorem retQ0n {R : Value → World → Prop} (h : R (.tuple #[]) w) : retQ P [] R .normal F [] w := ⟨rfl, [], trivial, h⟩
theorem retQ1 {R : Value → World → Prop} {t : Nat} {v : Value} (hv : F t = v) (h : R v w) : retQ P [.tmp t] R .ret F [] w := ⟨rfl, [v], ⟨hv, trivial⟩, h⟩
theorem retQ2 {R : Value → World → Prop} {t u : Nat} {v x : Value} (hv : F t = v) (hx : F u = x) (h : R (.tuple #[v, x]) w) : retQ P [.tmp t, .tmp u] R .ret F [] w := ⟨rfl, [v, x], ⟨hv, hx, trivial⟩, h⟩
theorem retQ3 {R : Value → World → Prop} {t u s : Nat} {v x y : Value} (hv : F t = v) (hx : F u = x) (hy : F s = y) (h : R (.tuple #[v, x, y]) w) : retQ P [.tmp t, .tmp u, .tmp s] R .ret F [] w := ⟨rfl, [v, x, y], ⟨hv, hx, hy, trivial⟩, h⟩

def rvRun (tmps : Array Value) : ResultVar → Sem Value
  | .tmp t => pure (tmps.getD t undef)
  | .cell a t => do loadVar t (← asAddr (tmps.getD a undef))
theorem run_resultVar {tmps : Array Value} (hs : ∀ i, tmps.getD i undef = F i) {r : ResultVar} {v : Value} (h : retV F P w [r] [v]) :
    (rvRun tmps r).run P w = .ok v w := by
  cases r with
  | tmp t =>
    have h1 : tmps.getD t undef = v := (hs t).trans h.1
    simp only [rvRun, h1, Sem.run_pure]
  | cell a t =>
    obtain ⟨⟨p, h1, h2⟩, _⟩ := h
    have h1 : tmps.getD a undef = .pointer (some p) := (hs a).trans h1
    simp only [rvRun, h1, asAddr, Sem.run_bind, Sem.run_pure, Result.andThen, h2]
theorem results_eq (fn : Func) (tmps : Array Value) : results fn tmps = (do let vs ← fn.results.mapM (rvRun tmps); pure (if h : vs.size = 1 then vs[0] else .tuple vs)) := by
  unfold results
  congr 2
theorem retV_one {r : ResultVar} {l : List ResultVar} {v : Value} {vs : List Value} (h : retV F P w (r :: l) (v :: vs)) : retV F P w [r] [v] ∧ retV F P w l vs := by
  cases r with
  | tmp t => exact ⟨⟨h.1, trivial⟩, h.2⟩
  | cell a t => exact ⟨⟨h.1, trivial⟩, h.2⟩
theorem retV_nil {r : ResultVar} {l : List ResultVar} (h : retV F P w (r :: l) []) : False := by cases r <;> exact h.elim
theorem retV_len : ∀ {l : List ResultVar} {vs : List Value}, retV F P w l vs → l.length = vs.length
  | [], [], _ => rfl
  | _ :: _, _ :: _, h => by simp [retV_len (retV_one h).2]
  | [], _ :: _, h => h.elim
  | _ :: _, [], h => (retV_nil h).elim
theorem run_results {fn : Func} {rs : List ResultVar} {vs : List Value} (hr : fn.results = rs.toArray) (h4 : rs.length ≤ 4) (hf : Fits n F ds a) (h : retV F P w rs vs) :
    (results fn a.tmps).run P w = .ok (oneOrMore vs) w := by
  have hl := retV_len h
  rw [results_eq, hr]
  match rs, vs, hl, h4, h with
  | [], [], _, _, _ => simp [oneOrMore]
  | [r], [v], _, _, h =>
    have h1 := run_resultVar hf.slot h
    simp only [List.mapM_toArray, List.mapM_cons, List.mapM_nil, Sem.run_bind, Sem.run_pure, Sem.run_map, h1, Result.andThen]
    rfl
  | [r, s], [v, x], _, _, h =>
    have h1 := run_resultVar hf.slot (retV_one h).1
    have h2 := run_resultVar hf.slot (retV_one h).2
    simp only [List.mapM_toArray, List.mapM_cons, List.mapM_nil, Sem.run_bind, Sem.run_pure, Sem.run_map, h1, h2, Result.andThen]
    rfl
  | [r, s, t], [v, x, y], _, _, h =>
    have h1 := run_resultVar hf.slot (retV_one h).1
    have h2 := run_resultVar hf.slot (retV_one (retV_one h).2).1
    have h3 := run_resultVar hf.slot (retV_one (retV_one h).2).2
    simp only [List.mapM_toArray, List.mapM_cons, List.mapM_nil, Sem.run_bind, Sem.run_pure, Sem.run_map, h1, h2, h3, Result.andThen]
    rfl
  | [r, s, t, u], [v, x, y, z], _, _, h =>
    have h1 := run_resultVar hf.slot (retV_one h).1
    have h2 := run_resultVar hf.slot (retV_one (retV_one h).2).1
    have h3 := run_resultVar hf.slot (retV_one (retV_one (retV_one h).2).2).1
    have h4 := run_resultVar hf.slot (retV_one (retV_one (retV_one h).2).2).2
    simp only [List.mapM_toArray, List.mapM_cons, List.mapM_nil, Sem.run_bind, Sem.run_pure, Sem.run_map, h1, h2, h3, h4, Result.andThen]
    rfl

theorem start_at : ∀ (args : List Value) (m i : Nat), ((args ++ List.replicate m undef)[i]?).getD undef = start args i
  | [], m, i => by
    rw [List.nil_append]
    unfold start
    by_cases h : i < m
    · simp [h]
    · simp [h]
  | v :: l, m, 0 => rfl
  | v :: l, m, i + 1 => by
    have := start_at l m i
    simpa [start] using this
theorem start_eq (args : List Value) (m : Nat) (i : Nat) : (args.toArray ++ Array.replicate m undef).getD i undef = start args i := by
  rw [← start_at args m i]
  have : args.toArray ++ Array.replicate m undef = (args ++ List.replicate m undef).toArray := by simp
  rw [this]
  simp [Array.getD]
  split <;> simp_all

theorem Does_of {f : Nat} {fn : Func} {c : Code} {rs : List ResultVar} {args : List Value} {R : Value → World → Prop} (hf : P.funcs[f]? = some fn) (hname : (fn.name == "runtime.NumGoroutine") = false)
    (hb : fn.body = some c) (hr : fn.results = rs.toArray) (hn : fn.ntmps = n) (hl : Nat.ble args.length n = true) (h4 : Nat.ble rs.length 4 = true) (h : W P none n c (retQ P rs R) (start args) [] w) : Does P f args.toArray w R := by
  refine ⟨enters_of hf hname hb, ?_⟩
  refine calls_of_wp hf hb ?_
  have hl' : args.length ≤ n := by simpa using hl
  refine Code.wp_mono (fun e a w hq => ?_) (wpIn_wide.1 (h 0 _ ⟨by simp [hn]; omega, rfl, fun i => start_eq args _ i⟩))
  obtain ⟨G, ds, hg, hq⟩ := hq
  cases e with
  | normal =>
    obtain ⟨rfl, vs, hv, hR⟩ := hq
    exact ⟨hg.defers, _, run_results hr (by simpa using h4) hg hv, _, rfl, hR⟩
  | ret =>
    obtain ⟨rfl, vs, hv, hR⟩ := hq
    exact ⟨hg.defers, _, run_results hr (by simpa using h4) hg hv, _, rfl, hR⟩
  | exit i => exact hq.elim
  | goto l => exact hq.elim
  | panic ch => exact hq.elim
  | outgrown => exact hq.elim
end core
end Sx
namespace Sx
open Go Go.RowKit

/-- A value that is written out: forces what the frame holds. -/
inductive Fc : Value → Value → Prop
  | int (k : IntKind) (m : Int) : Fc (.int k m) (.int k m)
  | bool (b : Bool) : Fc (.bool b) (.bool b)
  | ptr (a : Option Addr) : Fc (.pointer a) (.pointer a)
  | string (s : ByteArray) : Fc (.string s) (.string s)
  | slice (a : Option Addr) (l c : Nat) : Fc (.slice a l c) (.slice a l c)
  | agg (cs : Array Value) : Fc (.agg cs) (.agg cs)
  | map (r : Option Nat) : Fc (.map r) (.map r)
  | tuple (vs : Array Value) : Fc (.tuple vs) (.tuple vs)
  | float (k : FloatKind) (b : Nat) : Fc (.float k b) (.float k b)
  | func (f : Fn) (a b : Array Value) : Fc (.func f a b) (.func f a b)
  | nilFunc : Fc .nilFunc .nilFunc
  | iface (t : TypeId) (v : Value) : Fc (.iface t v) (.iface t v)
  | nilIface : Fc .nilIface .nilIface
  | other (v : Value) : Fc v v
inductive FcL : List Value → List Value → Prop
  | nil : FcL [] []
  | cons {v u : Value} {l k : List Value} (h : Fc v u) (t : FcL l k) : FcL (v :: l) (u :: k)
theorem Fc.eq {a b : Value} (h : Fc a b) : a = b := by cases h <;> rfl
theorem FcL.eq {a b : List Value} (h : FcL a b) : a = b := by
  induction h with
  | nil => rfl
  | cons h _ ih => rw [h.eq, ih]

/-- A list with one place set, written out. -/
inductive SetR : List Value → Nat → Value → List Value → Prop
  | zero (x v : Value) (l : List Value) : SetR (x :: l) 0 v (v :: l)
  | succ (x v : Value) (l k : List Value) (j : Nat) (h : SetR l j v k) : SetR (x :: l) (j + 1) v (x :: k)
theorem SetR.eq {l k : List Value} {j : Nat} {v : Value} (h : SetR l j v k) : l.set j v = k := by
  induction h with
  | zero => rfl
  | succ _ _ _ _ _ _ ih => simp [ih]
theorem SetR.some {l k : List Value} {j : Nat} {v : Value} (h : SetR l j v k) : ∃ o, l[j]? = Option.some o := by
  induction h with
  | zero => exact ⟨_, rfl⟩
  | succ _ _ _ _ _ _ ih => simpa using ih

theorem wi64 {m : Int} (a : -9223372036854775808 ≤ m) (b : m ≤ 9223372036854775807) : IntKind.i64.wrap m = m := by simp [IntKind.wrap, IntKind.signed, IntKind.bits]; omega
theorem wu64 {m : Int} (a : 0 ≤ m) (b : m ≤ 18446744073709551615) : IntKind.u64.wrap m = m := by simp [IntKind.wrap, IntKind.signed, IntKind.bits]; omega
theorem wi32 {m : Int} (a : -2147483648 ≤ m) (b : m ≤ 2147483647) : IntKind.i32.wrap m = m := by simp [IntKind.wrap, IntKind.signed, IntKind.bits]; omega
theorem wu32 {m : Int} (a : 0 ≤ m) (b : m ≤ 4294967295) : IntKind.u32.wrap m = m := by simp [IntKind.wrap, IntKind.signed, IntKind.bits]; omega
theorem wu16 {m : Int} (a : 0 ≤ m) (b : m ≤ 65535) : IntKind.u16.wrap m = m := by simp [IntKind.wrap, IntKind.signed, IntKind.bits]; omega
theorem wu8 {m : Int} (a : 0 ≤ m) (b : m ≤ 255) : IntKind.u8.wrap m = m := by simp [IntKind.wrap, IntKind.signed, IntKind.bits]; omega

set_option maxRecDepth 10000 in
theorem and192 {x : Int} (h0 : 0 ≤ x) (h1 : x < 256) : bits .and .u8 x 192 = x / 64 * 64 := by
  obtain ⟨a, rfl⟩ := Int.eq_ofNat_of_zero_le h0
  have key : ∀ b : Fin 256, b.val &&& 192 = b.val / 64 * 64 := by decide
  have h : a &&& 192 = a / 64 * 64 := key ⟨a, by omega⟩
  have e := u8_and_nat a 192 (by omega) (by omega)
  have e2 : bits .and .u8 (a : Int) 192 = ((a &&& 192 : Nat) : Int) := e
  rw [e2, h]
  omega
/-- Byte i of a string. -/
def sb (s : ByteArray) (i : Nat) : Int := ((s.data.toList.getD i 0).toNat : Int)
theorem sb_lo (s : ByteArray) (i : Nat) : 0 ≤ sb s i := by unfold sb; omega
theorem sb_hi (s : ByteArray) (i : Nat) : sb s i ≤ 255 := by
  unfold sb
  have := (s.data.toList.getD i 0).toNat_lt
  omega
/-- A block of cells that is known whole, none of them frozen. -/
def Blk (w : World) (b : Nat) (l : List Value) (e : TypeId) : Prop := w.heap[b]? = some (.cells l.toArray e (0, 0))

section ops
variable {P : Program} {rd : Option Nat} {n : Nat} {ops : Array Oper} {Q : Post} {rest : List Oper} {F : Fr} {ds : List Deferred} {w : World} {a : Act} {ty : TypeId} {pos : String} {after : Array Edge}

theorem Blk.lt {b : Nat} {l : List Value} {e : TypeId} (h : Blk w b l e) : b < w.heap.size := (Array.getElem?_eq_some_iff.1 h).1
theorem Blk.new (w : World) (l : List Value) (e : TypeId) : Blk (w.alloc (.cells l.toArray e)) w.heap.size l e := World.alloc_heap_new w _
theorem Blk.newE {b : Nat} (h : w.heap.size = b) (l : List Value) (e : TypeId) : Blk (w.alloc (.cells l.toArray e)) b l e := h ▸ Blk.new w l e
theorem Blk.alloc {b : Nat} {l : List Value} {e : TypeId} (h : Blk w b l e) (o : Obj) : Blk (w.alloc o) b l e := (Below.heap_alloc w o b h.lt).trans h
theorem size_drew (w : World) : w.drew.heap.size = w.heap.size := rfl
theorem Blk.drew {b : Nat} {l : List Value} {e : TypeId} (h : Blk w b l e) : Blk w.drew b l e := h
theorem Blk.put_same {b : Nat} (h : b < w.heap.size) (l : List Value) (e : TypeId) : Blk (w.putObj b (.cells l.toArray e)) b l e := World.putObj_heap_same h
theorem Blk.put_ne {b c : Nat} {l : List Value} {e : TypeId} {o : Obj} (hn : b ≠ c) (h : Blk w b l e) : Blk (w.putObj c o) b l e := (World.putObj_heap_other hn).trans h
theorem Blk.below {B b : Nat} {l : List Value} {e : TypeId} {w' : World} (h : Blk w b l e) (hb : Below B w w') (hl : b < B) : Blk w' b l e := (hb.block b hl).trans h
theorem Blk.cell {b : Nat} {l : List Value} {e : TypeId} (h : Blk w b l e) (off : Nat) : w.cell? ⟨b, off, none⟩ = l[off]? := by
  unfold World.cell?
  unfold Blk at h
  rw [h]
  simp
theorem Blk.frozen {b : Nat} {l : List Value} {e : TypeId} (h : Blk w b l e) (off : Nat) : w.frozen? ⟨b, off, none⟩ = false := by
  unfold World.frozen?
  unfold Blk at h
  rw [h]
  simp
theorem Blk.set {b : Nat} {l : List Value} {e : TypeId} (h : Blk w b l e) (off : Nat) (v : Value) : w.setCell ⟨b, off, none⟩ v = w.putObj b (.cells (l.set off v).toArray e) := by
  unfold World.setCell World.putObj
  unfold Blk at h
  congr 1
  obtain ⟨hl, hv⟩ := Array.getElem?_eq_some_iff.1 h
  apply Array.ext
  · simp
  · intro i h1 h2
    by_cases e' : i = b
    · subst e'
      simp [Array.getElem_modify, hv]
    · simp only [Array.getElem_modify, Ne.symm e', if_false]
      exact (Array.getElem_setIfInBounds_ne _ (Ne.symm e')).symm

theorem Lst_nil (h : Q .normal F ds w) : Lst P rd n ops Q [] F ds w := fun _ _ hf => ⟨F, ds, hf, h⟩
theorem wanted_none {o : Oper} (hg : o.guard = none) (y : Nat → Option Bool) : Region.wanted o y = true := by simp [Region.wanted, hg]
/-- In a round, too, an operation that is no defer statement is carried out as everywhere. -/
theorem sem_same {o : Oper} {ρ : Operand → Value} (h : ∀ c, o.op ≠ .defer c) : o.semAt (E rd).round ρ = execOp ρ o := by
  rw [E_round]
  cases rd with
  | none => rfl
  | some l => exact Oper.semAt_some l ρ o h
theorem no_defer {o : Oper} {ρ : Operand → Value} {r : Next} {w' : World} (hrun : (execOp ρ o).run P w = .ok r w') (hr : ∀ d, r ≠ .defer d) : ∀ c, o.op ≠ .defer c := by
  intro c hc
  unfold execOp at hrun
  rw [hc] at hrun
  simp only [Sem.run_bind] at hrun
  cases h : (resolve ρ c o.type).run P w with
  | ok d w1 => rw [h] at hrun; simp [Result.andThen, Sem.run_pure] at hrun; exact hr d hrun.1.symm
  | halt x w1 => rw [h] at hrun; simp [Result.andThen] at hrun
theorem Lst_value {o : Oper} {v : Value} {w' : World} (hg : o.guard = none) (hrun : (execOp (ev F) o).run P w = .ok (.value v) w') (hd : okd n o.dst = true)
    (h : Lst P rd n ops Q rest (updO F o.dst v) ds w') : Lst P rd n ops Q (o :: rest) F ds w := fun m a hf => by
  unfold wpListIn
  rw [if_pos (wanted_none hg _)]
  refine ⟨fun f _ => E_fn rd f, ?_⟩
  rw [hf.eval, sem_same (no_defer hrun (by simp)), hrun]
  exact h m _ (hf.put v hd)
theorem Lst_unit {o : Oper} {w' : World} (hg : o.guard = none) (hrun : (execOp (ev F) o).run P w = .ok .skip w') (hd : okd n o.dst = true)
    (h : Lst P rd n ops Q rest (updO F o.dst undef) ds w') : Lst P rd n ops Q (o :: rest) F ds w := fun m a hf => by
  unfold wpListIn
  rw [if_pos (wanted_none hg _)]
  refine ⟨fun f _ => E_fn rd f, ?_⟩
  rw [hf.eval, sem_same (no_defer hrun (by simp)), hrun]
  exact h m _ (hf.put undef hd)
theorem Lst_enter {o : Oper} {w' : World} {f : Nat} {args : Array Value} (hg : o.guard = none) (hrun : (execOp (ev F) o).run P w = .ok (.enter f args) w') (hd : okd n o.dst = true)
    (h : Calls P f args w' fun e w'' => ∃ v, e = .returned v ∧ Lst P rd n ops Q rest (updO F o.dst v) ds w'') : Lst P rd n ops Q (o :: rest) F ds w := fun m a hf => by
  unfold wpListIn
  rw [if_pos (wanted_none hg _)]
  refine ⟨fun f _ => E_fn rd f, ?_⟩
  rw [hf.eval, sem_same (no_defer hrun (by simp)), hrun, Oper.uponIn_enter]
  refine ⟨E_one rd m, E_calls.2 (h.mono ?_)⟩
  rintro e w2 ⟨v, rfl, hl⟩
  exact hl m _ (hf.put v hd)

/-! ### Guards -/
theorem slot_bool {t : Array Value} {d : Nat} {b : Bool} (h : t.getD d undef = .bool b) : t[d]? = some (.bool b) := by
  by_cases hd : d < t.size
  · simp [Array.getD, hd] at h
    simp [hd, h]
  · simp [Array.getD, hd, undef] at h
theorem slot_undef {t : Array Value} {d : Nat} (h : t.getD d undef = undef) : t[d]? = some undef ∨ t[d]? = none := by
  by_cases hd : d < t.size
  · simp [Array.getD, hd] at h
    simp [hd, h]
  · simp [hd]
def dstOf (l : List Oper) (j : Nat) : Option Nat := (l[j]?).bind (·.dst)
theorem yielded_at {l : List Oper} {j d : Nat} {b : Bool} (hj : dstOf l j = some d) (hF : F d = .bool b) (hf : Fits n F ds a) : yielded l.toArray a.tmps j = some b := by
  unfold yielded
  unfold dstOf at hj
  have h := hf.slot d
  rw [hF] at h
  simp only [List.getElem?_toArray, hj]
  simp [slot_bool h]
theorem Lst_guard_t {l : List Oper} {dst : Option Nat} {op : Op} {j d : Nat} {b : Bool} (hj : dstOf l j = some d) (hF : F d = .bool b)
    (h : Lst P rd n l.toArray Q (⟨dst, op, ty, pos, after, none⟩ :: rest) F ds w) : Lst P rd n l.toArray Q (⟨dst, op, ty, pos, after, some (j, b)⟩ :: rest) F ds w := fun m a hf => by
  have h1 := h m a hf
  have hy := yielded_at hj hF hf
  unfold wpListIn at h1 ⊢
  rw [if_pos (wanted_none rfl _)] at h1
  rw [if_pos (by simp [Region.wanted, hy])]
  exact h1
theorem Lst_guard_f {l : List Oper} {dst : Option Nat} {op : Op} {j d : Nat} {b c : Bool} (hj : dstOf l j = some d) (hF : F d = .bool c) (hbc : (c == b) = false) (hd : okd n dst = true)
    (h : Lst P rd n l.toArray Q rest (updO F dst undef) ds w) : Lst P rd n l.toArray Q (⟨dst, op, ty, pos, after, some (j, b)⟩ :: rest) F ds w := fun m a hf => by
  have hy := yielded_at hj hF hf
  unfold wpListIn
  rw [if_neg (by simpa [Region.wanted, hy] using hbc)]
  exact ⟨fun f _ => E_fn rd f, h m _ (hf.put undef hd)⟩
theorem yielded_undef {l : List Oper} {j d : Nat} (hj : dstOf l j = some d) (hF : F d = undef) (hf : Fits n F ds a) : yielded l.toArray a.tmps j = none := by
  unfold yielded
  unfold dstOf at hj
  have h := hf.slot d
  rw [hF] at h
  simp only [List.getElem?_toArray, hj]
  rcases slot_undef h with h | h <;> simp [h, undef]
theorem Lst_guard_u {l : List Oper} {dst : Option Nat} {op : Op} {j d : Nat} {b : Bool} (hj : dstOf l j = some d) (hF : F d = undef) (hd : okd n dst = true)
    (h : Lst P rd n l.toArray Q rest (updO F dst undef) ds w) : Lst P rd n l.toArray Q (⟨dst, op, ty, pos, after, some (j, b)⟩ :: rest) F ds w := fun m a hf => by
  have hy := yielded_undef hj hF hf
  unfold wpListIn
  rw [if_neg (by simp [Region.wanted, hy])]
  exact ⟨fun f _ => E_fn rd f, h m _ (hf.put undef hd)⟩

/-! ### Operations that leave the world alone -/
def Pu (P : Program) (F : Fr) (op : Op) (ty : TypeId) (v : Value) : Prop := ∀ (dst : Option Nat) (pos : String) (after : Array Edge) (w : World), (execOp (ev F) ⟨dst, op, ty, pos, after, none⟩).run P w = .ok (.value v) w
theorem Lst_pu {d : Nat} {op : Op} {v : Value} (h : Pu P F op ty v) (hd : Nat.blt d n = true) (k : Lst P rd n ops Q rest (upd F d v) ds w) : Lst P rd n ops Q (⟨some d, op, ty, pos, after, none⟩ :: rest) F ds w :=
  Lst_value rfl (h _ _ _ _) hd k
theorem Lst_pu0 {op : Op} {v : Value} (h : Pu P F op ty v) (k : Lst P rd n ops Q rest F ds w) : Lst P rd n ops Q (⟨none, op, ty, pos, after, none⟩ :: rest) F ds w :=
  Lst_value rfl (h _ _ _ _) rfl k
theorem P_move {x : Operand} {v : Value} (hx : Fc (ev F x) v) : Pu P F (.move x) ty (v) :=
  fun dst pos after w => (by rw [← hx.eq]; rfl)
theorem P_assign {x : Operand} {v : Value} (hx : Fc (ev F x) v) : Pu P F (.assign x) ty (v) :=
  fun dst pos after w => (by rw [← hx.eq]; rfl)
theorem P_pick_t {c x y : Operand} {v : Value} (hc : ev F c = .bool true) (hx : Fc (ev F x) v) : Pu P F (.pick c x y) ty (v) :=
  fun dst pos after w => (by rw [← hx.eq]; simp [execOp, hc, asBool, Sem.run_pure])
theorem P_pick_f {c x y : Operand} {v : Value} (hc : ev F c = .bool false) (hx : Fc (ev F y) v) : Pu P F (.pick c x y) ty (v) :=
  fun dst pos after w => (by rw [← hx.eq]; simp [execOp, hc, asBool, Sem.run_pure])
theorem P_nilCheck {x : Operand} {b : Addr} (hx : ev F x = .pointer (some b)) : Pu P F (.nilCheck x) ty (.pointer (some b)) :=
  fun dst pos after w => (by simp [execOp, hx])

/-! ### Operators -/
theorem bin_run {dst : Option Nat} {op : BinOp} {t t' : TypeId} {x y : Operand} {vx vy v : Value} (hx : ev F x = vx) (hy : ev F y = vy) (hgd : (eqGuard op t x y vx vy).run P w = .ok () w) (hb : (binOp op t vx vy).run P w = .ok v w) :
    (execOp (ev F) ⟨dst, .binOp op t x y t', ty, pos, after, none⟩).run P w = .ok (.value v) w := by
  simp only [execOp, hx, hy, Sem.run_bind, hgd, Result.andThen, hb, Sem.run_pure]
theorem guard_int {op : BinOp} {t : TypeId} {x y : Operand} {k k' : IntKind} {p q : Int} : (eqGuard op t x y (.int k p) (.int k' q)).run P w = .ok () w := by
  cases op <;> simp [eqGuard, Sem.run_pure]
theorem guard_str {op : BinOp} {t : TypeId} {x y : Operand} {p q : ByteArray} : (eqGuard op t x y (.string p) (.string q)).run P w = .ok () w := by
  cases op <;> simp [eqGuard, Sem.run_pure]

/-- Sum, difference, product of two whole numbers of a kind. -/
def arith : BinOp → IntKind → Int → Int → Int
  | .add, k, p, q => k.wrap (p + q)
  | .sub, k, p, q => k.wrap (p - q)
  | _, k, p, q => k.wrap (p * q)
def isArith : BinOp → Bool
  | .add | .sub | .mul => true
  | _ => false
theorem P_ar {t t' : TypeId} {x y : Operand} {k : IntKind} {op : BinOp} {p q r : Int} (hx : ev F x = .int k p) (hy : ev F y = .int k q) (ho : isArith op = true) (hr : arith op k p q = r) : Pu P F (.binOp op t x y t') ty (.int k r) :=
  fun dst pos after w => bin_run hx hy guard_int (by subst hr; cases op <;> first | (cases ho; done) | simp [binOp, Op.intArith, arith])
theorem P_quo {t t' : TypeId} {x y : Operand} {k : IntKind} {p q r : Int} (hx : ev F x = .int k p) (hy : ev F y = .int k q) (h0 : q ≠ 0) (hr : k.wrap (p.tdiv q) = r) : Pu P F (.binOp .quo t x y t') ty ((.int k r)) :=
  fun dst pos after w => (bin_run hx hy guard_int (by simp [binOp, Op.intDiv, h0, hr]))
theorem P_rem {t t' : TypeId} {x y : Operand} {k : IntKind} {p q r : Int} (hx : ev F x = .int k p) (hy : ev F y = .int k q) (h0 : q ≠ 0) (hr : p.tmod q = r) : Pu P F (.binOp .rem t x y t') ty ((.int k r)) :=
  fun dst pos after w => (bin_run hx hy guard_int (by simp [binOp, Op.intDiv, h0, hr]))
theorem P_and {t t' : TypeId} {x y : Operand} {k : IntKind} {p q r : Int} (hx : ev F x = .int k p) (hy : ev F y = .int k q) (hr : bits .and k p q = r) : Pu P F (.binOp .and t x y t') ty ((.int k r)) :=
  fun dst pos after w => (bin_run hx hy guard_int (by subst hr; simp [binOp, Op.intBits, bits]))
theorem P_or {t t' : TypeId} {x y : Operand} {k : IntKind} {p q r : Int} (hx : ev F x = .int k p) (hy : ev F y = .int k q) (hr : bits .or k p q = r) : Pu P F (.binOp .or t x y t') ty ((.int k r)) :=
  fun dst pos after w => (bin_run hx hy guard_int (by subst hr; simp [binOp, Op.intBits, bits]))
theorem P_xor {t t' : TypeId} {x y : Operand} {k : IntKind} {p q r : Int} (hx : ev F x = .int k p) (hy : ev F y = .int k q) (hr : bits .xor k p q = r) : Pu P F (.binOp .xor t x y t') ty ((.int k r)) :=
  fun dst pos after w => (bin_run hx hy guard_int (by subst hr; simp [binOp, Op.intBits, bits]))
theorem P_andNot {t t' : TypeId} {x y : Operand} {k : IntKind} {p q r : Int} (hx : ev F x = .int k p) (hy : ev F y = .int k q) (hr : bits .andNot k p q = r) : Pu P F (.binOp .andNot t x y t') ty ((.int k r)) :=
  fun dst pos after w => (bin_run hx hy guard_int (by subst hr; simp [binOp, Op.intBits, bits]))
theorem P_shl {t t' : TypeId} {x y : Operand} {k k' : IntKind} {p q r : Int} (hx : ev F x = .int k p) (hy : ev F y = .int k' q) (h0 : 0 ≤ q) (hr : k.wrap (p * 2 ^ (min q.toNat k.bits)) = r) : Pu P F (.binOp .shl t x y t') ty ((.int k r)) :=
  fun dst pos after w => (bin_run hx hy guard_int (by subst hr; simp [binOp, Op.shift, show ¬ q < 0 by omega]))
theorem P_shr {t t' : TypeId} {x y : Operand} {k k' : IntKind} {p q r : Int} (hx : ev F x = .int k p) (hy : ev F y = .int k' q) (h0 : 0 ≤ q) (hr : p.fdiv (2 ^ (min q.toNat k.bits)) = r) : Pu P F (.binOp .shr t x y t') ty ((.int k r)) :=
  fun dst pos after w => (bin_run hx hy guard_int (by subst hr; simp [binOp, Op.shift, show ¬ q < 0 by omega]))
theorem P_shl_1 {t t' : TypeId} {x y : Operand} {k k' : IntKind} {p r : Int} (hx : ev F x = .int k p) (hy : ev F y = .int k' 1) (hb : Nat.ble 1 k.bits = true) (hr : k.wrap (p * 2) = r) : Pu P F (.binOp .shl t x y t') ty ((.int k r)) :=
  P_shl hx hy (by decide) (by rw [← hr, show min ((1 : Int).toNat) k.bits = 1 from Nat.min_eq_left (by simpa using hb)]; rfl)
theorem P_shr_1 {t t' : TypeId} {x y : Operand} {k k' : IntKind} {p : Int} (hx : ev F x = .int k p) (hy : ev F y = .int k' 1) (hb : Nat.ble 1 k.bits = true) : Pu P F (.binOp .shr t x y t') ty ((.int k (p / 2))) :=
  P_shr hx hy (by decide) (by rw [show min ((1 : Int).toNat) k.bits = 1 from Nat.min_eq_left (by simpa using hb)]; exact Int.fdiv_eq_ediv_of_nonneg _ (by decide))
theorem P_shl_2 {t t' : TypeId} {x y : Operand} {k k' : IntKind} {p r : Int} (hx : ev F x = .int k p) (hy : ev F y = .int k' 2) (hb : Nat.ble 2 k.bits = true) (hr : k.wrap (p * 4) = r) : Pu P F (.binOp .shl t x y t') ty ((.int k r)) :=
  P_shl hx hy (by decide) (by rw [← hr, show min ((2 : Int).toNat) k.bits = 2 from Nat.min_eq_left (by simpa using hb)]; rfl)
theorem P_shr_2 {t t' : TypeId} {x y : Operand} {k k' : IntKind} {p : Int} (hx : ev F x = .int k p) (hy : ev F y = .int k' 2) (hb : Nat.ble 2 k.bits = true) : Pu P F (.binOp .shr t x y t') ty ((.int k (p / 4))) :=
  P_shr hx hy (by decide) (by rw [show min ((2 : Int).toNat) k.bits = 2 from Nat.min_eq_left (by simpa using hb)]; exact Int.fdiv_eq_ediv_of_nonneg _ (by decide))
theorem P_shl_3 {t t' : TypeId} {x y : Operand} {k k' : IntKind} {p r : Int} (hx : ev F x = .int k p) (hy : ev F y = .int k' 3) (hb : Nat.ble 3 k.bits = true) (hr : k.wrap (p * 8) = r) : Pu P F (.binOp .shl t x y t') ty ((.int k r)) :=
  P_shl hx hy (by decide) (by rw [← hr, show min ((3 : Int).toNat) k.bits = 3 from Nat.min_eq_left (by simpa using hb)]; rfl)
theorem P_shr_3 {t t' : TypeId} {x y : Operand} {k k' : IntKind} {p : Int} (hx : ev F x = .int k p) (hy : ev F y = .int k' 3) (hb : Nat.ble 3 k.bits = true) : Pu P F (.binOp .shr t x y t') ty ((.int k (p / 8))) :=
  P_shr hx hy (by decide) (by rw [show min ((3 : Int).toNat) k.bits = 3 from Nat.min_eq_left (by simpa using hb)]; exact Int.fdiv_eq_ediv_of_nonneg _ (by decide))
theorem P_shl_4 {t t' : TypeId} {x y : Operand} {k k' : IntKind} {p r : Int} (hx : ev F x = .int k p) (hy : ev F y = .int k' 4) (hb : Nat.ble 4 k.bits = true) (hr : k.wrap (p * 16) = r) : Pu P F (.binOp .shl t x y t') ty ((.int k r)) :=
  P_shl hx hy (by decide) (by rw [← hr, show min ((4 : Int).toNat) k.bits = 4 from Nat.min_eq_left (by simpa using hb)]; rfl)
theorem P_shr_4 {t t' : TypeId} {x y : Operand} {k k' : IntKind} {p : Int} (hx : ev F x = .int k p) (hy : ev F y = .int k' 4) (hb : Nat.ble 4 k.bits = true) : Pu P F (.binOp .shr t x y t') ty ((.int k (p / 16))) :=
  P_shr hx hy (by decide) (by rw [show min ((4 : Int).toNat) k.bits = 4 from Nat.min_eq_left (by simpa using hb)]; exact Int.fdiv_eq_ediv_of_nonneg _ (by decide))
theorem P_shl_5 {t t' : TypeId} {x y : Operand} {k k' : IntKind} {p r : Int} (hx : ev F x = .int k p) (hy : ev F y = .int k' 5) (hb : Nat.ble 5 k.bits = true) (hr : k.wrap (p * 32) = r) : Pu P F (.binOp .shl t x y t') ty ((.int k r)) :=
  P_shl hx hy (by decide) (by rw [← hr, show min ((5 : Int).toNat) k.bits = 5 from Nat.min_eq_left (by simpa using hb)]; rfl)
theorem P_shr_5 {t t' : TypeId} {x y : Operand} {k k' : IntKind} {p : Int} (hx : ev F x = .int k p) (hy : ev F y = .int k' 5) (hb : Nat.ble 5 k.bits = true) : Pu P F (.binOp .shr t x y t') ty ((.int k (p / 32))) :=
  P_shr hx hy (by decide) (by rw [show min ((5 : Int).toNat) k.bits = 5 from Nat.min_eq_left (by simpa using hb)]; exact Int.fdiv_eq_ediv_of_nonneg _ (by decide))
theorem P_shl_6 {t t' : TypeId} {x y : Operand} {k k' : IntKind} {p r : Int} (hx : ev F x = .int k p) (hy : ev F y = .int k' 6) (hb : Nat.ble 6 k.bits = true) (hr : k.wrap (p * 64) = r) : Pu P F (.binOp .shl t x y t') ty ((.int k r)) :=
  P_shl hx hy (by decide) (by rw [← hr, show min ((6 : Int).toNat) k.bits = 6 from Nat.min_eq_left (by simpa using hb)]; rfl)
theorem P_shr_6 {t t' : TypeId} {x y : Operand} {k k' : IntKind} {p : Int} (hx : ev F x = .int k p) (hy : ev F y = .int k' 6) (hb : Nat.ble 6 k.bits = true) : Pu P F (.binOp .shr t x y t') ty ((.int k (p / 64))) :=
  P_shr hx hy (by decide) (by rw [show min ((6 : Int).toNat) k.bits = 6 from Nat.min_eq_left (by simpa using hb)]; exact Int.fdiv_eq_ediv_of_nonneg _ (by decide))
theorem P_shl_7 {t t' : TypeId} {x y : Operand} {k k' : IntKind} {p r : Int} (hx : ev F x = .int k p) (hy : ev F y = .int k' 7) (hb : Nat.ble 7 k.bits = true) (hr : k.wrap (p * 128) = r) : Pu P F (.binOp .shl t x y t') ty ((.int k r)) :=
  P_shl hx hy (by decide) (by rw [← hr, show min ((7 : Int).toNat) k.bits = 7 from Nat.min_eq_left (by simpa using hb)]; rfl)
theorem P_shr_7 {t t' : TypeId} {x y : Operand} {k k' : IntKind} {p : Int} (hx : ev F x = .int k p) (hy : ev F y = .int k' 7) (hb : Nat.ble 7 k.bits = true) : Pu P F (.binOp .shr t x y t') ty ((.int k (p / 128))) :=
  P_shr hx hy (by decide) (by rw [show min ((7 : Int).toNat) k.bits = 7 from Nat.min_eq_left (by simpa using hb)]; exact Int.fdiv_eq_ediv_of_nonneg _ (by decide))
theorem P_shl_8 {t t' : TypeId} {x y : Operand} {k k' : IntKind} {p r : Int} (hx : ev F x = .int k p) (hy : ev F y = .int k' 8) (hb : Nat.ble 8 k.bits = true) (hr : k.wrap (p * 256) = r) : Pu P F (.binOp .shl t x y t') ty ((.int k r)) :=
  P_shl hx hy (by decide) (by rw [← hr, show min ((8 : Int).toNat) k.bits = 8 from Nat.min_eq_left (by simpa using hb)]; rfl)
theorem P_shr_8 {t t' : TypeId} {x y : Operand} {k k' : IntKind} {p : Int} (hx : ev F x = .int k p) (hy : ev F y = .int k' 8) (hb : Nat.ble 8 k.bits = true) : Pu P F (.binOp .shr t x y t') ty ((.int k (p / 256))) :=
  P_shr hx hy (by decide) (by rw [show min ((8 : Int).toNat) k.bits = 8 from Nat.min_eq_left (by simpa using hb)]; exact Int.fdiv_eq_ediv_of_nonneg _ (by decide))
theorem P_shl_16 {t t' : TypeId} {x y : Operand} {k k' : IntKind} {p r : Int} (hx : ev F x = .int k p) (hy : ev F y = .int k' 16) (hb : Nat.ble 16 k.bits = true) (hr : k.wrap (p * 65536) = r) : Pu P F (.binOp .shl t x y t') ty ((.int k r)) :=
  P_shl hx hy (by decide) (by rw [← hr, show min ((16 : Int).toNat) k.bits = 16 from Nat.min_eq_left (by simpa using hb)]; rfl)
theorem P_shr_16 {t t' : TypeId} {x y : Operand} {k k' : IntKind} {p : Int} (hx : ev F x = .int k p) (hy : ev F y = .int k' 16) (hb : Nat.ble 16 k.bits = true) : Pu P F (.binOp .shr t x y t') ty ((.int k (p / 65536))) :=
  P_shr hx hy (by decide) (by rw [show min ((16 : Int).toNat) k.bits = 16 from Nat.min_eq_left (by simpa using hb)]; exact Int.fdiv_eq_ediv_of_nonneg _ (by decide))
theorem P_shl_24 {t t' : TypeId} {x y : Operand} {k k' : IntKind} {p r : Int} (hx : ev F x = .int k p) (hy : ev F y = .int k' 24) (hb : Nat.ble 24 k.bits = true) (hr : k.wrap (p * 16777216) = r) : Pu P F (.binOp .shl t x y t') ty ((.int k r)) :=
  P_shl hx hy (by decide) (by rw [← hr, show min ((24 : Int).toNat) k.bits = 24 from Nat.min_eq_left (by simpa using hb)]; rfl)
theorem P_shr_24 {t t' : TypeId} {x y : Operand} {k k' : IntKind} {p : Int} (hx : ev F x = .int k p) (hy : ev F y = .int k' 24) (hb : Nat.ble 24 k.bits = true) : Pu P F (.binOp .shr t x y t') ty ((.int k (p / 16777216))) :=
  P_shr hx hy (by decide) (by rw [show min ((24 : Int).toNat) k.bits = 24 from Nat.min_eq_left (by simpa using hb)]; exact Int.fdiv_eq_ediv_of_nonneg _ (by decide))
theorem P_shl_32 {t t' : TypeId} {x y : Operand} {k k' : IntKind} {p r : Int} (hx : ev F x = .int k p) (hy : ev F y = .int k' 32) (hb : Nat.ble 32 k.bits = true) (hr : k.wrap (p * 4294967296) = r) : Pu P F (.binOp .shl t x y t') ty ((.int k r)) :=
  P_shl hx hy (by decide) (by rw [← hr, show min ((32 : Int).toNat) k.bits = 32 from Nat.min_eq_left (by simpa using hb)]; rfl)
theorem P_shr_32 {t t' : TypeId} {x y : Operand} {k k' : IntKind} {p : Int} (hx : ev F x = .int k p) (hy : ev F y = .int k' 32) (hb : Nat.ble 32 k.bits = true) : Pu P F (.binOp .shr t x y t') ty ((.int k (p / 4294967296))) :=
  P_shr hx hy (by decide) (by rw [show min ((32 : Int).toNat) k.bits = 32 from Nat.min_eq_left (by simpa using hb)]; exact Int.fdiv_eq_ediv_of_nonneg _ (by decide))
theorem P_shl_40 {t t' : TypeId} {x y : Operand} {k k' : IntKind} {p r : Int} (hx : ev F x = .int k p) (hy : ev F y = .int k' 40) (hb : Nat.ble 40 k.bits = true) (hr : k.wrap (p * 1099511627776) = r) : Pu P F (.binOp .shl t x y t') ty ((.int k r)) :=
  P_shl hx hy (by decide) (by rw [← hr, show min ((40 : Int).toNat) k.bits = 40 from Nat.min_eq_left (by simpa using hb)]; rfl)
theorem P_shr_40 {t t' : TypeId} {x y : Operand} {k k' : IntKind} {p : Int} (hx : ev F x = .int k p) (hy : ev F y = .int k' 40) (hb : Nat.ble 40 k.bits = true) : Pu P F (.binOp .shr t x y t') ty ((.int k (p / 1099511627776))) :=
  P_shr hx hy (by decide) (by rw [show min ((40 : Int).toNat) k.bits = 40 from Nat.min_eq_left (by simpa using hb)]; exact Int.fdiv_eq_ediv_of_nonneg _ (by decide))
theorem P_shl_48 {t t' : TypeId} {x y : Operand} {k k' : IntKind} {p r : Int} (hx : ev F x = .int k p) (hy : ev F y = .int k' 48) (hb : Nat.ble 48 k.bits = true) (hr : k.wrap (p * 281474976710656) = r) : Pu P F (.binOp .shl t x y t') ty ((.int k r)) :=
  P_shl hx hy (by decide) (by rw [← hr, show min ((48 : Int).toNat) k.bits = 48 from Nat.min_eq_left (by simpa using hb)]; rfl)
theorem P_shr_48 {t t' : TypeId} {x y : Operand} {k k' : IntKind} {p : Int} (hx : ev F x = .int k p) (hy : ev F y = .int k' 48) (hb : Nat.ble 48 k.bits = true) : Pu P F (.binOp .shr t x y t') ty ((.int k (p / 281474976710656))) :=
  P_shr hx hy (by decide) (by rw [show min ((48 : Int).toNat) k.bits = 48 from Nat.min_eq_left (by simpa using hb)]; exact Int.fdiv_eq_ediv_of_nonneg _ (by decide))
theorem P_shl_56 {t t' : TypeId} {x y : Operand} {k k' : IntKind} {p r : Int} (hx : ev F x = .int k p) (hy : ev F y = .int k' 56) (hb : Nat.ble 56 k.bits = true) (hr : k.wrap (p * 72057594037927936) = r) : Pu P F (.binOp .shl t x y t') ty ((.int k r)) :=
  P_shl hx hy (by decide) (by rw [← hr, show min ((56 : Int).toNat) k.bits = 56 from Nat.min_eq_left (by simpa using hb)]; rfl)
theorem P_shr_56 {t t' : TypeId} {x y : Operand} {k k' : IntKind} {p : Int} (hx : ev F x = .int k p) (hy : ev F y = .int k' 56) (hb : Nat.ble 56 k.bits = true) : Pu P F (.binOp .shr t x y t') ty ((.int k (p / 72057594037927936))) :=
  P_shr hx hy (by decide) (by rw [show min ((56 : Int).toNat) k.bits = 56 from Nat.min_eq_left (by simpa using hb)]; exact Int.fdiv_eq_ediv_of_nonneg _ (by decide))
/-- What a comparison of two whole numbers says. -/
def cmpP : BinOp → Int → Int → Prop
  | .eql, p, q => p = q
  | .neq, p, q => p ≠ q
  | .lss, p, q => p < q
  | .leq, p, q => p ≤ q
  | .gtr, p, q => q < p
  | .geq, p, q => q ≤ p
  | _, _, _ => False
def isCmp : BinOp → Bool
  | .eql | .neq | .lss | .leq | .gtr | .geq => true
  | _ => false
theorem P_ct {t t' : TypeId} {x y : Operand} {k : IntKind} {op : BinOp} {p q : Int} (hx : ev F x = .int k p) (hy : ev F y = .int k q) (ho : isCmp op = true) (hp : cmpP op p q) : Pu P F (.binOp op t x y t') ty (.bool true) :=
  fun dst pos after w => bin_run hx hy guard_int (by cases op <;> first | (cases ho; done) | (simp only [cmpP] at hp; simp [binOp, Op.intCmp]; omega))
theorem P_cf {t t' : TypeId} {x y : Operand} {k : IntKind} {op : BinOp} {p q : Int} (hx : ev F x = .int k p) (hy : ev F y = .int k q) (ho : isCmp op = true) (hp : ¬ cmpP op p q) : Pu P F (.binOp op t x y t') ty (.bool false) :=
  fun dst pos after w => bin_run hx hy guard_int (by cases op <;> first | (cases ho; done) | (simp only [cmpP] at hp; simp [binOp, Op.intCmp]; omega))
theorem Lst_cs {d : Nat} {t t' : TypeId} {x y : Operand} {k : IntKind} {op : BinOp} {p q : Int} (hx : ev F x = .int k p) (hy : ev F y = .int k q) (ho : isCmp op = true) (hd : Nat.blt d n = true)
    (ht : cmpP op p q → Lst P rd n ops Q rest (upd F d (.bool true)) ds w) (hf : ¬ cmpP op p q → Lst P rd n ops Q rest (upd F d (.bool false)) ds w) : Lst P rd n ops Q (⟨some d, .binOp op t x y t', ty, pos, after, none⟩ :: rest) F ds w := by
  by_cases hp : cmpP op p q
  · exact Lst_pu (P_ct hx hy ho hp) hd (ht hp)
  · exact Lst_pu (P_cf hx hy ho hp) hd (hf hp)
theorem toList_inj {s t : ByteArray} (h : s.toList = t.toList) : s = t := by
  have e : ∀ x : ByteArray, x.toList = x.data.toList := Go.ByteArray.toList_eq
  rw [e, e] at h
  cases s; cases t; simp at h; subst h; rfl
theorem P_seq_t {t t' : TypeId} {x y : Operand} {p q : ByteArray} (hx : ev F x = .string p) (hy : ev F y = .string q) (hp : p = q) : Pu P F (.binOp .eql t x y t') ty ((.bool true)) :=
  fun dst pos after w => (bin_run hx hy guard_str (by simp [binOp, Op.stringOp, hp]))
theorem P_seq_f {t t' : TypeId} {x y : Operand} {p q : ByteArray} (hx : ev F x = .string p) (hy : ev F y = .string q) (hp : p ≠ q) : Pu P F (.binOp .eql t x y t') ty ((.bool false)) :=
  have e : (p.toList == q.toList) = false := beq_eq_false_iff_ne.2 fun e => hp (toList_inj e)
  fun dst pos after w => (bin_run hx hy guard_str (by simp only [binOp, Op.stringOp, e]; rfl))
theorem P_sne_t {t t' : TypeId} {x y : Operand} {p q : ByteArray} (hx : ev F x = .string p) (hy : ev F y = .string q) (hp : p ≠ q) : Pu P F (.binOp .neq t x y t') ty ((.bool true)) :=
  have e : (p.toList == q.toList) = false := beq_eq_false_iff_ne.2 fun e => hp (toList_inj e)
  fun dst pos after w => (bin_run hx hy guard_str (by simp only [binOp, Op.stringOp, e]; rfl))
theorem P_sne_f {t t' : TypeId} {x y : Operand} {p q : ByteArray} (hx : ev F x = .string p) (hy : ev F y = .string q) (hp : p = q) : Pu P F (.binOp .neq t x y t') ty ((.bool false)) :=
  fun dst pos after w => (bin_run hx hy guard_str (by simp [binOp, Op.stringOp, hp]))
theorem P_sadd {t t' : TypeId} {x y : Operand} {p q : ByteArray} (hx : ev F x = .string p) (hy : ev F y = .string q) (hp : p.size + q.size ≤ 9223372036854775807) : Pu P F (.binOp .add t x y t') ty ((.string (p ++ q))) :=
  fun dst pos after w => (bin_run hx hy guard_str (by
    have : ¬ (((p.size + q.size : Nat) : Int) > IntKind.i64.max) := by simp [IntKind.max, IntKind.signed, IntKind.bits]; omega
    simp only [binOp, Op.stringOp, this, if_false]
    rfl))
theorem guard_bool {op : BinOp} {t : TypeId} {x y : Operand} {p q : Bool} : (eqGuard op t x y (.bool p) (.bool q)).run P w = .ok () w := by
  cases op <;> simp [eqGuard, Sem.run_pure]
theorem run_equal_bool {t : TypeId} (ht : P.underlying t = some .bool) (p q : Bool) : (Op.equal t (.bool p) (.bool q)).run P w = .ok (p == q) w := by
  have h : ∀ d, (Op.equalIn (d + 1) t (.bool p) (.bool q)).run P w = .ok (p == q) w := fun d => by simp [Op.equalIn, run_underlying ht]
  exact h 9999
theorem P_beq {t t' : TypeId} {x y : Operand} {p q r : Bool} (hx : ev F x = .bool p) (hy : ev F y = .bool q) (ht : P.underlying t = some .bool) (hr : (p == q) = r) : Pu P F (.binOp .eql t x y t') ty ((.bool r)) :=
  fun dst pos after w => (bin_run hx hy guard_bool (by subst hr; simp [binOp, run_equal_bool ht]))
theorem P_bne {t t' : TypeId} {x y : Operand} {p q r : Bool} (hx : ev F x = .bool p) (hy : ev F y = .bool q) (ht : P.underlying t = some .bool) (hr : (p != q) = r) : Pu P F (.binOp .neq t x y t') ty ((.bool r)) :=
  fun dst pos after w => (bin_run hx hy guard_bool (by subst hr; simp [binOp, run_equal_bool ht, bne]))
theorem P_not {t : TypeId} {x : Operand} {p r : Bool} (hx : ev F x = .bool p) (hr : (!p) = r) : Pu P F (.unOp .not t x) ty ((.bool r)) :=
  fun dst pos after w => (by subst hr; simp [execOp, hx, Op.unary])
theorem P_neg {t : TypeId} {x : Operand} {k : IntKind} {p r : Int} (hx : ev F x = .int k p) (hr : k.wrap (0 - p) = r) : Pu P F (.unOp .neg t x) ty ((.int k r)) :=
  fun dst pos after w => (by subst hr; simp [execOp, hx, Op.unary, Op.intArith])
theorem P_conv {t t' : TypeId} {x : Operand} {k k' : IntKind} {u : TypeDesc} {p r : Int} (hx : ev F x = .int k p) (ht : P.underlying t = some u) (ht' : P.underlying t' = some (.int k')) (hr : k'.wrap p = r) : Pu P F (.convert t t' x) ty ((.int k' r)) :=
  fun dst pos after w => (by subst hr; simp [execOp, hx, convert, run_underlying ht, run_underlying ht', Conv.intToInt])
/-! ### Strings, tuples, functions -/
theorem P_sindex {t : TypeId} {x i : Operand} {k : IntKind} {s : ByteArray} {m : Int} (hx : ev F x = .string s) (hi : ev F i = .int k m) (ht : P.underlying t = some .string) (h0 : 0 ≤ m) (h1 : m < s.size) : Pu P F (.index t x i) ty ((.int .u8 (sb s m.toNat))) :=
  fun dst pos after w => (by
    have hlt : m.toNat < s.size := by omega
    have e : s[m.toNat]? = some (s.data.toList.getD m.toNat 0) := by
      have hl : m.toNat < s.data.toList.length := by simpa using hlt
      rw [List.getD_eq_getElem?_getD, List.getElem?_eq_getElem hl]
      simp [getElem?_pos, hlt]
      rfl
    simp only [execOp, hx, hi, Instr.index, asIntOf, Sem.run_bind, Sem.run_pure, Result.andThen, run_underlying ht, h0, if_true, e]
    rfl)
theorem P_sindex0 {t : TypeId} {x i : Operand} {k : IntKind} {s : ByteArray} (hx : ev F x = .string s) (hi : ev F i = .int k 0) (ht : P.underlying t = some .string) (h1 : 0 < s.size) : Pu P F (.index t x i) ty ((.int .u8 (sb s 0))) :=
  P_sindex hx hi ht (by decide) (by omega)
theorem P_sindexN {j : Nat} {t : TypeId} {x i : Operand} {k : IntKind} {s : ByteArray} (hx : ev F x = .string s) (hi : ev F i = .int k (j : Int)) (ht : P.underlying t = some .string) (h1 : j < s.size) : Pu P F (.index t x i) ty ((.int .u8 (sb s j))) :=
  P_sindex hx hi ht (by omega) (by omega)
theorem P_slen {x : Operand} {t : TypeId} {s : ByteArray} (hx : ev F x = .string s) (ht : P.underlying t = some .string) : Pu P F (.call { callee := .builtin .len, args := #[x], argTypes := #[t] }) ty ((.int .i64 s.size)) :=
  fun dst pos after w => (by simp [execOp, resolve, invoke, builtin, Builtin.len_, hx, run_underlying ht, goInt])
theorem P_llen {x : Operand} {t e : TypeId} {b : Option Addr} {l c : Nat} (hx : ev F x = .slice b l c) (ht : P.underlying t = some (.slice e)) : Pu P F (.call { callee := .builtin .len, args := #[x], argTypes := #[t] }) ty ((.int .i64 l)) :=
  fun dst pos after w => (by simp [execOp, resolve, invoke, builtin, Builtin.len_, hx, run_underlying ht, goInt])
/-- s[lo:], s[:hi], s[lo:hi] -/
theorem P_sslice_lo {t : TypeId} {x lo : Operand} {k : IntKind} {s : ByteArray} {m : Int} (hx : ev F x = .string s) (hlo : ev F lo = .int k m) (ht : P.underlying t = some .string) (h0 : 0 ≤ m) (h1 : m ≤ s.size) : Pu P F (.slice t x (some lo) none none) ty ((.string (s.extract m.toNat s.size))) :=
  fun dst pos after w => (by simp [execOp, hx, hlo, Instr.sliceAt, Instr.slice, Instr.sliceBounds, Instr.sliceBound, asIntOf, run_underlying ht, h0, h1])
theorem P_sslice_hi {t : TypeId} {x hi : Operand} {k : IntKind} {s : ByteArray} {m : Int} (hx : ev F x = .string s) (hhi : ev F hi = .int k m) (ht : P.underlying t = some .string) (h0 : 0 ≤ m) (h1 : m ≤ s.size) : Pu P F (.slice t x none (some hi) none) ty ((.string (s.extract 0 m.toNat))) :=
  fun dst pos after w => (by simp [execOp, hx, hhi, Instr.sliceAt, Instr.slice, Instr.sliceBounds, Instr.sliceBound, asIntOf, run_underlying ht, h0, h1])
theorem P_sslice {t : TypeId} {x lo hi : Operand} {k k' : IntKind} {s : ByteArray} {m m' : Int} (hx : ev F x = .string s) (hlo : ev F lo = .int k m) (hhi : ev F hi = .int k' m') (ht : P.underlying t = some .string) (h0 : 0 ≤ m) (h1 : m ≤ m') (h2 : m' ≤ s.size) : Pu P F (.slice t x (some lo) (some hi) none) ty ((.string (s.extract m.toNat m'.toNat))) :=
  fun dst pos after w => (by
    obtain ⟨q, rfl⟩ := Int.eq_ofNat_of_zero_le (show 0 ≤ m' by omega)
    have a1 : (0 : Int) ≤ (q : Int) := by omega
    have a2 : q ≤ s.size := by omega
    simp [execOp, hx, hlo, hhi, Instr.sliceAt, Instr.slice, Instr.sliceBounds, Instr.sliceBound, asIntOf, run_underlying ht, h0, h1, a1, a2])
theorem P_extract {i : Nat} {x : Operand} {vs : List Value} {v : Value} (hx : ev F x = .tuple vs.toArray) (hv : vs[i]? = some v) : Pu P F (.extract x i) ty (v) :=
  fun dst pos after w => (by simp [execOp, hx, Instr.extract, hv])
theorem map_evs (l : List Operand) : (l.toArray.map (ev F)) = (evs F l).toArray := by
  have : ∀ l : List Operand, l.map (ev F) = evs F l := fun l => by induction l with | nil => rfl | cons x l ih => simp [evs, ih]
  simp [this]
theorem P_makeFunc {fn : Fn} {fs cs : List Operand} {us vs : List Value} (hf : FcL (evs F fs) us) (hc : FcL (evs F cs) vs) : Pu P F (.makeFunc fn fs.toArray cs.toArray) ty ((.func fn us.toArray vs.toArray)) :=
  fun dst pos after w => (by rw [← hf.eq, ← hc.eq, ← map_evs, ← map_evs]; rfl)
/-- A call of a function value that is a Go function with what it captured. -/
theorem Lst_call {d : Option Nat} {f : Operand} {as : List Operand} {cs : List Value} {g : Nat} {ts : Array TypeId} (hf : ev F f = .func (.func g) #[] cs.toArray) (hd : okd n d = true)
    (h : Does P g (evs F as ++ cs).toArray w fun v w' => Lst P rd n ops Q rest (updO F d v) ds w') : Lst P rd n ops Q (⟨d, .call { callee := .value f, args := as.toArray, argTypes := ts }, ty, pos, after, none⟩ :: rest) F ds w :=
  Lst_enter rfl (by
    have e := h.1 (evs F as ++ cs).toArray w
    have e2 := map_evs (F := F) as
    simp only [execOp, resolve, hf, Deferred.ofValue, invoke, Sem.run_bind, Sem.run_pure, Result.andThen, e2]
    simpa using e) hd h.2

/-! ### Memory -/
theorem Lst_alloc {d e B : Nat} {i : TypeInfo} {z : Value} {cs : List Value} (hi : P.info? e = some i) (hz : i.zero = some z) (hc : z.cells = cs.toArray) (hB : w.heap.size = B) (hd : Nat.blt d n = true)
    (h : Lst P rd n ops Q rest (upd F d (.pointer (some ⟨B, 0, none⟩))) ds (w.alloc (.cells cs.toArray e))) : Lst P rd n ops Q (⟨some d, .alloc e, ty, pos, after, none⟩ :: rest) F ds w :=
  Lst_value rfl (by subst hB; simp [execOp, Instr.alloc, zeroValue, typeInfo, hi, hz, newVar, newRow, hc]) hd h
theorem Lst_box {d e B : Nat} {x : Operand} {v : Value} {cs : List Value} (hx : Fc (ev F x) v) (hc : v.cells = cs.toArray) (hB : w.heap.size = B) (hd : Nat.blt d n = true)
    (h : Lst P rd n ops Q rest (upd F d (.pointer (some ⟨B, 0, none⟩))) ds (w.alloc (.cells cs.toArray e))) : Lst P rd n ops Q (⟨some d, .box e x, ty, pos, after, none⟩ :: rest) F ds w :=
  Lst_value rfl (by subst hB; simp [execOp, Instr.box, hx.eq, newVar, newRow, hc]) hd h
def aggT : TypeDesc → Bool
  | .struct _ | .array _ _ => true
  | _ => false
theorem run_isAgg {t : TypeId} {u : TypeDesc} (ht : P.underlying t = some u) (w : World) : (isAgg t).run P w = .ok (aggT u) w := by
  unfold isAgg
  simp only [Sem.run_bind, run_underlying ht, Result.andThen]
  cases u <;> rfl
theorem Lst_loadc {d : Nat} {x : Operand} {t : TypeId} {u : TypeDesc} {p : Addr} {v : Value} (hx : ev F x = .pointer (some p)) (ht : P.underlying t = some u) (hu : aggT u = false) (hv : w.cell? p = some v) (hd : Nat.blt d n = true)
    (h : Lst P rd n ops Q rest (upd F d v) ds w) : Lst P rd n ops Q (⟨some d, .load t x, ty, pos, after, none⟩ :: rest) F ds w :=
  Lst_value rfl (by simp [execOp, hx, Instr.loadAt, Instr.sureAddr, loadVar, run_isAgg ht, hu, load, Sem.run, hv]) hd h
theorem Lst_load {d : Nat} {x : Operand} {t e : TypeId} {u : TypeDesc} {b off : Nat} {l : List Value} {v : Value} (hx : ev F x = .pointer (some ⟨b, off, none⟩)) (ht : P.underlying t = some u) (hu : aggT u = false) (hb : Blk w b l e) (hv : l[off]? = some v) (hd : Nat.blt d n = true)
    (h : Lst P rd n ops Q rest (upd F d v) ds w) : Lst P rd n ops Q (⟨some d, .load t x, ty, pos, after, none⟩ :: rest) F ds w :=
  Lst_loadc hx ht hu ((hb.cell off).trans hv) hd h
theorem Lst_store {x y : Operand} {t e : TypeId} {i : TypeInfo} {b off : Nat} {l l' : List Value} {v : Value} (hx : ev F x = .pointer (some ⟨b, off, none⟩)) (hy : Fc (ev F y) v) (hi : P.info? t = some i) (hs : i.size = 1) (h1 : v.cells = #[v]) (ho : v.oneCell' = true) (hb : Blk w b l e) (hl : SetR l off v l')
    (h : Lst P rd n ops Q rest F ds (w.putObj b (.cells l'.toArray e))) : Lst P rd n ops Q (⟨none, .store t x y, ty, pos, after, none⟩ :: rest) F ds w :=
  Lst_unit rfl (by
    obtain ⟨old, hold⟩ := hl.some
    have hc := (hb.cell off).trans hold
    have hf := hb.frozen off
    have hst : (store ⟨b, off, none⟩ v).run P w = .ok () (w.setCell ⟨b, off, none⟩ v) := by
      unfold store
      cases v <;> first | (simp [Value.oneCell'] at ho; done) | simp [Sem.run, hc, hf]
    rw [← hl.eq, ← hb.set]
    have ha : (⟨b, off, none⟩ : Addr).add 0 = ⟨b, off, none⟩ := rfl
    simp [execOp, hx, hy.eq, Instr.storeAt, Instr.sureAddr, storeVar, sizeOf, typeInfo, hi, hs, h1, storeCells, ha, hst]) rfl h
theorem W_abs {c : Code} (M : World → Prop) (h : M w) (k : ∀ w', M w' → W P rd n c Q F ds w') : W P rd n c Q F ds w := k w h
theorem Lst_abs (M : World → Prop) (h : M w) (k : ∀ w', M w' → Lst P rd n ops Q rest F ds w') : Lst P rd n ops Q rest F ds w := k w h
theorem Below.put {m b : Nat} {X : World} (h : Below m X w) (hb : m ≤ b) (o : Obj) : Below m X (w.putObj b o) :=
  ⟨h.os, h.tape, h.output, by have := h.size; simpa using this, fun k hk => (World.putObj_heap_other (by omega)).trans (h.block k hk)⟩
end ops
end Sx
end Go.Proofs.YtfocnbmihcnaoaaGreatDoor
