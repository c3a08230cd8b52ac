/- Merged: SxE, SxFail, SxM, SxMapG. -/
import Derived.Test.YtmgipnckojopcaaGreatPcSxGo
import Derived.RecoverIn
import Derived.MapKept
import Derived.Laws.IdiomRangeMap
import Derived.WideKeyRuns
namespace Go.Proofs.YtmgipnckojopcaaGreat
set_option maxRecDepth 100000
namespace Sx
open Go Go.RowKit
section act
variable {P : Program} {r : Nat} {ops : Array Oper} {md : Region.Mode} {S : World → Prop} {Q : Exit → Act → World → Prop}
/-- Whatever order is picked, and S holds behind every operation. -/
def AnyS (r : Nat) (P : Program) (md : Region.Mode) (ops : Array Oper) (Q : Exit → Act → World → Prop) (S : World → Prop) : Nat → Array Bool → Act → World → Prop
  | 0, x, a, w => Region.ready md ops x = [] ∧ Q .normal a w
  | f + 1, x, a, w => (Region.ready md ops x = [] → Q .normal a w) ∧ ∀ i ∈ Region.ready md ops x, wpOpIn En r P ops Q i (fun a' w' => S w' ∧ AnyS r P md ops Q S f (x.setIfInBounds i true) a' w') a w
theorem anyIn_of_S : ∀ (f : Nat) (x : Array Bool) (a : Act) (w : World), AnyS r P md ops Q S f x a w → wpAnyIn En r P md ops Q f x a w
  | 0, _, _, _, h => h
  | f + 1, _, _, _, h => ⟨h.1, fun i hi => wpOpIn_mono (fun a' w' h' => anyIn_of_S f _ a' w' h'.2) (h.2 i hi)⟩
theorem anyS_first {i : Nat} {oi : Oper} {v : Value} (hi : ops[i]? = some oi) (hsel : ∀ (j : Nat) (o : Oper) cs b, ops[j]? = some o → o.op ≠ .select cs b)
    (hQ : ∀ c a w, ¬ Q (.panic c) a w) :
    ∀ (fuel : Nat) (x : Array Bool) (a : Act) (w : World),
      (∀ j oj, ops[j]? = some oj → j ≠ i → x.getD j true = false → (∀ e ∈ oj.after, Region.binds md e = true → e.on ≠ i) → oi.apart ops oj = true) →
      i ∈ Region.ready md ops x → YieldsS P ops S oi v a → S w →
      AnyS r P md ops Q S fuel (x.setIfInBounds i true) (a.put oi.dst v) w → AnyS r P md ops Q S (fuel + 1) x a w := by
  intro fuel
  induction fuel with
  | zero =>
    intro x a w _ hr hy hS H
    refine ⟨fun h => (by rw [h] at hr; cases hr), fun j hj => ?_⟩
    by_cases hji : j = i
    · subst hji; exact hy.op hi hS ⟨hS, H⟩
    · have := ready_mono hj hji
      rw [H.1] at this
      cases this
  | succ fuel ih =>
    intro x a w hfree hr hy hS H
    refine ⟨fun h => (by rw [h] at hr; cases hr), fun j hj => ?_⟩
    by_cases hji : j = i
    · subst hji; exact hy.op hi hS ⟨hS, H⟩
    · have h1 := H.2 j (ready_mono hj hji)
      obtain ⟨hjun, oj, hoj, hall⟩ := mem_ready.1 hj
      have hnot : ∀ e ∈ oj.after, Region.binds md e = true → e.on ≠ i := fun e he hb heq => by
        have h1 := hall e he hb
        have h0 := (mem_ready.1 hr).1
        rw [heq] at h1
        rw [getD_both h0] at h1
        cases h1
      have h2 := opIn_putS hoj (hfree j oj hoj hji hjun hnot) (fun cs b => hsel i oi cs b hi) (fun cs b => hsel j oj cs b hoj) hQ hy h1
      have hfree' : ∀ k ok, ops[k]? = some ok → k ≠ i → (x.setIfInBounds j true).getD k true = false →
          (∀ e ∈ ok.after, Region.binds md e = true → e.on ≠ i) → oi.apart ops ok = true := fun k ok hk hki hun hno => by
        refine hfree k ok hk hki ?_ hno
        by_cases hjk : j = k
        · subst hjk; exact hjun
        · rw [getD_set_ne true hjk] at hun; exact hun
      refine wpOpIn_mono (fun a' w' h3 => ⟨h3.2.1, ih (x.setIfInBounds j true) a' w' hfree' (ready_mono hr (Ne.symm hji)) h3.1 h3.2.1 ?_⟩) h2
      rw [Array.setIfInBounds_comm _ _ hji]
      exact h3.2.2
end act

section fr
variable {P : Program} {n : Nat} {C S : World → Prop} {F : Fr} {ds : List Deferred} {w : World}
/-- The region's rest, where S holds behind every operation: pure operations may be taken first, others branch. -/
def RnS (P : Program) (n : Nat) (l : List Oper) (S : World → Prop) (Q : Post) (g : Nat) (L : List Nat) (F : Fr) (ds : List Deferred) (w : World) : Prop :=
  ∀ r a, Fits n F ds a → AnyS r P .any l.toArray (lift n Q) S g (lst l.length L) a w
theorem W_drawS {id : Nat} {l : List Oper} {Q : Post} (g : Nat) (S : World → Prop) (hm : P.follows .mixedOrders = true) (hg : l.length = g) (h : RnS P n l S Q g [] F ds w.drew) : W P none n (.region id l.toArray true) Q F ds w := fun r a hf => by
  refine wpIn_region_any hm ?_
  subst hg
  have := anyIn_of_S _ _ _ _ (h r a hf)
  simpa [lst] using this
/-- Whichever of those that can come up. -/
theorem S_any {l : List Oper} {Q : Post} {g' : Nat} {L : List Nat} (rs : List Nat) (g : Nat) (hg : g' = g + 1) (hB : (decide (Region.ready .any l.toArray (lst l.length L) = rs) && !rs.isEmpty) = true)
    (h : ∀ i ∈ rs, Lst P none n l.toArray (rnQ Q (fun G ds' w' => S w' ∧ RnS P n l S Q g (i :: L) G ds' w')) (nth l i) F ds w) : RnS P n l S Q g' L F ds w := fun r a hf => by
  subst hg
  simp only [Bool.and_eq_true, decide_eq_true_eq] at hB
  obtain ⟨hr, hne⟩ := hB
  refine ⟨fun e => (by rw [hr] at e; subst e; simp at hne), fun j hj => ?_⟩
  have hj' := hj
  rw [hr] at hj'
  obtain ⟨_, o, ho, _⟩ := mem_ready.1 hj
  refine op_of_lst ho ?_ (h j hj') hf
  rintro a w ⟨G, ds', hG, hS, hR⟩
  exact ⟨hS, hR r a hG⟩
theorem all1 {p : Nat → Prop} {i : Nat} (h : p i) : ∀ j ∈ [i], p j := by simpa using h
theorem all2 {p : Nat → Prop} {i k : Nat} (h : p i) (h2 : p k) : ∀ j ∈ [i, k], p j := by simp [h, h2]
theorem S_done {l : List Oper} {Q : Post} {L : List Nat} (hB : (Region.ready .any l.toArray (lst l.length L)).isEmpty = true) (h : Q .normal F ds w) : RnS P n l S Q 0 L F ds w := fun _ _ hf =>
  ⟨by simpa using hB, F, ds, hf, h⟩
end fr
end Sx
namespace Sx
open Go Go.RowKit
section fr
variable {P : Program} {n : Nat} {S : World → Prop} {F : Fr} {ds : List Deferred} {w : World}
end fr
end Sx
namespace Sx
open Go Go.RowKit
/-- No call. -/
def plainOp : Op → Bool
  | .move _ | .assign _ | .pick _ _ _ | .build _ _ | .load _ _ | .binOp _ _ _ _ _ | .unOp _ _ _ | .convert _ _ _ | .makeInterface _ _ | .makeFunc _ _ _ | .fieldAddr _ _ _ | .field _ _ _ | .indexAddr _ _ _ | .index _ _ _ | .lookup _ _ _ _ | .typeAssert _ _ _ _ | .extract _ _ | .slice _ _ _ _ _ => true
  | .nilCheck _ => true
  | _ => false
section fr
variable {P : Program} {n : Nat} {C S : World → Prop} {F : Fr} {ds : List Deferred} {w : World}
theorem yv_bind {α : Type} {m : Sem α} {k : α → Sem Next} (hk : ∀ b w x w', (k b).run P w = .ok x w' → ∃ u, x = .value u) {w w' : World} {x : Next} (h : (m >>= k).run P w = .ok x w') : ∃ u, x = .value u := by
  rw [Sem.run_bind] at h
  cases hs : m.run P w with
  | ok v w2 => rw [hs] at h; exact hk _ _ _ _ h
  | halt v w2 => rw [hs] at h; cases h
theorem plain_value {o : Oper} {a : Act} {v : Value} (hc : plainOp o.op = true) (h : o.quietAt P a C w v) : (execOp a.eval o).run P w = .ok (.value v) w := by
  unfold Oper.quietAt at h
  have key : ∀ x w', (execOp a.eval o).run P w = .ok x w' → ∃ u, x = .value u := by
    intro x w' hx
    unfold execOp at hx
    split at hx <;> simp only [*, plainOp, Bool.false_eq_true] at hc
    all_goals first
      | exact run_value hx
      | (simp only [Sem.run_pure] at hx; cases hx; exact ⟨_, rfl⟩)
      | skip
    · exact yv_bind (fun b w x w' hx => by simp only [Sem.run_pure] at hx; cases hx; exact ⟨_, rfl⟩) hx
    · split at hx
      · cases hx
      · cases hx
      · cases hx
      · split at hx
        · cases hx
        · exact yv_bind (fun b w x w' hx => yv_bind (fun c w x w' hx => by
            split at hx
            · exact yv_bind (fun d w x w' hx => by simp only [Sem.run_pure] at hx; cases hx; exact ⟨_, rfl⟩) hx
            · simp only [Sem.run_pure] at hx; cases hx; exact ⟨_, rfl⟩) hx) hx
        · simp only [Sem.run_pure] at hx; cases hx; exact ⟨_, rfl⟩
      · simp only [Sem.run_pure] at hx; cases hx; exact ⟨_, rfl⟩
  cases hz : (execOp a.eval o).run P w with
  | halt x w' => rw [hz] at h; exact h.elim
  | ok x w' =>
    obtain ⟨u, rfl⟩ := key x w' hz
    rw [hz] at h
    simp only [Oper.quietUpon] at h
    rw [h.1, h.2]
theorem S_takeV {l : List Oper} {Q : Post} {g' : Nat} {L : List Nat} (i g : Nat) (hg : g' = g + 1) (hB : (Region.noSelect l.toArray && (Region.ready .any l.toArray (lst l.length L)).contains i && Region.free .any l.toArray (lst l.length L) i && (nth l i).all (fun o => plainOp o.op)) = true)
    (hQ : ∀ c F ds w, ¬ Q (.panic c) F ds w) (hS : S w) (h : Qst P n l.toArray S (fun G => RnS P n l S Q g (i :: L) G ds w) (nth l i) F ds) : RnS P n l S Q g' L F ds w := fun r a hf => by
  subst hg
  have hQ' : ∀ c a w, ¬ lift n Q (.panic c) a w := fun c a w ⟨F, ds, _, h⟩ => hQ c F ds w h
  simp only [Bool.and_eq_true] at hB
  obtain ⟨⟨⟨hsel, hr⟩, hfree⟩, hc⟩ := hB
  have hr : i ∈ Region.ready .any l.toArray (lst l.length L) := by simpa using hr
  obtain ⟨_, o, ho, _⟩ := mem_ready.1 hr
  rw [nth_some ho] at hc h
  simp only [List.all_cons, List.all_nil, Bool.and_true] at hc
  have h := h a hf
  have : ∃ v, YieldsS P l.toArray S o v a ∧ ∃ G, Fits n G ds (a.put o.dst v) ∧ RnS P n l S Q g (i :: L) G ds w := by
    unfold wpQuiet at h
    by_cases hw : Region.wanted o (yielded l.toArray a.tmps) = true
    · rw [if_pos hw] at h
      obtain ⟨v, h1, G, hG, h2⟩ := h
      exact ⟨v, .inl ⟨hw, fun w' hw' => plain_value hc (h1 w' hw')⟩, G, hG, h2⟩
    · rw [if_neg hw] at h
      obtain ⟨G, hG, h2⟩ := h
      exact ⟨undef, .inr ⟨by simpa using hw, rfl⟩, G, hG, h2⟩
  obtain ⟨v, hy, G, hG, hT⟩ := this
  exact anyS_first ho (Region.noSelect_spec hsel) hQ' g _ a w (Region.free_spec ho hfree) hr hy hS (hT r _ hG)
end fr
end Sx
namespace Sx
open Go Go.RowKit
section fail
variable {P : Program} {n : Nat}
variable {F : Fr} {ds : List Deferred} {w : World}
variable {rd : Option Nat} {ops : Array Oper} {Q : Post} {rest : List Oper} {ty : TypeId} {pos : String} {after : Array Edge}
/-! ### Leaving with deferred calls -/
/-! ### Values of an interface type -/
end fail
end Sx
namespace Sx
open Go Go.RowKit Go.MapKept

/-- Two lists, member by member. -/
def All2 {β γ : Type} (r : β → γ → Prop) : List β → List γ → Prop
  | [], [] => True
  | a :: l, b :: m => r a b ∧ All2 r l m
  | _, _ => False
section lists
variable {α : Type}
def look : List (ByteArray × α) → ByteArray → Option α
  | [], _ => none
  | p :: l, k => if p.1 = k then some p.2 else look l k
def put : List (ByteArray × α) → ByteArray → α → List (ByteArray × α)
  | [], k, a => [(k, a)]
  | p :: l, k, a => if p.1 = k then (k, a) :: l else p :: put l k a
def del : List (ByteArray × α) → ByteArray → List (ByteArray × α)
  | [], _ => []
  | p :: l, k => if p.1 = k then l else p :: del l k
/-- An entry of a map's block, and what it stands for. -/
def Ent (R : Value → α → Prop) (e : MapEntry) (q : ByteArray × α) : Prop := e.key = .string q.1 ∧ R e.val q.2
theorem All2.len {β γ : Type} {r : β → γ → Prop} : ∀ {l : List β} {m : List γ}, All2 r l m → l.length = m.length
  | [], [], _ => rfl
  | _ :: _, _ :: _, h => by simp [All2.len h.2]
  | [], _ :: _, h => h.elim
  | _ :: _, [], h => h.elim
theorem All2.mono {β γ : Type} {r r' : β → γ → Prop} (hr : ∀ a b, r a b → r' a b) : ∀ {l : List β} {m : List γ}, All2 r l m → All2 r' l m
  | [], [], _ => trivial
  | _ :: _, _ :: _, h => ⟨hr _ _ h.1, All2.mono hr h.2⟩
  | [], _ :: _, h => h.elim
  | _ :: _, [], h => h.elim
theorem All2.append {β γ : Type} {r : β → γ → Prop} : ∀ {l l' : List β} {m m' : List γ}, All2 r l m → All2 r l' m' → All2 r (l ++ l') (m ++ m')
  | [], _, [], _, _, h' => h'
  | _ :: _, _, _ :: _, _, h, h' => ⟨h.1, All2.append h.2 h'⟩
  | [], _, _ :: _, _, h, _ => h.elim
  | _ :: _, _, [], _, h, _ => h.elim
theorem put_none : ∀ {l : List (ByteArray × α)} {k : ByteArray} {a : α}, look l k = none → put l k a = l ++ [(k, a)]
  | [], _, _, _ => rfl
  | p :: l, k, a, h => by
    unfold look at h
    unfold put
    by_cases e : p.1 = k
    · rw [if_pos e] at h; cases h
    · rw [if_neg e] at h ⊢; rw [put_none h]; rfl
/-- Where a key stands, or that it does not. -/
theorem find_ent {R : Value → α → Prop} (k : ByteArray) : ∀ (l : List MapEntry) (m : List (ByteArray × α)) (i : Nat), All2 (Ent R) l m →
    (look m k = none ∧ Instr.findNow .string (.string k) l i = some none ∧ ∀ x ∈ l, x.key ≠ .string k) ∨
    ∃ j e a, look m k = some a ∧ Instr.findNow .string (.string k) l i = some (some (i + j, e.val)) ∧ l[j]? = some e ∧ e.key = .string k ∧ R e.val a ∧
      (∀ v b, R v b → All2 (Ent R) (l.set j { e with val := v }) (put m k b)) ∧ All2 (Ent R) (l.eraseIdx j) (del m k)
  | [], [], i, _ => .inl ⟨rfl, rfl, by simp⟩
  | e :: l, q :: m, i, h => by
    have hs : Instr.sameNow .string (.string k) e.key = some (k == q.1) := by rw [h.1.1]; rfl
    by_cases hk : q.1 = k
    · right
      refine ⟨0, e, q.2, by simp [look, hk], ?_, rfl, by rw [h.1.1, hk], h.1.2, fun v b hb => ?_, ?_⟩
      · unfold Instr.findNow
        have hb : (k == q.1) = true := (MapKept.bytes_beq _ _).2 hk.symm
        rw [hs, hb]
        simp
      · rw [show put (q :: m) k b = (k, b) :: m by simp [put, hk]]
        exact ⟨⟨by rw [← hk]; exact h.1.1, hb⟩, h.2⟩
      · rw [show del (q :: m) k = m by simp [del, hk]]
        exact h.2
    · have hne : (k == q.1) = false := by
        cases hb : (k == q.1) with
        | false => rfl
        | true => exact absurd ((MapKept.bytes_beq _ _).1 hb).symm hk
      rcases find_ent k l m (i + 1) h.2 with ⟨h1, h2, h3⟩ | ⟨j, e', a, h1, h2, h3, h4, h5, h6, h7⟩
      · left
        refine ⟨by simp [look, hk, h1], ?_, ?_⟩
        · unfold Instr.findNow
          rw [hs, hne]
          exact h2
        · intro x hx
          rcases List.mem_cons.1 hx with rfl | hx
          · rw [h.1.1]; exact fun e => hk (by cases e; rfl)
          · exact h3 x hx
      · right
        refine ⟨j + 1, e', a, by simp [look, hk, h1], ?_, by simpa using h3, h4, h5, fun v b hb => ?_, ?_⟩
        · unfold Instr.findNow
          rw [hs, hne]
          rw [h2, Nat.add_assoc, Nat.add_comm 1 j]
        · rw [show put (q :: m) k b = q :: put m k b by simp [put, hk]]
          exact ⟨h.1, h6 v b hb⟩
        · rw [show del (q :: m) k = q :: del m k by simp [del, hk]]
          exact ⟨h.1, h7⟩
  | [], _ :: _, _, h => h.elim
  | _ :: _, [], _, h => h.elim
end lists

/-- Nothing but these blocks has turned; there may be new ones. -/
structure Chg (bs : List Nat) (w w' : World) : Prop where
  os : w'.os = w.os
  tape : w'.tape = w.tape
  output : w'.output = w.output
  size : w.heap.size ≤ w'.heap.size
  block : ∀ g, g < w.heap.size → g ∉ bs → w'.heap[g]? = w.heap[g]?
theorem Chg.refl (bs : List Nat) (w : World) : Chg bs w w := ⟨rfl, rfl, rfl, Nat.le_refl _, fun _ _ _ => rfl⟩
theorem Chg.trans {bs : List Nat} {x y z : World} (h : Chg bs x y) (k : Chg bs y z) : Chg bs x z :=
  ⟨k.os.trans h.os, k.tape.trans h.tape, k.output.trans h.output, Nat.le_trans h.size k.size, fun g h1 h2 => (k.block g (Nat.lt_of_lt_of_le h1 h.size) h2).trans (h.block g h1 h2)⟩
theorem Chg.of {bs : List Nat} {w w' : World} (h : Below w.heap.size w w') : Chg bs w w' := ⟨h.os, h.tape, h.output, h.size, fun g h1 _ => h.block g h1⟩
theorem Chg.alloc {bs : List Nat} {w w' : World} (h : Chg bs w w') (o : Obj) : Chg bs w (w'.alloc o) := h.trans (.of ((Below.refl _ _).alloc (Nat.le_refl _) o))
theorem Chg.put {bs : List Nat} {w w' : World} {b : Nat} (h : Chg bs w w') (hb : b ∈ bs ∨ w.heap.size ≤ b) (o : Obj) : Chg bs w (w'.putObj b o) :=
  ⟨h.os, h.tape, h.output, by rw [World.putObj_size]; exact h.size, fun g h1 h2 => (World.putObj_heap_other (by
    rintro rfl
    rcases hb with hb | hb
    · exact h2 hb
    · omega)).trans (h.block g h1 h2)⟩
theorem Chg.blk {bs : List Nat} {w w' : World} {g : Nat} {l : List Value} {e : TypeId} (h : Chg bs w w') (hb : Blk w g l e) (hne : g ∉ bs) : Blk w' g l e := (h.block g hb.lt hne).trans hb

section map
variable {α : Type} {R : Value → α → Prop} {es : List (ByteArray × α)} {mb : Nat} {w : World}
/-- Block mb is a map with these keys, in the order in which they came, and values that stand for these. -/
def MpAt (w : World) (mb : Nat) (R : Value → α → Prop) (es : List (ByteArray × α)) : Prop := ∃ arr clock, w.heap[mb]? = some (.map arr clock) ∧ Stamped arr clock ∧ All2 (Ent R) arr.toList es
theorem MpAt.mono {R' : Value → α → Prop} {w' : World} (h : MpAt w mb R es) (hb : w'.heap[mb]? = w.heap[mb]?) (hR : ∀ v a, R v a → R' v a) : MpAt w' mb R' es := by
  obtain ⟨arr, clock, h1, h2, h3⟩ := h
  exact ⟨arr, clock, hb.trans h1, h2, h3.mono fun _ _ h => ⟨h.1, hR _ _ h.2⟩⟩
theorem MpAt.lt (h : MpAt w mb R es) : mb < w.heap.size := by
  obtain ⟨arr, clock, h1, _⟩ := h
  exact (Array.getElem?_eq_some_iff.1 h1).1
theorem MpAt.new (w : World) (R : Value → α → Prop) : MpAt (w.alloc (.map #[] 0)) w.heap.size R [] := ⟨#[], 0, (heap_alloc w _).1, stamped_empty 0, trivial⟩
theorem MpAt.drew (h : MpAt w mb R es) : MpAt w.drew mb R es := h
theorem MpAt.not_cells (h : MpAt w mb R es) (off : Nat) : w.cell? ⟨mb, off, none⟩ = none := by
  obtain ⟨arr, clock, h1, _⟩ := h
  simp [World.cell?, h1]
/-- What a look-up gives. -/
def Got (R : Value → α → Prop) (es : List (ByteArray × α)) (k : ByteArray) (z v : Value) (there : Bool) : Prop := (look es k = none ∧ v = z ∧ there = false) ∨ ∃ a, look es k = some a ∧ R v a ∧ there = true
variable {P : Program} {rd : Option Nat} {n : Nat} {ops : Array Oper} {Q : Post} {rest : List Oper} {F : Fr} {ds : List Deferred} {ty : TypeId} {pos : String} {after : Array Edge}
theorem run_look {t kt et : TypeId} {k : ByteArray} {z : Value} (ok : Bool) (ht : P.underlying t = some (.map kt et)) (hk : P.underlying kt = some .string) (hz : (zeroValue et).run P w = .ok z w) (h : MpAt w mb R es) :
    ∃ v there, Got R es k z v there ∧ (Instr.lookup t (.map (some mb)) (.string k) ok).run P w = .ok (if ok then .tuple #[v, .bool there] else v) w := by
  obtain ⟨arr, clock, hb, _, hA⟩ := h
  have hck : ∀ e, (Instr.checkKey e 10000 kt (.string k)).run P w = .ok () w := fun e => MapKept.run_checkKey hk (by exact trivial) e 9999
  rcases find_ent k arr.toList es 0 hA with ⟨h1, h2, _⟩ | ⟨j, e, a, h1, h2, _, _, h5, _, _⟩
  · refine ⟨z, false, .inl ⟨h1, rfl, rfl⟩, ?_⟩
    simp [Instr.lookup, run_underlying ht, MapKept.run_getObj_map hb, hck, MapKept.run_findKey hk h2, hz, Result.andThen]
  · refine ⟨e.val, true, .inr ⟨a, h1, h5, rfl⟩, ?_⟩
    simp [Instr.lookup, run_underlying ht, MapKept.run_getObj_map hb, hck, MapKept.run_findKey hk h2, Result.andThen]
theorem Lst_mapget {d : Nat} {m x : Operand} {t kt et : TypeId} {k : ByteArray} {z : Value} (hm : ev F m = .map (some mb)) (hx : ev F x = .string k) (ht : P.underlying t = some (.map kt et)) (hk : P.underlying kt = some .string) (hz : (zeroValue et).run P w = .ok z w) (hmp : MpAt w mb R es) (hd : Nat.blt d n = true)
    (h : ∀ v there, Got R es k z v there → Lst P rd n ops Q rest (upd F d v) ds w) : Lst P rd n ops Q (⟨some d, .lookup t m x false, ty, pos, after, none⟩ :: rest) F ds w := by
  obtain ⟨v, there, hg, hrun⟩ := run_look (P := P) (k := k) false ht hk hz hmp
  exact Lst_value rfl (by simp [execOp, hm, hx, hrun]) hd (h v there hg)
theorem Lst_mapok {d : Nat} {m x : Operand} {t kt et : TypeId} {k : ByteArray} {z : Value} (hm : ev F m = .map (some mb)) (hx : ev F x = .string k) (ht : P.underlying t = some (.map kt et)) (hk : P.underlying kt = some .string) (hz : (zeroValue et).run P w = .ok z w) (hmp : MpAt w mb R es) (hd : Nat.blt d n = true)
    (h : ∀ v there, Got R es k z v there → Lst P rd n ops Q rest (upd F d (.tuple #[v, .bool there])) ds w) : Lst P rd n ops Q (⟨some d, .lookup t m x true, ty, pos, after, none⟩ :: rest) F ds w := by
  obtain ⟨v, there, hg, hrun⟩ := run_look (P := P) (k := k) true ht hk hz hmp
  exact Lst_value rfl (by simp [execOp, hm, hx, hrun]) hd (h v there hg)
theorem set_chg {r : Nat} {o : Obj} (w : World) : Chg [r] w { w with heap := w.heap.setIfInBounds r o } := ⟨rfl, rfl, rfl, by simp, fun g _ hg => by
  have : g ≠ r := by simpa using hg
  show (w.heap.setIfInBounds r o)[g]? = _
  simp [Ne.symm this]⟩
theorem run_mput {t kt et : TypeId} {k : ByteArray} {v : Value} {a : α} (ht : P.underlying t = some (.map kt et)) (hk : P.underlying kt = some .string) (h : MpAt w mb R es) (hR : R v a) :
    ∃ w', (Instr.mapUpdate t (.map (some mb)) (.string k) v).run P w = .ok () w' ∧ MpAt w' mb R (put es k a) ∧ Chg [mb] w w' ∧ w'.heap.size = w.heap.size := by
  obtain ⟨arr, clock, hb, hs, hA⟩ := h
  have hkey : IsKey .string (.string k) := trivial
  have hck : ∀ e, (Instr.checkKey e 10000 kt (.string k)).run P w = .ok () w := fun e => MapKept.run_checkKey hk hkey e 9999
  rcases find_ent k arr.toList es 0 hA with ⟨h1, h2, h3⟩ | ⟨j, e, b, h1, h2, h3, h4, _, h6, _⟩
  · refine ⟨{ w with heap := w.heap.setIfInBounds mb (.map (arr.push { key := .string k, val := v, born := clock }) (clock + 1)) }, ?_, ⟨_, _, (heap_set hb).1, stamped_push hs h3, ?_⟩, set_chg w, by simp⟩
    · simp [Instr.mapUpdate, run_underlying ht, MapKept.run_getObj_map hb, hck, MapKept.run_findKey hk h2, MapKept.run_setObj_map _ hb, Result.andThen]
    · rw [Array.toList_push, put_none h1]
      exact hA.append ⟨⟨rfl, hR⟩, trivial⟩
  · have hj : arr[j]? = some e := by simpa using h3
    refine ⟨{ w with heap := w.heap.setIfInBounds mb (.map (arr.modify j fun e => { e with key := .string k, val := v }) clock) }, ?_, ⟨_, _, (heap_set hb).1, stamped_modify hs _ _ (fun _ _ => rfl) (fun e' _ he' => by rw [hj] at he'; cases he'; exact h4.symm), ?_⟩, set_chg w, by simp⟩
    · simp [Instr.mapUpdate, run_underlying ht, MapKept.run_getObj_map hb, hck, MapKept.run_findKey hk h2, hj, h4, MapKept.run_keyThatStays hkey, MapKept.run_setObj_map _ hb, Result.andThen]
    · have e1 : (arr.modify j fun e => { e with key := .string k, val := v }).toList = arr.toList.set j { e with val := v } := by
        rw [Array.toList_modify]
        apply List.ext_getElem?
        intro q
        rw [List.getElem?_modify, List.getElem?_set]
        have hlt : j < arr.toList.length := (List.getElem?_eq_some_iff.1 h3).1
        by_cases hq : j = q
        · subst hq
          simp only [if_true, hlt, h3, h4.symm]
          rfl
        · simp [hq]
      rw [e1]
      exact h6 v a hR
theorem Lst_mapput {m x y : Operand} {t kt et : TypeId} {k : ByteArray} {v : Value} (a : α) (hm : ev F m = .map (some mb)) (hx : ev F x = .string k) (hy : ev F y = v) (ht : P.underlying t = some (.map kt et)) (hk : P.underlying kt = some .string) (hmp : MpAt w mb R es) (hR : R v a)
    (h : ∀ w', MpAt w' mb R (put es k a) → Chg [mb] w w' → w'.heap.size = w.heap.size → Lst P rd n ops Q rest F ds w') : Lst P rd n ops Q (⟨none, .mapUpdate t m x y, ty, pos, after, none⟩ :: rest) F ds w := by
  obtain ⟨w', hrun, h1, h2, h3⟩ := run_mput (P := P) (k := k) ht hk hmp hR
  exact Lst_unit rfl (by simp [execOp, hm, hx, hy, hrun]) rfl (h w' h1 h2 h3)
/-! ### A range over a map -/
end map
end Sx
namespace SxU
open Go Go.RowKit Go.MapKept Sx
section lists
variable {α : Type}
end lists

section map
variable {α : Type} {R : Value → α → Prop} {es : List (Int × α)} {mb : Nat} {w : World}
variable {P : Program} {rd : Option Nat} {n : Nat} {ops : Array Oper} {Q : Post} {rest : List Oper} {F : Fr} {ds : List Deferred} {ty : TypeId} {pos : String} {after : Array Edge}
/-! ### A range over a map -/
end map
end SxU
namespace SxG
open Go Go.RowKit Go.MapKept Sx
/-- What the model does with keys: these stand for the members of K, and are told apart. -/
structure KeyOk (P : Program) (kt : TypeId) {K : Type} (ky : K → Value) : Prop where
  inj : ∀ {a b : K}, ky a = ky b → a = b
  check : ∀ (e : Bool) (k : K) (w : World), (Instr.checkKey e 10000 kt (ky k)).run P w = .ok () w
  find : ∀ (k : K) (l : List MapEntry) (w : World), (∀ x ∈ l, ∃ j, x.key = ky j) → ((Instr.findKey kt (ky k) l).run P w = .ok none w ∧ ∀ x ∈ l, x.key ≠ ky k) ∨
    ∃ j e, (Instr.findKey kt (ky k) l).run P w = .ok (some (j, e.val)) w ∧ l[j]? = some e ∧ e.key = ky k ∧ ∀ i x, i < j → l[i]? = some x → x.key ≠ ky k
  keep : ∀ (k : K) (w : World), (Instr.keyThatStays (ky k) (ky k)).run P w = .ok (ky k) w
section lists0
variable {α K : Type} {ky : K → Value}
/-- An entry of a map's block, and what it stands for. -/
def Ent (ky : K → Value) (R : Value → α → Prop) (e : MapEntry) (q : K × α) : Prop := e.key = ky q.1 ∧ R e.val q.2
theorem keysG {R : Value → α → Prop} : ∀ {l : List MapEntry} {m : List (K × α)}, All2 (Ent ky R) l m → ∀ x ∈ l, ∃ j, x.key = ky j
  | [], [], _, x, hx => by cases hx
  | e :: l, q :: m, h, x, hx => by
    rcases List.mem_cons.1 hx with rfl | hx
    · exact ⟨_, h.1.1⟩
    · exact keysG h.2 x hx
  | [], _ :: _, h, _, _ => h.elim
  | _ :: _, [], h, _, _ => h.elim
end lists0
section lists
variable {α K : Type} [DecidableEq K] {ky : K → Value}
def look : List (K × α) → K → Option α
  | [], _ => none
  | p :: l, k => if p.1 = k then some p.2 else look l k
def put : List (K × α) → K → α → List (K × α)
  | [], k, a => [(k, a)]
  | p :: l, k, a => if p.1 = k then (k, a) :: l else p :: put l k a
def del : List (K × α) → K → List (K × α)
  | [], _ => []
  | p :: l, k => if p.1 = k then l else p :: del l k
theorem look_put : ∀ (l : List (K × α)) (k j : K) (a : α), look (put l k a) j = if j = k then some a else look l j
  | [], k, j, a => by
    show (if k = j then some a else none) = _
    by_cases h : k = j
    · rw [if_pos h, if_pos h.symm]
    · rw [if_neg h, if_neg (Ne.symm h)]; rfl
  | p :: l, k, j, a => by
    unfold put
    by_cases h : p.1 = k
    · rw [if_pos h]
      show (if k = j then some a else look l j) = if j = k then some a else if p.1 = j then some p.2 else look l j
      by_cases e : k = j
      · rw [if_pos e, if_pos e.symm]
      · rw [if_neg e, if_neg (Ne.symm e), if_neg (fun e' => e (h.symm.trans e'))]
    · rw [if_neg h]
      show (if p.1 = j then some p.2 else look (put l k a) j) = if j = k then some a else if p.1 = j then some p.2 else look l j
      rw [look_put l k j a]
      by_cases e : p.1 = j
      · rw [if_pos e, if_neg (fun e' => h (e.trans e')), if_pos e]
      · rw [if_neg e, if_neg e]
theorem look_no {R : Value → α → Prop} {k : K} : ∀ {l : List MapEntry} {m : List (K × α)}, All2 (Ent ky R) l m → (∀ x ∈ l, x.key ≠ ky k) → look m k = none
  | [], [], _, _ => rfl
  | e :: l, q :: m, h, hx => by
    have hk : q.1 ≠ k := fun e' => hx e (by simp) (by rw [h.1.1, e'])
    unfold look
    rw [if_neg hk]
    exact look_no h.2 fun x hm => hx x (by simp [hm])
  | [], _ :: _, h, _ => h.elim
  | _ :: _, [], h, _ => h.elim
theorem put_none : ∀ {l : List (K × α)} {k : K} {a : α}, look l k = none → put l k a = l ++ [(k, a)]
  | [], _, _, _ => rfl
  | p :: l, k, a, h => by
    unfold look at h
    unfold put
    by_cases e : p.1 = k
    · rw [if_pos e] at h; cases h
    · rw [if_neg e] at h ⊢; rw [put_none h]; rfl
theorem look_yes {R : Value → α → Prop} {k : K} (inj : ∀ {a b : K}, ky a = ky b → a = b) : ∀ {l : List MapEntry} {m : List (K × α)} {j : Nat} {e : MapEntry}, All2 (Ent ky R) l m → l[j]? = some e → e.key = ky k → (∀ i x, i < j → l[i]? = some x → x.key ≠ ky k) →
    ∃ a, look m k = some a ∧ R e.val a ∧ (∀ v b, R v b → All2 (Ent ky R) (l.set j { e with val := v }) (put m k b)) ∧ All2 (Ent ky R) (l.eraseIdx j) (del m k)
  | [], [], _, _, _, h, _, _ => by simp at h
  | e0 :: l, q :: m, 0, e, h, hj, he, _ => by
    obtain rfl : e0 = e := by simpa using hj
    have hk : q.1 = k := inj (h.1.1.symm.trans he)
    refine ⟨q.2, by simp [look, hk], h.1.2, fun v b hb => ?_, ?_⟩
    · rw [show put (q :: m) k b = (k, b) :: m by simp [put, hk]]
      exact ⟨⟨he, hb⟩, h.2⟩
    · rw [show del (q :: m) k = m by simp [del, hk]]
      exact h.2
  | e0 :: l, q :: m, j + 1, e, h, hj, he, hb => by
    have hk : q.1 ≠ k := fun e' => hb 0 e0 (Nat.succ_pos _) rfl (by rw [h.1.1, e'])
    obtain ⟨a, h1, h2, h3, h4⟩ := look_yes inj (j := j) h.2 (by simpa using hj) he fun i x hi hx => hb (i + 1) x (by omega) (by simpa using hx)
    refine ⟨a, by simp [look, hk, h1], h2, fun v b hv => ?_, ?_⟩
    · rw [show put (q :: m) k b = q :: put m k b by simp [put, hk]]
      exact ⟨h.1, h3 v b hv⟩
    · rw [show del (q :: m) k = q :: del m k by simp [del, hk]]
      exact ⟨h.1, h4⟩
  | [], _ :: _, _, _, h, _, _, _ => h.elim
  | _ :: _, [], _, _, h, _, _, _ => h.elim
/-- Where a key stands, or that it does not. -/
theorem find_ent {P : Program} {kt : TypeId} {R : Value → α → Prop} (hk : KeyOk P kt ky) (k : K) (l : List MapEntry) (m : List (K × α)) (w : World) (h : All2 (Ent ky R) l m) :
    (look m k = none ∧ (Instr.findKey kt (ky k) l).run P w = .ok none w ∧ ∀ x ∈ l, x.key ≠ ky k) ∨
    ∃ j e a, look m k = some a ∧ (Instr.findKey kt (ky k) l).run P w = .ok (some (j, e.val)) w ∧ l[j]? = some e ∧ e.key = ky k ∧ R e.val a ∧
      (∀ v b, R v b → All2 (Ent ky R) (l.set j { e with val := v }) (put m k b)) ∧ All2 (Ent ky R) (l.eraseIdx j) (del m k) := by
  rcases hk.find k l w (keysG h) with ⟨h1, h2⟩ | ⟨j, e, h1, h2, h3, h4⟩
  · exact .inl ⟨look_no h h2, h1, h2⟩
  · obtain ⟨a, g1, g2, g3, g4⟩ := look_yes hk.inj h h2 h3 h4
    exact .inr ⟨j, e, a, g1, h1, h2, h3, g2, g3, g4⟩
end lists
section map0
variable {α K : Type} {ky : K → Value} {R : Value → α → Prop} {es : List (K × α)} {mb : Nat} {w : World}
/-- Block mb is a map with these keys, in the order in which they came, and values that stand for these. -/
def MpAt (ky : K → Value) (w : World) (mb : Nat) (R : Value → α → Prop) (es : List (K × α)) : Prop := ∃ arr clock, w.heap[mb]? = some (.map arr clock) ∧ Stamped arr clock ∧ All2 (Ent ky R) arr.toList es
theorem MpAt.mono {R' : Value → α → Prop} {w' : World} (h : MpAt ky w mb R es) (hb : w'.heap[mb]? = w.heap[mb]?) (hR : ∀ v a, R v a → R' v a) : MpAt ky w' mb R' es := by
  obtain ⟨arr, clock, h1, h2, h3⟩ := h
  exact ⟨arr, clock, hb.trans h1, h2, h3.mono fun _ _ h => ⟨h.1, hR _ _ h.2⟩⟩
theorem MpAt.lt (h : MpAt ky w mb R es) : mb < w.heap.size := by
  obtain ⟨arr, clock, h1, _⟩ := h
  exact (Array.getElem?_eq_some_iff.1 h1).1
theorem MpAt.new (w : World) (R : Value → α → Prop) : MpAt ky (w.alloc (.map #[] 0)) w.heap.size R [] := ⟨#[], 0, (heap_alloc w _).1, stamped_empty 0, trivial⟩
variable {P : Program} {rd : Option Nat} {n : Nat} {ops : Array Oper} {Q : Post} {rest : List Oper} {F : Fr} {ds : List Deferred} {ty : TypeId} {pos : String} {after : Array Edge}
end map0
section map
variable {α K : Type} [DecidableEq K] {ky : K → Value} {R : Value → α → Prop} {es : List (K × α)} {mb : Nat} {w : World}
/-- What a look-up gives. -/
def Got (R : Value → α → Prop) (es : List (K × α)) (k : K) (z v : Value) (there : Bool) : Prop := (look es k = none ∧ v = z ∧ there = false) ∨ ∃ a, look es k = some a ∧ R v a ∧ there = true
variable {P : Program} {rd : Option Nat} {n : Nat} {ops : Array Oper} {Q : Post} {rest : List Oper} {F : Fr} {ds : List Deferred} {ty : TypeId} {pos : String} {after : Array Edge}
theorem run_look {t kt et : TypeId} {k : K} {z : Value} (ok : Bool) (ht : P.underlying t = some (.map kt et)) (hk : KeyOk P kt ky) (hz : (zeroValue et).run P w = .ok z w) (h : MpAt ky w mb R es) :
    ∃ v there, Got R es k z v there ∧ (Instr.lookup t (.map (some mb)) (ky k) ok).run P w = .ok (if ok then .tuple #[v, .bool there] else v) w := by
  obtain ⟨arr, clock, hb, _, hA⟩ := h
  have hck : ∀ e, (Instr.checkKey e 10000 kt (ky k)).run P w = .ok () w := fun e => hk.check e k w
  rcases find_ent hk k arr.toList es w hA with ⟨h1, h2, _⟩ | ⟨j, e, a, h1, h2, _, _, h5, _, _⟩
  · refine ⟨z, false, .inl ⟨h1, rfl, rfl⟩, ?_⟩
    simp [Instr.lookup, run_underlying ht, MapKept.run_getObj_map hb, hck, h2, hz, Result.andThen]
  · refine ⟨e.val, true, .inr ⟨a, h1, h5, rfl⟩, ?_⟩
    simp [Instr.lookup, run_underlying ht, MapKept.run_getObj_map hb, hck, h2, Result.andThen]
theorem run_mput {t kt et : TypeId} {k : K} {v : Value} {a : α} (ht : P.underlying t = some (.map kt et)) (hk : KeyOk P kt ky) (h : MpAt ky w mb R es) (hR : R v a) :
    ∃ w', (Instr.mapUpdate t (.map (some mb)) (ky k) v).run P w = .ok () w' ∧ MpAt ky w' mb R (put es k a) ∧ Chg [mb] w w' ∧ w'.heap.size = w.heap.size := by
  obtain ⟨arr, clock, hb, hs, hA⟩ := h
  have hck : ∀ e, (Instr.checkKey e 10000 kt (ky k)).run P w = .ok () w := fun e => hk.check e k w
  rcases find_ent hk k arr.toList es w hA with ⟨h1, h2, h3⟩ | ⟨j, e, b, h1, h2, h3, h4, _, h6, _⟩
  · refine ⟨{ w with heap := w.heap.setIfInBounds mb (.map (arr.push { key := ky k, val := v, born := clock }) (clock + 1)) }, ?_, ⟨_, _, (heap_set hb).1, stamped_push hs h3, ?_⟩, set_chg w, by simp⟩
    · simp [Instr.mapUpdate, run_underlying ht, MapKept.run_getObj_map hb, hck, h2, MapKept.run_setObj_map _ hb, Result.andThen]
    · rw [Array.toList_push, put_none h1]
      exact hA.append ⟨⟨rfl, hR⟩, trivial⟩
  · have hj : arr[j]? = some e := by simpa using h3
    refine ⟨{ w with heap := w.heap.setIfInBounds mb (.map (arr.modify j fun e => { e with key := ky k, val := v }) clock) }, ?_, ⟨_, _, (heap_set hb).1, stamped_modify hs _ _ (fun _ _ => rfl) (fun e' _ he' => by rw [hj] at he'; cases he'; exact h4.symm), ?_⟩, set_chg w, by simp⟩
    · simp [Instr.mapUpdate, run_underlying ht, MapKept.run_getObj_map hb, hck, h2, hj, h4, hk.keep k, MapKept.run_setObj_map _ hb, Result.andThen]
    · have e1 : (arr.modify j fun e => { e with key := ky k, val := v }).toList = arr.toList.set j { e with val := v } := by
        rw [Array.toList_modify]
        apply List.ext_getElem?
        intro q
        rw [List.getElem?_modify, List.getElem?_set]
        have hlt : j < arr.toList.length := (List.getElem?_eq_some_iff.1 h3).1
        by_cases hq : j = q
        · subst hq
          simp only [if_true, hlt, h3, h4.symm]
          rfl
        · simp [hq]
      rw [e1]
      exact h6 v a hR
theorem Lst_mapput {m x y : Operand} {t kt et : TypeId} {k : K} {v : Value} (a : α) (hm : ev F m = .map (some mb)) (hx : ev F x = ky k) (hy : ev F y = v) (ht : P.underlying t = some (.map kt et)) (hk : KeyOk P kt ky) (hmp : MpAt ky w mb R es) (hR : R v a)
    (h : ∀ w', MpAt ky w' mb R (put es k a) → Chg [mb] w w' → w'.heap.size = w.heap.size → Lst P rd n ops Q rest F ds w') : Lst P rd n ops Q (⟨none, .mapUpdate t m x y, ty, pos, after, none⟩ :: rest) F ds w := by
  obtain ⟨w', hrun, h1, h2, h3⟩ := run_mput (P := P) (k := k) ht hk hmp hR
  exact Lst_unit rfl (by simp [execOp, hm, hx, hy, hrun]) rfl (h w' h1 h2 h3)
end map
section keys
variable {P : Program} {kt : TypeId} {K : Type} {ky : K → Value}
theorem ask (inj : ∀ {a b : K}, ky a = ky b → a = b) (eq : ∀ (a b : K) (w : World), ∃ r, (Op.equal kt (ky a) (ky b)).run P w = .ok r w ∧ (r = true ↔ a = b)) (k : K) (w : World) : ∀ (l : List MapEntry) (i : Nat), (∀ x ∈ l, ∃ j, x.key = ky j) →
    ((Instr.findAsking kt (ky k) l i).run P w = .ok none w ∧ ∀ x ∈ l, x.key ≠ ky k) ∨
    ∃ j e, (Instr.findAsking kt (ky k) l i).run P w = .ok (some (i + j, e.val)) w ∧ l[j]? = some e ∧ e.key = ky k ∧ ∀ i x, i < j → l[i]? = some x → x.key ≠ ky k
  | [], i, _ => .inl ⟨by simp [Instr.findAsking], fun x hx => by cases hx⟩
  | e :: es, i, h => by
    obtain ⟨q, hq⟩ := h e (by simp)
    obtain ⟨r, hr, hiff⟩ := eq k q w
    cases r with
    | true => exact .inr ⟨0, e, by simp [Instr.findAsking, hq, hr], rfl, by rw [hq, hiff.1 rfl], fun i x hi => absurd hi (Nat.not_lt_zero _)⟩
    | false =>
      have hne : e.key ≠ ky k := fun h' => by
        have := hiff.2 (inj (h'.symm.trans hq))
        cases this
      rcases ask inj eq k w es (i + 1) (fun x hx => h x (by simp [hx])) with ⟨h1, h2⟩ | ⟨j, e', h1, h2, h3, h4⟩
      · refine .inl ⟨by simp [Instr.findAsking, hq, hr, h1], fun x hx => ?_⟩
        rcases List.mem_cons.1 hx with rfl | hx
        · exact hne
        · exact h2 x hx
      · refine .inr ⟨j + 1, e', by simp [Instr.findAsking, hq, hr, h1, Nat.add_assoc, Nat.add_comm 1 j], by simpa using h2, h3, fun i x hi hx => ?_⟩
        cases i with
        | zero =>
          obtain rfl : e = x := by simpa using hx
          exact hne
        | succ i => exact h4 i x (by omega) (by simpa using hx)
theorem KeyOk.of {d : TypeDesc} (hd : P.underlying kt = some d) (inj : ∀ {a b : K}, ky a = ky b → a = b) (hs : ∀ a b, Instr.sameNow d (ky a) (ky b) = none) (eq : ∀ (a b : K) (w : World), ∃ r, (Op.equal kt (ky a) (ky b)).run P w = .ok r w ∧ (r = true ↔ a = b))
    (check : ∀ (e : Bool) (k : K) (w : World), (Instr.checkKey e 10000 kt (ky k)).run P w = .ok () w) (keep : ∀ (k : K) (w : World), (Instr.keyThatStays (ky k) (ky k)).run P w = .ok (ky k) w) : KeyOk P kt ky where
  inj := inj
  check := check
  keep := keep
  find := fun k l w h => by
    have e : (Instr.findKey kt (ky k) l).run P w = (Instr.findAsking kt (ky k) l 0).run P w := by
      cases l with
      | nil => simp [Instr.findKey, run_underlying hd, Instr.findNow, Instr.findAsking]
      | cons x l =>
        obtain ⟨j, hj⟩ := h x (by simp)
        simp [Instr.findKey, run_underlying hd, Instr.findNow, hj, hs]
    rw [e]
    rcases ask inj eq k w l 0 h with h1 | ⟨j, x, h1, h2⟩
    · exact .inl h1
    · rw [Nat.zero_add] at h1
      exact .inr ⟨j, x, h1, h2⟩
theorem check_struct {t : TypeId} {fs : Array Field} {xs : Array Value} {e : Bool} {n : Nat} {w : World} (hu : P.underlying t = some (.struct fs)) (h : ∀ f ∈ fs.toList, f.name ≠ "_" ∧ ∃ a, (part f.type xs f.offset).run P w = .ok a w ∧ (Instr.checkKey e n f.type a).run P w = .ok () w) :
    (Instr.checkKey e (n + 1) t (.agg xs)).run P w = .ok () w := by
  rw [Instr.checkKey]
  simp only [Sem.run_bind, run_underlying hu, Result.andThen_ok]
  rw [← Array.forIn_toList]
  generalize fs.toList = L at h
  induction L with
  | nil => simp
  | cons f L ih =>
    obtain ⟨hn, a, p1, p2⟩ := h f (by simp)
    simp only [List.forIn_cons, Sem.run_bind, hn, ne_eq, not_false_eq_true, if_true, Result.andThen_ok, p1, p2, Sem.run_pure]
    exact ih fun y hy => h y (by simp [hy])
end keys
end SxG
end Go.Proofs.YtmgipnckojopcaaGreat
