/- Our calculus of walks: maps whose keys are of any type that the model compares at once (structs, pointers). Over any program. -/
import Derived.Test.YtmammcgdjjldbaaSxM
import Derived.WideKeyRuns
namespace Go.Proofs.Ytmammcgdjjldbaa
namespace SxG
open Go Go.RowKit Go.MapKept Sx
/-- What the model does with keys: these stand for the members of K, and are told apart. -/
structure KeyOk (P : Program) (kt : TypeId) {K : Type} (ky : K → Value) : Prop where
  inj : ∀ {a b : K}, ky a = ky b → a = b
  check : ∀ (e : Bool) (k : K) (w : World), (Instr.checkKey e 10000 kt (ky k)).run P w = .ok () w
  find : ∀ (k : K) (l : List MapEntry) (w : World), (∀ x ∈ l, ∃ j, x.key = ky j) → ((Instr.findKey kt (ky k) l).run P w = .ok none w ∧ ∀ x ∈ l, x.key ≠ ky k) ∨
    ∃ j e, (Instr.findKey kt (ky k) l).run P w = .ok (some (j, e.val)) w ∧ l[j]? = some e ∧ e.key = ky k ∧ ∀ i x, i < j → l[i]? = some x → x.key ≠ ky k
  keep : ∀ (k : K) (w : World), (Instr.keyThatStays (ky k) (ky k)).run P w = .ok (ky k) w
section lists0
variable {α K : Type} {ky : K → Value}
/-- An entry of a map's block, and what it stands for. -/
def Ent (ky : K → Value) (R : Value → α → Prop) (e : MapEntry) (q : K × α) : Prop := e.key = ky q.1 ∧ R e.val q.2
theorem keysG {R : Value → α → Prop} : ∀ {l : List MapEntry} {m : List (K × α)}, All2 (Ent ky R) l m → ∀ x ∈ l, ∃ j, x.key = ky j
  | [], [], _, x, hx => by cases hx
  | e :: l, q :: m, h, x, hx => by
    rcases List.mem_cons.1 hx with rfl | hx
    · exact ⟨_, h.1.1⟩
    · exact keysG h.2 x hx
  | [], _ :: _, h, _, _ => h.elim
  | _ :: _, [], h, _, _ => h.elim
end lists0
section lists
variable {α K : Type} [DecidableEq K] {ky : K → Value}
def look : List (K × α) → K → Option α
  | [], _ => none
  | p :: l, k => if p.1 = k then some p.2 else look l k
def put : List (K × α) → K → α → List (K × α)
  | [], k, a => [(k, a)]
  | p :: l, k, a => if p.1 = k then (k, a) :: l else p :: put l k a
def del : List (K × α) → K → List (K × α)
  | [], _ => []
  | p :: l, k => if p.1 = k then l else p :: del l k
theorem look_put : ∀ (l : List (K × α)) (k j : K) (a : α), look (put l k a) j = if j = k then some a else look l j
  | [], k, j, a => by
    show (if k = j then some a else none) = _
    by_cases h : k = j
    · rw [if_pos h, if_pos h.symm]
    · rw [if_neg h, if_neg (Ne.symm h)]; rfl
  | p :: l, k, j, a => by
    unfold put
    by_cases h : p.1 = k
    · rw [if_pos h]
      show (if k = j then some a else look l j) = if j = k then some a else if p.1 = j then some p.2 else look l j
      by_cases e : k = j
      · rw [if_pos e, if_pos e.symm]
      · rw [if_neg e, if_neg (Ne.symm e), if_neg (fun e' => e (h.symm.trans e'))]
    · rw [if_neg h]
      show (if p.1 = j then some p.2 else look (put l k a) j) = if j = k then some a else if p.1 = j then some p.2 else look l j
      rw [look_put l k j a]
      by_cases e : p.1 = j
      · rw [if_pos e, if_neg (fun e' => h (e.trans e')), if_pos e]
      · rw [if_neg e, if_neg e]
theorem look_no {R : Value → α → Prop} {k : K} : ∀ {l : List MapEntry} {m : List (K × α)}, All2 (Ent ky R) l m → (∀ x ∈ l, x.key ≠ ky k) → look m k = none
  | [], [], _, _ => rfl
  | e :: l, q :: m, h, hx => by
    have hk : q.1 ≠ k := fun e' => hx e (by simp) (by rw [h.1.1, e'])
    unfold look
    rw [if_neg hk]
    exact look_no h.2 fun x hm => hx x (by simp [hm])
  | [], _ :: _, h, _ => h.elim
  | _ :: _, [], h, _ => h.elim
theorem put_none : ∀ {l : List (K × α)} {k : K} {a : α}, look l k = none → put l k a = l ++ [(k, a)]
  | [], _, _, _ => rfl
  | p :: l, k, a, h => by
    unfold look at h
    unfold put
    by_cases e : p.1 = k
    · rw [if_pos e] at h; cases h
    · rw [if_neg e] at h ⊢; rw [put_none h]; rfl
theorem look_yes {R : Value → α → Prop} {k : K} (inj : ∀ {a b : K}, ky a = ky b → a = b) : ∀ {l : List MapEntry} {m : List (K × α)} {j : Nat} {e : MapEntry}, All2 (Ent ky R) l m → l[j]? = some e → e.key = ky k → (∀ i x, i < j → l[i]? = some x → x.key ≠ ky k) →
    ∃ a, look m k = some a ∧ R e.val a ∧ (∀ v b, R v b → All2 (Ent ky R) (l.set j { e with val := v }) (put m k b)) ∧ All2 (Ent ky R) (l.eraseIdx j) (del m k)
  | [], [], _, _, _, h, _, _ => by simp at h
  | e0 :: l, q :: m, 0, e, h, hj, he, _ => by
    obtain rfl : e0 = e := by simpa using hj
    have hk : q.1 = k := inj (h.1.1.symm.trans he)
    refine ⟨q.2, by simp [look, hk], h.1.2, fun v b hb => ?_, ?_⟩
    · rw [show put (q :: m) k b = (k, b) :: m by simp [put, hk]]
      exact ⟨⟨he, hb⟩, h.2⟩
    · rw [show del (q :: m) k = m by simp [del, hk]]
      exact h.2
  | e0 :: l, q :: m, j + 1, e, h, hj, he, hb => by
    have hk : q.1 ≠ k := fun e' => hb 0 e0 (Nat.succ_pos _) rfl (by rw [h.1.1, e'])
    obtain ⟨a, h1, h2, h3, h4⟩ := look_yes inj (j := j) h.2 (by simpa using hj) he fun i x hi hx => hb (i + 1) x (by omega) (by simpa using hx)
    refine ⟨a, by simp [look, hk, h1], h2, fun v b hv => ?_, ?_⟩
    · rw [show put (q :: m) k b = q :: put m k b by simp [put, hk]]
      exact ⟨h.1, h3 v b hv⟩
    · rw [show del (q :: m) k = q :: del m k by simp [del, hk]]
      exact ⟨h.1, h4⟩
  | [], _ :: _, _, _, h, _, _, _ => h.elim
  | _ :: _, [], _, _, h, _, _, _ => h.elim
/-- Where a key stands, or that it does not. -/
theorem find_ent {P : Program} {kt : TypeId} {R : Value → α → Prop} (hk : KeyOk P kt ky) (k : K) (l : List MapEntry) (m : List (K × α)) (w : World) (h : All2 (Ent ky R) l m) :
    (look m k = none ∧ (Instr.findKey kt (ky k) l).run P w = .ok none w ∧ ∀ x ∈ l, x.key ≠ ky k) ∨
    ∃ j e a, look m k = some a ∧ (Instr.findKey kt (ky k) l).run P w = .ok (some (j, e.val)) w ∧ l[j]? = some e ∧ e.key = ky k ∧ R e.val a ∧
      (∀ v b, R v b → All2 (Ent ky R) (l.set j { e with val := v }) (put m k b)) ∧ All2 (Ent ky R) (l.eraseIdx j) (del m k) := by
  rcases hk.find k l w (keysG h) with ⟨h1, h2⟩ | ⟨j, e, h1, h2, h3, h4⟩
  · exact .inl ⟨look_no h h2, h1, h2⟩
  · obtain ⟨a, g1, g2, g3, g4⟩ := look_yes hk.inj h h2 h3 h4
    exact .inr ⟨j, e, a, g1, h1, h2, h3, g2, g3, g4⟩
end lists
section map0
variable {α K : Type} {ky : K → Value} {R : Value → α → Prop} {es : List (K × α)} {mb : Nat} {w : World}
/-- Block mb is a map with these keys, in the order in which they came, and values that stand for these. -/
def MpAt (ky : K → Value) (w : World) (mb : Nat) (R : Value → α → Prop) (es : List (K × α)) : Prop := ∃ arr clock, w.heap[mb]? = some (.map arr clock) ∧ Stamped arr clock ∧ All2 (Ent ky R) arr.toList es
theorem MpAt.mono {R' : Value → α → Prop} {w' : World} (h : MpAt ky w mb R es) (hb : w'.heap[mb]? = w.heap[mb]?) (hR : ∀ v a, R v a → R' v a) : MpAt ky w' mb R' es := by
  obtain ⟨arr, clock, h1, h2, h3⟩ := h
  exact ⟨arr, clock, hb.trans h1, h2, h3.mono fun _ _ h => ⟨h.1, hR _ _ h.2⟩⟩
theorem MpAt.lt (h : MpAt ky w mb R es) : mb < w.heap.size := by
  obtain ⟨arr, clock, h1, _⟩ := h
  exact (Array.getElem?_eq_some_iff.1 h1).1
theorem MpAt.new (w : World) (R : Value → α → Prop) : MpAt ky (w.alloc (.map #[] 0)) w.heap.size R [] := ⟨#[], 0, (heap_alloc w _).1, stamped_empty 0, trivial⟩
theorem MpAt.drew (h : MpAt ky w mb R es) : MpAt ky w.drew mb R es := h
theorem MpAt.not_cells (h : MpAt ky w mb R es) (off : Nat) : w.cell? ⟨mb, off, none⟩ = none := by
  obtain ⟨arr, clock, h1, _⟩ := h
  simp [World.cell?, h1]
variable {P : Program} {rd : Option Nat} {n : Nat} {ops : Array Oper} {Q : Post} {rest : List Oper} {F : Fr} {ds : List Deferred} {ty : TypeId} {pos : String} {after : Array Edge}
/-- Block ib goes over the map at mb; these are left. -/
def ItAt (ky : K → Value) (w : World) (ib mb : Nat) (R : Value → α → Prop) (es left : List (K × α)) : Prop :=
  ∃ arr clock seen, w.heap[mb]? = some (.map arr clock) ∧ Stamped arr clock ∧ All2 (Ent ky R) arr.toList es ∧ w.heap[ib]? = some (.mapIter (some mb) clock seen clock) ∧ All2 (Ent ky R) (leftOf arr seen).toList left
theorem ItAt.map {ib : Nat} {left : List (K × α)} (h : ItAt ky w ib mb R es left) : MpAt ky w mb R es := by
  obtain ⟨arr, clock, seen, h1, h2, h3, _⟩ := h
  exact ⟨arr, clock, h1, h2, h3⟩
theorem ItAt.lt {ib : Nat} {left : List (K × α)} (h : ItAt ky w ib mb R es left) : ib < w.heap.size := by
  obtain ⟨arr, clock, seen, _, _, _, h4, _⟩ := h
  exact (Array.getElem?_eq_some_iff.1 h4).1
theorem ItAt.mono {R' : Value → α → Prop} {ib : Nat} {left : List (K × α)} {w' : World} (h : ItAt ky w ib mb R es left) (h1 : w'.heap[mb]? = w.heap[mb]?) (h2 : w'.heap[ib]? = w.heap[ib]?) (hR : ∀ v a, R v a → R' v a) : ItAt ky w' ib mb R' es left := by
  obtain ⟨arr, clock, seen, a1, a2, a3, a4, a5⟩ := h
  exact ⟨arr, clock, seen, h1.trans a1, a2, a3.mono (fun _ _ h => ⟨h.1, hR _ _ h.2⟩), h2.trans a4, a5.mono fun _ _ h => ⟨h.1, hR _ _ h.2⟩⟩
/-- What was handed out last. -/
def ItCur (ky : K → Value) (w : World) (ib mb : Nat) (R : Value → α → Prop) (q : K × α) : Prop :=
  ∃ arr clock seen e, w.heap[mb]? = some (.map arr clock) ∧ Stamped arr clock ∧ w.heap[ib]? = some (.mapIter (some mb) clock seen clock) ∧ seen.back? = some e.born ∧ e ∈ arr.toList ∧ Ent ky R e q
theorem Lst_mapentry {d ib : Nat} {x : Operand} {q : K × α} (hx : ev F x = .pointer (some ⟨ib, 0, none⟩)) (hit : ItCur ky w ib mb R q) (hd : Nat.blt d n = true)
    (h : ∀ v, R v q.2 → Lst P rd n ops Q rest (upd F d (.tuple #[ky q.1, v])) ds w) : Lst P rd n ops Q (⟨some d, .entry x, ty, pos, after, none⟩ :: rest) F ds w := by
  obtain ⟨arr, clock, seen, e, hb, hs, hi, hl, he, hk, hR⟩ := hit
  have hf : arr.find? (fun x => x.born == e.born) = some e := by
    rw [← Array.find?_toList]
    exact find_born e arr.toList hs.2.1 he
  refine Lst_value rfl ?_ hd (h e.val hR)
  simp [execOp, hx, Instr.entry, getObj, Sem.run, hi, hb, hl, hf, hk, Result.andThen]
theorem Lst_maprange {d : Nat} {x : Operand} {t kt et : TypeId} (hx : ev F x = .map (some mb)) (ht : P.underlying t = some (.map kt et)) (hmp : MpAt ky w mb R es) (hd : Nat.blt d n = true)
    (h : ∀ w', ItAt ky w' w.heap.size mb R es es → Below w.heap.size w w' → w'.heap.size = w.heap.size + 1 → Lst P rd n ops Q rest (upd F d (.pointer (some ⟨w.heap.size, 0, none⟩))) ds w') : Lst P rd n ops Q (⟨some d, .range t x, ty, pos, after, none⟩ :: rest) F ds w := by
  obtain ⟨arr, clock, hb, hs, hA⟩ := hmp
  have hlt : mb < w.heap.size := (Array.getElem?_eq_some_iff.1 hb).1
  refine Lst_value rfl (by simp [execOp, hx, run_range_map w t kt et mb arr clock ht hb]) hd (h _ ⟨arr, clock, #[], ?_, hs, hA, (heap_alloc w _).1, ?_⟩ ((Below.refl _ _).alloc (Nat.le_refl _) _) (World.size_alloc ..))
  · exact ((heap_alloc w _).2 _ hlt).trans hb
  · have : leftOf arr #[] = arr := by unfold leftOf; simp
    rw [this]
    exact hA
theorem run_mnext {ib : Nat} {left : List (K × α)} (ty : TypeId) (h : ItAt ky w ib mb R es left) :
    (left = [] ∧ (Instr.next (.pointer (some ⟨ib, 0, none⟩)) false ty).run P w = .ok (.tuple #[.bool false]) w) ∨
    ∃ j q v w', left[j]? = some q ∧ R v q.2 ∧ (Instr.next (.pointer (some ⟨ib, 0, none⟩)) false ty).run P w = .ok (.tuple #[.bool true, ky q.1, v]) w' ∧ ItAt ky w' ib mb R es (left.eraseIdx j) ∧ ItCur ky w' ib mb R q ∧ Chg [ib] w w' ∧ w'.heap.size = w.heap.size := by
  obtain ⟨arr, clock, seen, hb, hs, hA, hi, hL⟩ := h
  have hne : mb ≠ ib := by rintro rfl; rw [hb] at hi; cases hi
  have hil : ib < w.heap.size := (Array.getElem?_eq_some_iff.1 hi).1
  have hold : ∀ x ∈ arr.toList, x.born < clock := hs.1
  simp only [Instr.next, getObj, Sem.run_bind, Sem.run, hi, hb, Result.andThen, next_test_false seen arr clock clock hold (Nat.le_refl _), Bool.false_eq_true, if_false]
  have hseen : ∀ (e : MapEntry) (j : Nat), (leftOf arr seen).toList[j]? = some e → (leftOf arr (seen.push e.born)).toList = (leftOf arr seen).toList.eraseIdx j := by
    intro e j hj
    rw [← filter_erase _ j e ?_ hj]
    · unfold leftOf
      simp only [Array.toList_filter, List.filter_filter, Array.contains_push]
      congr 1
      funext x
      cases h1 : seen.contains x.born <;> cases h2 : (x.born == e.born) <;> simp_all
    · exact ((Array.toList_filter ▸ List.filter_sublist : (leftOf arr seen).toList.Sublist arr.toList).map _).nodup hs.2.1
  have hmem : ∀ x ∈ (leftOf arr seen).toList, x.born < clock := fun x hx => hold x (by unfold leftOf at hx; simp at hx ⊢; exact hx.1)
  have hmemA : ∀ x ∈ (leftOf arr seen).toList, x ∈ arr.toList := fun x hx => by unfold leftOf at hx; simp at hx ⊢; exact hx.1
  have eL : Array.filter (fun e => !seen.contains e.born) arr = leftOf arr seen := rfl
  simp only [eL]
  clear eL
  generalize leftOf arr seen = L at hmem hmemA hL hseen ⊢
  have e1 : L.filter (fun x => decide (x.born < clock)) = L := Array.filter_eq_self.2 (fun x hx => by simpa using hmem x (by simpa using hx))
  have e2 : L.filter (fun x => decide (x.born ≥ clock)) = #[] := by
    rw [Array.filter_eq_empty_iff]
    intro x hx
    have := hmem x (by simpa using hx)
    simp
    omega
  simp only [e1, e2, Array.append_empty]
  by_cases h0 : L.size = 0
  · left
    have : L = #[] := Array.eq_empty_of_size_eq_zero h0
    subst this
    have hl : left = [] := List.eq_nil_of_length_eq_zero (hL.len ▸ rfl)
    exact ⟨hl, by simp [choose, Sem.run, Question.forced]⟩
  · right
    have hne2 : L.isEmpty = false := by simp [Array.isEmpty, h0]
    simp only [hne2, Bool.false_eq_true, if_false, Array.empty_append, Array.size_map]
    have hch : ∃ (j : Nat) (w1 : World), j < L.size ∧ (w1 = w ∨ w1 = w.drew) ∧ (choose (Question.mapNext L.size)).run P w = .ok j w1 := by
      by_cases hf : L.size ≤ 1
      · exact ⟨0, w, by omega, .inl rfl, by simp [choose, Sem.run, Question.forced, hf]⟩
      · exact ⟨_, w.drew, Nat.mod_lt _ (by omega), .inr rfl, by
          simp only [choose, Sem.run, Question.forced, decide_eq_true_eq, hf, if_false, Question.cut]
          rfl⟩
    obtain ⟨j, w1, hj, hw1, hrun⟩ := hch
    have hLj : L.toList[j]? = some L[j] := by simp [hj]
    obtain ⟨q, hq, hk, hR⟩ := hL.get hLj
    have hheap : w1.heap = w.heap := by rcases hw1 with rfl | rfl <;> rfl
    have hi1 : w1.heap[ib]? = some (.mapIter (some mb) clock seen clock) := by rw [hheap]; exact hi
    refine ⟨j, q, L[j].val, { w1 with heap := w1.heap.setIfInBounds ib (.mapIter (some mb) clock (seen.push L[j].born) clock) }, hq, hR, ?_, ⟨arr, clock, seen.push L[j].born, ?_, hs, hA, ?_, ?_⟩, ⟨arr, clock, seen.push L[j].born, L[j], ?_, hs, ?_, by simp, hmemA _ (List.mem_of_getElem? hLj), hk, hR⟩, ?_, by simp [hheap]⟩
    · rw [hrun]
      simp [hj, setObj, Sem.run, hi1, hk]
    · show (w1.heap.setIfInBounds ib _)[mb]? = _
      rw [hheap]
      simp [Ne.symm hne, hb]
    · show (w1.heap.setIfInBounds ib _)[ib]? = _
      rw [hheap]
      simp [hil]
    · rw [hseen L[j] j hLj]
      exact hL.erase j
    · show (w1.heap.setIfInBounds ib _)[mb]? = _
      rw [hheap]
      simp [Ne.symm hne, hb]
    · show (w1.heap.setIfInBounds ib _)[ib]? = _
      rw [hheap]
      simp [hil]
    · have : Chg [ib] w w1 := by 
        rcases hw1 with rfl | rfl
        · exact .refl _ _
        · exact (Chg.refl _ _).drew
      exact this.trans (set_chg w1)
theorem Lst_mapnext {d ib : Nat} {x : Operand} {left : List (K × α)} (hx : ev F x = .pointer (some ⟨ib, 0, none⟩)) (hit : ItAt ky w ib mb R es left) (hd : Nat.blt d n = true)
    (h0 : left = [] → Lst P rd n ops Q rest (upd F d (.tuple #[.bool false])) ds w)
    (h1 : ∀ j q v w', left[j]? = some q → R v q.2 → ItAt ky w' ib mb R es (left.eraseIdx j) → ItCur ky w' ib mb R q → Chg [ib] w w' → w'.heap.size = w.heap.size → Lst P rd n ops Q rest (upd F d (.tuple #[.bool true, ky q.1, v])) ds w') :
    Lst P rd n ops Q (⟨some d, .next x false, ty, pos, after, none⟩ :: rest) F ds w := by
  rcases run_mnext (P := P) ty hit with ⟨hl, hrun⟩ | ⟨j, q, v, w', hq, hR, hrun, hit', hcur, hc, hz⟩
  · exact Lst_value rfl (by simp [execOp, hx, hrun]) hd (h0 hl)
  · exact Lst_value rfl (by simp [execOp, hx, hrun]) hd (h1 j q v w' hq hR hit' hcur hc hz)
end map0
section map
variable {α K : Type} [DecidableEq K] {ky : K → Value} {R : Value → α → Prop} {es : List (K × α)} {mb : Nat} {w : World}
/-- What a look-up gives. -/
def Got (R : Value → α → Prop) (es : List (K × α)) (k : K) (z v : Value) (there : Bool) : Prop := (look es k = none ∧ v = z ∧ there = false) ∨ ∃ a, look es k = some a ∧ R v a ∧ there = true
variable {P : Program} {rd : Option Nat} {n : Nat} {ops : Array Oper} {Q : Post} {rest : List Oper} {F : Fr} {ds : List Deferred} {ty : TypeId} {pos : String} {after : Array Edge}
theorem run_look {t kt et : TypeId} {k : K} {z : Value} (ok : Bool) (ht : P.underlying t = some (.map kt et)) (hk : KeyOk P kt ky) (hz : (zeroValue et).run P w = .ok z w) (h : MpAt ky w mb R es) :
    ∃ v there, Got R es k z v there ∧ (Instr.lookup t (.map (some mb)) (ky k) ok).run P w = .ok (if ok then .tuple #[v, .bool there] else v) w := by
  obtain ⟨arr, clock, hb, _, hA⟩ := h
  have hck : ∀ e, (Instr.checkKey e 10000 kt (ky k)).run P w = .ok () w := fun e => hk.check e k w
  rcases find_ent hk k arr.toList es w hA with ⟨h1, h2, _⟩ | ⟨j, e, a, h1, h2, _, _, h5, _, _⟩
  · refine ⟨z, false, .inl ⟨h1, rfl, rfl⟩, ?_⟩
    simp [Instr.lookup, run_underlying ht, MapKept.run_getObj_map hb, hck, h2, hz, Result.andThen]
  · refine ⟨e.val, true, .inr ⟨a, h1, h5, rfl⟩, ?_⟩
    simp [Instr.lookup, run_underlying ht, MapKept.run_getObj_map hb, hck, h2, Result.andThen]
theorem Lst_mapget {d : Nat} {m x : Operand} {t kt et : TypeId} {k : K} {z : Value} (hm : ev F m = .map (some mb)) (hx : ev F x = ky k) (ht : P.underlying t = some (.map kt et)) (hk : KeyOk P kt ky) (hz : (zeroValue et).run P w = .ok z w) (hmp : MpAt ky w mb R es) (hd : Nat.blt d n = true)
    (h : ∀ v there, Got R es k z v there → Lst P rd n ops Q rest (upd F d v) ds w) : Lst P rd n ops Q (⟨some d, .lookup t m x false, ty, pos, after, none⟩ :: rest) F ds w := by
  obtain ⟨v, there, hg, hrun⟩ := run_look (P := P) (k := k) false ht hk hz hmp
  exact Lst_value rfl (by simp [execOp, hm, hx, hrun]) hd (h v there hg)
theorem Lst_mapok {d : Nat} {m x : Operand} {t kt et : TypeId} {k : K} {z : Value} (hm : ev F m = .map (some mb)) (hx : ev F x = ky k) (ht : P.underlying t = some (.map kt et)) (hk : KeyOk P kt ky) (hz : (zeroValue et).run P w = .ok z w) (hmp : MpAt ky w mb R es) (hd : Nat.blt d n = true)
    (h : ∀ v there, Got R es k z v there → Lst P rd n ops Q rest (upd F d (.tuple #[v, .bool there])) ds w) : Lst P rd n ops Q (⟨some d, .lookup t m x true, ty, pos, after, none⟩ :: rest) F ds w := by
  obtain ⟨v, there, hg, hrun⟩ := run_look (P := P) (k := k) true ht hk hz hmp
  exact Lst_value rfl (by simp [execOp, hm, hx, hrun]) hd (h v there hg)
theorem run_mput {t kt et : TypeId} {k : K} {v : Value} {a : α} (ht : P.underlying t = some (.map kt et)) (hk : KeyOk P kt ky) (h : MpAt ky w mb R es) (hR : R v a) :
    ∃ w', (Instr.mapUpdate t (.map (some mb)) (ky k) v).run P w = .ok () w' ∧ MpAt ky w' mb R (put es k a) ∧ Chg [mb] w w' ∧ w'.heap.size = w.heap.size := by
  obtain ⟨arr, clock, hb, hs, hA⟩ := h
  have hck : ∀ e, (Instr.checkKey e 10000 kt (ky k)).run P w = .ok () w := fun e => hk.check e k w
  rcases find_ent hk k arr.toList es w hA with ⟨h1, h2, h3⟩ | ⟨j, e, b, h1, h2, h3, h4, _, h6, _⟩
  · refine ⟨{ w with heap := w.heap.setIfInBounds mb (.map (arr.push { key := ky k, val := v, born := clock }) (clock + 1)) }, ?_, ⟨_, _, (heap_set hb).1, stamped_push hs h3, ?_⟩, set_chg w, by simp⟩
    · simp [Instr.mapUpdate, run_underlying ht, MapKept.run_getObj_map hb, hck, h2, MapKept.run_setObj_map _ hb, Result.andThen]
    · rw [Array.toList_push, put_none h1]
      exact hA.append ⟨⟨rfl, hR⟩, trivial⟩
  · have hj : arr[j]? = some e := by simpa using h3
    refine ⟨{ w with heap := w.heap.setIfInBounds mb (.map (arr.modify j fun e => { e with key := ky k, val := v }) clock) }, ?_, ⟨_, _, (heap_set hb).1, stamped_modify hs _ _ (fun _ _ => rfl) (fun e' _ he' => by rw [hj] at he'; cases he'; exact h4.symm), ?_⟩, set_chg w, by simp⟩
    · simp [Instr.mapUpdate, run_underlying ht, MapKept.run_getObj_map hb, hck, h2, hj, h4, hk.keep k, MapKept.run_setObj_map _ hb, Result.andThen]
    · have e1 : (arr.modify j fun e => { e with key := ky k, val := v }).toList = arr.toList.set j { e with val := v } := by
        rw [Array.toList_modify]
        apply List.ext_getElem?
        intro q
        rw [List.getElem?_modify, List.getElem?_set]
        have hlt : j < arr.toList.length := (List.getElem?_eq_some_iff.1 h3).1
        by_cases hq : j = q
        · subst hq
          simp only [if_true, hlt, h3, h4.symm]
          rfl
        · simp [hq]
      rw [e1]
      exact h6 v a hR
theorem Lst_mapput {m x y : Operand} {t kt et : TypeId} {k : K} {v : Value} (a : α) (hm : ev F m = .map (some mb)) (hx : ev F x = ky k) (hy : ev F y = v) (ht : P.underlying t = some (.map kt et)) (hk : KeyOk P kt ky) (hmp : MpAt ky w mb R es) (hR : R v a)
    (h : ∀ w', MpAt ky w' mb R (put es k a) → Chg [mb] w w' → w'.heap.size = w.heap.size → Lst P rd n ops Q rest F ds w') : Lst P rd n ops Q (⟨none, .mapUpdate t m x y, ty, pos, after, none⟩ :: rest) F ds w := by
  obtain ⟨w', hrun, h1, h2, h3⟩ := run_mput (P := P) (k := k) ht hk hmp hR
  exact Lst_unit rfl (by simp [execOp, hm, hx, hy, hrun]) rfl (h w' h1 h2 h3)
theorem run_mdel {t kt et ty : TypeId} {k : K} (ht : P.underlying t = some (.map kt et)) (hk : KeyOk P kt ky) (h : MpAt ky w mb R es) :
    ∃ w', (Builtin.delete_ #[t, kt] ty #[.map (some mb), ky k]).run P w = .ok (.tuple #[]) w' ∧ MpAt ky w' mb R (del es k) ∧ Chg [mb] w w' ∧ w'.heap.size = w.heap.size := by
  obtain ⟨arr, clock, hb, hs, hA⟩ := h
  have hck : ∀ e, (Instr.checkKey e 10000 kt (ky k)).run P w = .ok () w := fun e => hk.check e k w
  rcases find_ent hk k arr.toList es w hA with ⟨h1, h2, h3⟩ | ⟨j, e, b, h1, h2, h3, h4, _, _, h7⟩
  · refine ⟨{ w with heap := w.heap.setIfInBounds mb (.map arr clock) }, ?_, ⟨_, _, (heap_set hb).1, hs, ?_⟩, set_chg w, by simp⟩
    · simp [Builtin.delete_, run_underlying ht, MapKept.run_getObj_map hb, hck, h2, MapKept.run_setObj_map _ hb, Result.andThen]
    · have : ∀ {l : List (K × α)}, look l k = none → del l k = l := by
        intro l
        induction l with
        | nil => intro _; rfl
        | cons p l ih =>
          intro h
          unfold look at h
          unfold del
          by_cases e : p.1 = k
          · rw [if_pos e] at h; cases h
          · rw [if_neg e] at h ⊢; rw [ih h]
      rw [this h1]
      exact hA
  · refine ⟨{ w with heap := w.heap.setIfInBounds mb (.map (arr.eraseIdxIfInBounds j) clock) }, ?_, ⟨_, _, (heap_set hb).1, stamped_erase hs j, ?_⟩, set_chg w, by simp⟩
    · simp [Builtin.delete_, run_underlying ht, MapKept.run_getObj_map hb, hck, h2, MapKept.run_setObj_map _ hb, Result.andThen]
    · have hlt : j < arr.size := by have := (List.getElem?_eq_some_iff.1 h3).1; simpa using this
      rw [show (arr.eraseIdxIfInBounds j).toList = arr.toList.eraseIdx j by simp [Array.eraseIdxIfInBounds, hlt]]
      exact h7
theorem Lst_mapdel {d : Option Nat} {m x : Operand} {t kt et : TypeId} {k : K} (hm : ev F m = .map (some mb)) (hx : ev F x = ky k) (ht : P.underlying t = some (.map kt et)) (hk : KeyOk P kt ky) (hmp : MpAt ky w mb R es) (hd : okd n d = true)
    (h : ∀ w', MpAt ky w' mb R (del es k) → Chg [mb] w w' → w'.heap.size = w.heap.size → Lst P rd n ops Q rest (updO F d (.tuple #[])) ds w') : Lst P rd n ops Q (⟨d, .call { callee := .builtin .delete, args := #[m, x], argTypes := #[t, kt] }, ty, pos, after, none⟩ :: rest) F ds w := by
  obtain ⟨w', hrun, h1, h2, h3⟩ := run_mdel (P := P) (k := k) (ty := ty) ht hk hmp
  exact Lst_value rfl (by simp [execOp, resolve, invoke, builtin, hm, hx, hrun]) hd (h w' h1 h2 h3)
end map
section keys
variable {P : Program} {kt : TypeId} {K : Type} {ky : K → Value}
theorem ask (inj : ∀ {a b : K}, ky a = ky b → a = b) (eq : ∀ (a b : K) (w : World), ∃ r, (Op.equal kt (ky a) (ky b)).run P w = .ok r w ∧ (r = true ↔ a = b)) (k : K) (w : World) : ∀ (l : List MapEntry) (i : Nat), (∀ x ∈ l, ∃ j, x.key = ky j) →
    ((Instr.findAsking kt (ky k) l i).run P w = .ok none w ∧ ∀ x ∈ l, x.key ≠ ky k) ∨
    ∃ j e, (Instr.findAsking kt (ky k) l i).run P w = .ok (some (i + j, e.val)) w ∧ l[j]? = some e ∧ e.key = ky k ∧ ∀ i x, i < j → l[i]? = some x → x.key ≠ ky k
  | [], i, _ => .inl ⟨by simp [Instr.findAsking], fun x hx => by cases hx⟩
  | e :: es, i, h => by
    obtain ⟨q, hq⟩ := h e (by simp)
    obtain ⟨r, hr, hiff⟩ := eq k q w
    cases r with
    | true => exact .inr ⟨0, e, by simp [Instr.findAsking, hq, hr], rfl, by rw [hq, hiff.1 rfl], fun i x hi => absurd hi (Nat.not_lt_zero _)⟩
    | false =>
      have hne : e.key ≠ ky k := fun h' => by
        have := hiff.2 (inj (h'.symm.trans hq))
        cases this
      rcases ask inj eq k w es (i + 1) (fun x hx => h x (by simp [hx])) with ⟨h1, h2⟩ | ⟨j, e', h1, h2, h3, h4⟩
      · refine .inl ⟨by simp [Instr.findAsking, hq, hr, h1], fun x hx => ?_⟩
        rcases List.mem_cons.1 hx with rfl | hx
        · exact hne
        · exact h2 x hx
      · refine .inr ⟨j + 1, e', by simp [Instr.findAsking, hq, hr, h1, Nat.add_assoc, Nat.add_comm 1 j], by simpa using h2, h3, fun i x hi hx => ?_⟩
        cases i with
        | zero =>
          obtain rfl : e = x := by simpa using hx
          exact hne
        | succ i => exact h4 i x (by omega) (by simpa using hx)
theorem KeyOk.of {d : TypeDesc} (hd : P.underlying kt = some d) (inj : ∀ {a b : K}, ky a = ky b → a = b) (hs : ∀ a b, Instr.sameNow d (ky a) (ky b) = none) (eq : ∀ (a b : K) (w : World), ∃ r, (Op.equal kt (ky a) (ky b)).run P w = .ok r w ∧ (r = true ↔ a = b))
    (check : ∀ (e : Bool) (k : K) (w : World), (Instr.checkKey e 10000 kt (ky k)).run P w = .ok () w) (keep : ∀ (k : K) (w : World), (Instr.keyThatStays (ky k) (ky k)).run P w = .ok (ky k) w) : KeyOk P kt ky where
  inj := inj
  check := check
  keep := keep
  find := fun k l w h => by
    have e : (Instr.findKey kt (ky k) l).run P w = (Instr.findAsking kt (ky k) l 0).run P w := by
      cases l with
      | nil => simp [Instr.findKey, run_underlying hd, Instr.findNow, Instr.findAsking]
      | cons x l =>
        obtain ⟨j, hj⟩ := h x (by simp)
        simp [Instr.findKey, run_underlying hd, Instr.findNow, hj, hs]
    rw [e]
    rcases ask inj eq k w l 0 h with h1 | ⟨j, x, h1, h2⟩
    · exact .inl h1
    · rw [Nat.zero_add] at h1
      exact .inr ⟨j, x, h1, h2⟩
theorem check_struct {t : TypeId} {fs : Array Field} {xs : Array Value} {e : Bool} {n : Nat} {w : World} (hu : P.underlying t = some (.struct fs)) (h : ∀ f ∈ fs.toList, f.name ≠ "_" ∧ ∃ a, (part f.type xs f.offset).run P w = .ok a w ∧ (Instr.checkKey e n f.type a).run P w = .ok () w) :
    (Instr.checkKey e (n + 1) t (.agg xs)).run P w = .ok () w := by
  rw [Instr.checkKey]
  simp only [Sem.run_bind, run_underlying hu, Result.andThen_ok]
  rw [← Array.forIn_toList]
  generalize fs.toList = L at h
  induction L with
  | nil => simp
  | cons f L ih =>
    obtain ⟨hn, a, p1, p2⟩ := h f (by simp)
    simp only [List.forIn_cons, Sem.run_bind, hn, ne_eq, not_false_eq_true, if_true, Result.andThen_ok, p1, p2, Sem.run_pure]
    exact ih fun y hy => h y (by simp [hy])
end keys
end SxG
end Go.Proofs.Ytmammcgdjjldbaa
