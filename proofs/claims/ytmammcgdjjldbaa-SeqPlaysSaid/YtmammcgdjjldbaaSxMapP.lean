/- Our calculus of walks: maps whose keys are told apart in this world only (pointers). Over any program. -/
import Derived.Test.YtmammcgdjjldbaaSxMapG
import Derived.LaidEqlPtr
namespace Go.Proofs.Ytmammcgdjjldbaa
namespace SxG
open Go Go.RowKit Go.MapKept Sx
/-- In this world these keys are told apart. -/
structure KeyW (P : Program) (kt : TypeId) {K : Type} (ky : K → Value) (V : K → Prop) (w : World) : Prop where
  inj : ∀ {a b : K}, ky a = ky b → a = b
  desc : ∃ d, P.underlying kt = some d ∧ ∀ a b, Instr.sameNow d (ky a) (ky b) = none
  check : ∀ (e : Bool) (k : K), (Instr.checkKey e 10000 kt (ky k)).run P w = .ok () w
  eq : ∀ (a b : K), V a → V b → ∃ r, (Op.equal kt (ky a) (ky b)).run P w = .ok r w ∧ (r = true ↔ a = b)
  keep : ∀ (k : K), (Instr.keyThatStays (ky k) (ky k)).run P w = .ok (ky k) w
section lists
variable {P : Program} {kt : TypeId} {K : Type} {ky : K → Value} {V : K → Prop} {w : World}
theorem askW (hk : KeyW P kt ky V w) (k : K) (hv : V k) : ∀ (l : List MapEntry) (i : Nat), (∀ x ∈ l, ∃ j, V j ∧ x.key = ky j) → ((Instr.findAsking kt (ky k) l i).run P w = .ok none w ∧ ∀ x ∈ l, x.key ≠ ky k) ∨
    ∃ j e, (Instr.findAsking kt (ky k) l i).run P w = .ok (some (i + j, e.val)) w ∧ l[j]? = some e ∧ e.key = ky k ∧ ∀ q x, q < j → l[q]? = some x → x.key ≠ ky k
  | [], i, _ => .inl ⟨by simp [Instr.findAsking], fun x hx => by cases hx⟩
  | e :: l, i, h => by
    obtain ⟨q, hvq, hq⟩ := h e (by simp)
    obtain ⟨r, hr, hi⟩ := hk.eq k q hv hvq
    cases r with
    | true =>
      have hkq := hi.1 rfl
      refine .inr ⟨0, e, by simp [Instr.findAsking, hq, hr], rfl, by rw [hq, hkq], fun q x hq => absurd hq (Nat.not_lt_zero _)⟩
    | false =>
      have hne : e.key ≠ ky k := fun e' => by
        have : k = q := (hk.inj (hq.symm.trans e')).symm
        have := hi.2 this
        cases this
      rcases askW hk k hv l (i + 1) (fun x hx => h x (by simp [hx])) with ⟨h1, h2⟩ | ⟨j, e', h1, h2, h3, h4⟩
      · refine .inl ⟨by simp [Instr.findAsking, hq, hr, h1], fun x hx => ?_⟩
        rcases List.mem_cons.1 hx with rfl | hx
        · exact hne
        · exact h2 x hx
      · refine .inr ⟨j + 1, e', by simp [Instr.findAsking, hq, hr, h1, Nat.add_assoc, Nat.add_comm 1 j], by simpa using h2, h3, fun i x hi hx => ?_⟩
        cases i with
        | zero =>
          obtain rfl : e = x := by simpa using hx
          exact hne
        | succ i => exact h4 i x (by omega) (by simpa using hx)
theorem findW (hk : KeyW P kt ky V w) (k : K) (hv : V k) (l : List MapEntry) (h : ∀ x ∈ l, ∃ j, V j ∧ x.key = ky j) : ((Instr.findKey kt (ky k) l).run P w = .ok none w ∧ ∀ x ∈ l, x.key ≠ ky k) ∨
    ∃ j e, (Instr.findKey kt (ky k) l).run P w = .ok (some (j, e.val)) w ∧ l[j]? = some e ∧ e.key = ky k ∧ ∀ i x, i < j → l[i]? = some x → x.key ≠ ky k := by
  obtain ⟨d, hd, hs⟩ := hk.desc
  have e : (Instr.findKey kt (ky k) l).run P w = (Instr.findAsking kt (ky k) l 0).run P w := by
    cases l with
    | nil => simp [Instr.findKey, run_underlying hd, Instr.findNow, Instr.findAsking]
    | cons x l =>
      obtain ⟨j, _, hj⟩ := h x (by simp)
      simp [Instr.findKey, run_underlying hd, Instr.findNow, hj, hs]
  rw [e]
  rcases askW hk k hv l 0 h with h1 | ⟨j, x, h1, h2⟩
  · exact .inl h1
  · rw [Nat.zero_add] at h1
    exact .inr ⟨j, x, h1, h2⟩
end lists
section map
variable {α K : Type} [DecidableEq K] {ky : K → Value} {V : K → Prop} {R : Value → α → Prop} {es : List (K × α)} {mb : Nat} {w : World} {P : Program} {rd : Option Nat} {n : Nat} {ops : Array Oper} {Q : Post} {rest : List Oper} {F : Fr} {ds : List Deferred} {ty : TypeId} {pos : String} {after : Array Edge}
omit [DecidableEq K] in
theorem keysV : ∀ {l : List MapEntry} {m : List (K × α)}, All2 (Ent ky R) l m → (∀ q ∈ m, V q.1) → ∀ x ∈ l, ∃ j, V j ∧ x.key = ky j
  | [], [], _, _, x, hx => by cases hx
  | e :: l, q :: m, h, hv, x, hx => by
    rcases List.mem_cons.1 hx with rfl | hx
    · exact ⟨q.1, hv q (by simp), h.1.1⟩
    · exact keysV h.2 (fun q hq => hv q (by simp [hq])) x hx
  | [], _ :: _, h, _, _, _ => h.elim
  | _ :: _, [], h, _, _, _ => h.elim
theorem find_entW {kt : TypeId} (hk : KeyW P kt ky V w) (k : K) (hv : V k) (l : List MapEntry) (m : List (K × α)) (h : All2 (Ent ky R) l m) (hm : ∀ q ∈ m, V q.1) :
    (look m k = none ∧ (Instr.findKey kt (ky k) l).run P w = .ok none w ∧ ∀ x ∈ l, x.key ≠ ky k) ∨
    ∃ j e a, look m k = some a ∧ (Instr.findKey kt (ky k) l).run P w = .ok (some (j, e.val)) w ∧ l[j]? = some e ∧ e.key = ky k ∧ R e.val a := by
  rcases findW hk k hv l (keysV h hm) with ⟨h1, h2⟩ | ⟨j, e, h1, h2, h3, h4⟩
  · exact .inl ⟨look_no h h2, h1, h2⟩
  · obtain ⟨a, g1, g2, _, _⟩ := look_yes hk.inj h h2 h3 h4
    exact .inr ⟨j, e, a, g1, h1, h2, h3, g2⟩
theorem run_lookW {t kt et : TypeId} {k : K} {z : Value} (ok : Bool) (ht : P.underlying t = some (.map kt et)) (hk : KeyW P kt ky V w) (hv : V k) (hz : (zeroValue et).run P w = .ok z w) (h : MpAt ky w mb R es) (hm : ∀ q ∈ es, V q.1) :
    ∃ v there, Got R es k z v there ∧ (Instr.lookup t (.map (some mb)) (ky k) ok).run P w = .ok (if ok then .tuple #[v, .bool there] else v) w := by
  obtain ⟨arr, clock, hb, _, hA⟩ := h
  have hck : ∀ e, (Instr.checkKey e 10000 kt (ky k)).run P w = .ok () w := fun e => hk.check e k
  rcases find_entW hk k hv arr.toList es hA hm with ⟨h1, h2, _⟩ | ⟨j, e, a, h1, h2, _, _, h5⟩
  · refine ⟨z, false, .inl ⟨h1, rfl, rfl⟩, ?_⟩
    simp [Instr.lookup, run_underlying ht, MapKept.run_getObj_map hb, hck, h2, hz, Result.andThen]
  · refine ⟨e.val, true, .inr ⟨a, h1, h5, rfl⟩, ?_⟩
    simp [Instr.lookup, run_underlying ht, MapKept.run_getObj_map hb, hck, h2, Result.andThen]
theorem Lst_mapgetW {d : Nat} {m x : Operand} {t kt et : TypeId} {k : K} {z : Value} (hm : ev F m = .map (some mb)) (hx : ev F x = ky k) (ht : P.underlying t = some (.map kt et)) (hk : KeyW P kt ky V w) (hv : V k) (hz : (zeroValue et).run P w = .ok z w) (hmp : MpAt ky w mb R es) (hes : ∀ q ∈ es, V q.1) (hd : Nat.blt d n = true)
    (h : ∀ v there, Got R es k z v there → Lst P rd n ops Q rest (upd F d v) ds w) : Lst P rd n ops Q (⟨some d, .lookup t m x false, ty, pos, after, none⟩ :: rest) F ds w := by
  obtain ⟨v, there, hg, hrun⟩ := run_lookW (P := P) (k := k) false ht hk hv hz hmp hes
  exact Lst_value rfl (by simp [execOp, hm, hx, hrun]) hd (h v there hg)
/-- A key that has not been there yet. -/
theorem Lst_mapnewW {m x y : Operand} {t kt et : TypeId} {k : K} {v : Value} (a : α) (hm : ev F m = .map (some mb)) (hx : ev F x = ky k) (hy : ev F y = v) (ht : P.underlying t = some (.map kt et)) (hk : KeyW P kt ky V w) (hv : V k) (hmp : MpAt ky w mb R es) (hes : ∀ q ∈ es, V q.1) (hno : look es k = none) (hR : R v a)
    (h : ∀ w', MpAt ky w' mb R (es ++ [(k, a)]) → Chg [mb] w w' → w'.heap.size = w.heap.size → Lst P rd n ops Q rest F ds w') : Lst P rd n ops Q (⟨none, .mapUpdate t m x y, ty, pos, after, none⟩ :: rest) F ds w := by
  obtain ⟨arr, clock, hb, hs, hA⟩ := hmp
  have hck : ∀ e, (Instr.checkKey e 10000 kt (ky k)).run P w = .ok () w := fun e => hk.check e k
  rcases find_entW hk k hv arr.toList es hA hes with ⟨h1, h2, h3⟩ | ⟨j, e, b, h1, _⟩
  · have hrun : (Instr.mapUpdate t (.map (some mb)) (ky k) v).run P w = .ok () { w with heap := w.heap.setIfInBounds mb (.map (arr.push { key := ky k, val := v, born := clock }) (clock + 1)) } := by
      simp [Instr.mapUpdate, run_underlying ht, MapKept.run_getObj_map hb, hck, h2, MapKept.run_setObj_map _ hb, Result.andThen]
    have hmp : MpAt ky { w with heap := w.heap.setIfInBounds mb (.map (arr.push { key := ky k, val := v, born := clock }) (clock + 1)) } mb R (es ++ [(k, a)]) := by
      refine ⟨_, _, (heap_set hb).1, stamped_push hs h3, ?_⟩
      rw [Array.toList_push]
      exact hA.append ⟨⟨rfl, hR⟩, trivial⟩
    exact Lst_unit rfl (by simp [execOp, hm, hx, hy, hrun]) rfl (h _ hmp (set_chg w) (by simp))
  · rw [hno] at h1
    cases h1
end map
/-! ### Pointers as keys -/
def kp (b : Option Nat) : Value := .pointer (b.map fun b => ⟨b, 0, none⟩)
def kpV (w : World) (b : Option Nat) : Prop := ∀ q, b = some q → ∃ l e, Blk w q l e
theorem keyPtr {P : Program} {kt te : TypeId} {j : TypeInfo} (w : World) (ht : P.underlying kt = some (.pointer te)) (hj : P.info? te = some j) (hsz : j.size ≠ 0) : KeyW P kt kp (kpV w) w := by
  have ne : ∀ (a b : Addr) (ca cb : Array Value) (ta tb : TypeId), a ≠ b → w.heap[a.block]? = some (.cells ca ta (0, 0)) → w.heap[b.block]? = some (.cells cb tb (0, 0)) → (Op.equal kt (.pointer (some a)) (.pointer (some b))).run P w = .ok false w := fun a b ca cb ta tb hne ha hb => by
    have h : ∀ d : Nat, (Op.equalIn (d + 1) kt (.pointer (some a)) (.pointer (some b))).run P w = .ok false w := fun d => by
      simp [Op.equalIn, run_underlying ht, sizeOf, typeInfo, hj, hsz, run_sameAddr_other w hne ha hb]
    simp [Op.equal, Op.maxDepth, h 9999]
  have same : ∀ (a : Addr), (Op.equal kt (.pointer (some a)) (.pointer (some a))).run P w = .ok true w := fun a => by
    have h : ∀ d : Nat, (Op.equalIn (d + 1) kt (.pointer (some a)) (.pointer (some a))).run P w = .ok true w := fun d => by
      simp [Op.equalIn, run_underlying ht, sizeOf, typeInfo, hj, run_sameAddr_same]
    simp [Op.equal, Op.maxDepth, h 9999]
  have nn : ∀ (b : Option Addr), (Op.equal kt (.pointer none) (.pointer b)).run P w = .ok b.isNone w := fun b => by
    have h : ∀ d : Nat, (Op.equalIn (d + 1) kt (.pointer none) (.pointer b)).run P w = .ok b.isNone w := fun d => by
      cases b <;> simp [Op.equalIn, run_underlying ht]
    simp [Op.equal, Op.maxDepth, h 9999]
  have sn : ∀ (a : Addr), (Op.equal kt (.pointer (some a)) (.pointer none)).run P w = .ok false w := fun a => by
    have h : ∀ d : Nat, (Op.equalIn (d + 1) kt (.pointer (some a)) (.pointer none)).run P w = .ok false w := fun d => by
      simp [Op.equalIn, run_underlying ht]
    simp [Op.equal, Op.maxDepth, h 9999]
  refine ⟨fun {a b} h => ?_, ⟨_, ht, fun a b => ?_⟩, fun e k => ?_, fun a b ha hb => ?_, fun k => ?_⟩
  · unfold kp at h
    cases a with
    | none => cases b with
      | none => rfl
      | some b => cases h
    | some a => cases b with
      | none => cases h
      | some b =>
        simp at h
        rw [h]
  · unfold kp
    cases a <;> cases b <;> rfl
  · have h : ∀ d : Nat, (Instr.checkKey e (d + 1) kt (kp k)).run P w = .ok () w := fun d => by
      unfold kp
      cases k <;> simp [Instr.checkKey, run_underlying ht]
    exact h 9999
  · cases a with
    | none =>
      refine ⟨b.isNone, ?_, by cases b <;> simp⟩
      have := nn (b.map fun b => ⟨b, 0, none⟩)
      rw [show (b.map fun b => (⟨b, 0, none⟩ : Addr)).isNone = b.isNone by cases b <;> rfl] at this
      exact this
    | some a => cases b with
      | none => exact ⟨false, sn _, by simp⟩
      | some b =>
        by_cases e : a = b
        · subst e
          exact ⟨true, same _, by simp⟩
        · obtain ⟨l, e1, h1⟩ := ha a rfl
          obtain ⟨l2, e2, h2⟩ := hb b rfl
          exact ⟨false, ne ⟨a, 0, none⟩ ⟨b, 0, none⟩ _ _ _ _ (fun h => e (by injection h)) h1 h2, by simp [e]⟩
  · unfold kp
    simp [Instr.keyThatStays, Instr.sameBits]
end SxG
end Go.Proofs.Ytmammcgdjjldbaa
