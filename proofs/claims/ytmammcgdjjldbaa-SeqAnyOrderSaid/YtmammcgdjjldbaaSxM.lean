/- Our calculus of walks: maps. Over any program. -/
import Derived.Test.YtmammcgdjjldbaaSxE
import Derived.MapKept
import Derived.Laws.IdiomRangeMap
namespace Go.Proofs.Ytmammcgdjjldbaa
namespace Sx
open Go Go.RowKit Go.MapKept

/-- Two lists, member by member. -/
def All2 {β γ : Type} (r : β → γ → Prop) : List β → List γ → Prop
  | [], [] => True
  | a :: l, b :: m => r a b ∧ All2 r l m
  | _, _ => False
section lists
variable {α : Type}
def look : List (ByteArray × α) → ByteArray → Option α
  | [], _ => none
  | p :: l, k => if p.1 = k then some p.2 else look l k
def put : List (ByteArray × α) → ByteArray → α → List (ByteArray × α)
  | [], k, a => [(k, a)]
  | p :: l, k, a => if p.1 = k then (k, a) :: l else p :: put l k a
def del : List (ByteArray × α) → ByteArray → List (ByteArray × α)
  | [], _ => []
  | p :: l, k => if p.1 = k then l else p :: del l k
/-- An entry of a map's block, and what it stands for. -/
def Ent (R : Value → α → Prop) (e : MapEntry) (q : ByteArray × α) : Prop := e.key = .string q.1 ∧ R e.val q.2
theorem All2.len {β γ : Type} {r : β → γ → Prop} : ∀ {l : List β} {m : List γ}, All2 r l m → l.length = m.length
  | [], [], _ => rfl
  | _ :: _, _ :: _, h => by simp [All2.len h.2]
  | [], _ :: _, h => h.elim
  | _ :: _, [], h => h.elim
theorem All2.mono {β γ : Type} {r r' : β → γ → Prop} (hr : ∀ a b, r a b → r' a b) : ∀ {l : List β} {m : List γ}, All2 r l m → All2 r' l m
  | [], [], _ => trivial
  | _ :: _, _ :: _, h => ⟨hr _ _ h.1, All2.mono hr h.2⟩
  | [], _ :: _, h => h.elim
  | _ :: _, [], h => h.elim
theorem All2.append {β γ : Type} {r : β → γ → Prop} : ∀ {l l' : List β} {m m' : List γ}, All2 r l m → All2 r l' m' → All2 r (l ++ l') (m ++ m')
  | [], _, [], _, _, h' => h'
  | _ :: _, _, _ :: _, _, h, h' => ⟨h.1, All2.append h.2 h'⟩
  | [], _, _ :: _, _, h, _ => h.elim
  | _ :: _, _, [], _, h, _ => h.elim
theorem All2.keys {R : Value → α → Prop} : ∀ {l : List MapEntry} {m : List (ByteArray × α)}, All2 (Ent R) l m → ∀ x ∈ l, IsKey .string x.key
  | [], [], _, x, hx => by cases hx
  | e :: l, q :: m, h, x, hx => by
    rcases List.mem_cons.1 hx with rfl | hx
    · rw [h.1.1]; exact trivial
    · exact All2.keys h.2 x hx
  | [], _ :: _, h, _, _ => h.elim
  | _ :: _, [], h, _, _ => h.elim
theorem put_none : ∀ {l : List (ByteArray × α)} {k : ByteArray} {a : α}, look l k = none → put l k a = l ++ [(k, a)]
  | [], _, _, _ => rfl
  | p :: l, k, a, h => by
    unfold look at h
    unfold put
    by_cases e : p.1 = k
    · rw [if_pos e] at h; cases h
    · rw [if_neg e] at h ⊢; rw [put_none h]; rfl
/-- Where a key stands, or that it does not. -/
theorem find_ent {R : Value → α → Prop} (k : ByteArray) : ∀ (l : List MapEntry) (m : List (ByteArray × α)) (i : Nat), All2 (Ent R) l m →
    (look m k = none ∧ Instr.findNow .string (.string k) l i = some none ∧ ∀ x ∈ l, x.key ≠ .string k) ∨
    ∃ j e a, look m k = some a ∧ Instr.findNow .string (.string k) l i = some (some (i + j, e.val)) ∧ l[j]? = some e ∧ e.key = .string k ∧ R e.val a ∧
      (∀ v b, R v b → All2 (Ent R) (l.set j { e with val := v }) (put m k b)) ∧ All2 (Ent R) (l.eraseIdx j) (del m k)
  | [], [], i, _ => .inl ⟨rfl, rfl, by simp⟩
  | e :: l, q :: m, i, h => by
    have hs : Instr.sameNow .string (.string k) e.key = some (k == q.1) := by rw [h.1.1]; rfl
    by_cases hk : q.1 = k
    · right
      refine ⟨0, e, q.2, by simp [look, hk], ?_, rfl, by rw [h.1.1, hk], h.1.2, fun v b hb => ?_, ?_⟩
      · unfold Instr.findNow
        have hb : (k == q.1) = true := (MapKept.bytes_beq _ _).2 hk.symm
        rw [hs, hb]
        simp
      · rw [show put (q :: m) k b = (k, b) :: m by simp [put, hk]]
        exact ⟨⟨by rw [← hk]; exact h.1.1, hb⟩, h.2⟩
      · rw [show del (q :: m) k = m by simp [del, hk]]
        exact h.2
    · have hne : (k == q.1) = false := by
        cases hb : (k == q.1) with
        | false => rfl
        | true => exact absurd ((MapKept.bytes_beq _ _).1 hb).symm hk
      rcases find_ent k l m (i + 1) h.2 with ⟨h1, h2, h3⟩ | ⟨j, e', a, h1, h2, h3, h4, h5, h6, h7⟩
      · left
        refine ⟨by simp [look, hk, h1], ?_, ?_⟩
        · unfold Instr.findNow
          rw [hs, hne]
          exact h2
        · intro x hx
          rcases List.mem_cons.1 hx with rfl | hx
          · rw [h.1.1]; exact fun e => hk (by cases e; rfl)
          · exact h3 x hx
      · right
        refine ⟨j + 1, e', a, by simp [look, hk, h1], ?_, by simpa using h3, h4, h5, fun v b hb => ?_, ?_⟩
        · unfold Instr.findNow
          rw [hs, hne]
          rw [h2, Nat.add_assoc, Nat.add_comm 1 j]
        · rw [show put (q :: m) k b = q :: put m k b by simp [put, hk]]
          exact ⟨h.1, h6 v b hb⟩
        · rw [show del (q :: m) k = q :: del m k by simp [del, hk]]
          exact ⟨h.1, h7⟩
  | [], _ :: _, _, h => h.elim
  | _ :: _, [], _, h => h.elim
end lists

/-- Nothing but these blocks has turned; there may be new ones. -/
structure Chg (bs : List Nat) (w w' : World) : Prop where
  os : w'.os = w.os
  tape : w'.tape = w.tape
  output : w'.output = w.output
  size : w.heap.size ≤ w'.heap.size
  block : ∀ g, g < w.heap.size → g ∉ bs → w'.heap[g]? = w.heap[g]?
theorem Chg.refl (bs : List Nat) (w : World) : Chg bs w w := ⟨rfl, rfl, rfl, Nat.le_refl _, fun _ _ _ => rfl⟩
theorem Chg.trans {bs : List Nat} {x y z : World} (h : Chg bs x y) (k : Chg bs y z) : Chg bs x z :=
  ⟨k.os.trans h.os, k.tape.trans h.tape, k.output.trans h.output, Nat.le_trans h.size k.size, fun g h1 h2 => (k.block g (Nat.lt_of_lt_of_le h1 h.size) h2).trans (h.block g h1 h2)⟩
theorem Chg.mono {bs cs : List Nat} {w w' : World} (h : Chg bs w w') (hs : ∀ b ∈ bs, b ∈ cs) : Chg cs w w' :=
  ⟨h.os, h.tape, h.output, h.size, fun g h1 h2 => h.block g h1 fun e => h2 (hs g e)⟩
theorem Chg.of {bs : List Nat} {w w' : World} (h : Below w.heap.size w w') : Chg bs w w' := ⟨h.os, h.tape, h.output, h.size, fun g h1 _ => h.block g h1⟩
theorem Chg.drew {bs : List Nat} {w w' : World} (h : Chg bs w w') : Chg bs w w'.drew := ⟨h.os, h.tape, h.output, h.size, h.block⟩
theorem Chg.alloc {bs : List Nat} {w w' : World} (h : Chg bs w w') (o : Obj) : Chg bs w (w'.alloc o) := h.trans (.of ((Below.refl _ _).alloc (Nat.le_refl _) o))
theorem Chg.put {bs : List Nat} {w w' : World} {b : Nat} (h : Chg bs w w') (hb : b ∈ bs ∨ w.heap.size ≤ b) (o : Obj) : Chg bs w (w'.putObj b o) :=
  ⟨h.os, h.tape, h.output, by rw [World.putObj_size]; exact h.size, fun g h1 h2 => (World.putObj_heap_other (by
    rintro rfl
    rcases hb with hb | hb
    · exact h2 hb
    · omega)).trans (h.block g h1 h2)⟩
theorem Chg.below {bs : List Nat} {w w' : World} {B : Nat} (h : Chg bs w w') (hb : ∀ b ∈ bs, B ≤ b) (hB : B ≤ w.heap.size) : Below B w w' :=
  ⟨h.os, h.tape, h.output, h.size, fun g hg => h.block g (by omega) fun e => by have := hb g e; omega⟩
theorem Chg.blk {bs : List Nat} {w w' : World} {g : Nat} {l : List Value} {e : TypeId} (h : Chg bs w w') (hb : Blk w g l e) (hne : g ∉ bs) : Blk w' g l e := (h.block g hb.lt hne).trans hb

section map
variable {α : Type} {R : Value → α → Prop} {es : List (ByteArray × α)} {mb : Nat} {w : World}
/-- Block mb is a map with these keys, in the order in which they came, and values that stand for these. -/
def MpAt (w : World) (mb : Nat) (R : Value → α → Prop) (es : List (ByteArray × α)) : Prop := ∃ arr clock, w.heap[mb]? = some (.map arr clock) ∧ Stamped arr clock ∧ All2 (Ent R) arr.toList es
theorem MpAt.mono {R' : Value → α → Prop} {w' : World} (h : MpAt w mb R es) (hb : w'.heap[mb]? = w.heap[mb]?) (hR : ∀ v a, R v a → R' v a) : MpAt w' mb R' es := by
  obtain ⟨arr, clock, h1, h2, h3⟩ := h
  exact ⟨arr, clock, hb.trans h1, h2, h3.mono fun _ _ h => ⟨h.1, hR _ _ h.2⟩⟩
theorem MpAt.lt (h : MpAt w mb R es) : mb < w.heap.size := by
  obtain ⟨arr, clock, h1, _⟩ := h
  exact (Array.getElem?_eq_some_iff.1 h1).1
theorem MpAt.new (w : World) (R : Value → α → Prop) : MpAt (w.alloc (.map #[] 0)) w.heap.size R [] := ⟨#[], 0, (heap_alloc w _).1, stamped_empty 0, trivial⟩
theorem MpAt.drew (h : MpAt w mb R es) : MpAt w.drew mb R es := h
theorem MpAt.not_cells (h : MpAt w mb R es) (off : Nat) : w.cell? ⟨mb, off, none⟩ = none := by
  obtain ⟨arr, clock, h1, _⟩ := h
  simp [World.cell?, h1]
/-- What a look-up gives. -/
def Got (R : Value → α → Prop) (es : List (ByteArray × α)) (k : ByteArray) (z v : Value) (there : Bool) : Prop := (look es k = none ∧ v = z ∧ there = false) ∨ ∃ a, look es k = some a ∧ R v a ∧ there = true
variable {P : Program} {rd : Option Nat} {n : Nat} {ops : Array Oper} {Q : Post} {rest : List Oper} {F : Fr} {ds : List Deferred} {ty : TypeId} {pos : String} {after : Array Edge}
theorem run_look {t kt et : TypeId} {k : ByteArray} {z : Value} (ok : Bool) (ht : P.underlying t = some (.map kt et)) (hk : P.underlying kt = some .string) (hz : (zeroValue et).run P w = .ok z w) (h : MpAt w mb R es) :
    ∃ v there, Got R es k z v there ∧ (Instr.lookup t (.map (some mb)) (.string k) ok).run P w = .ok (if ok then .tuple #[v, .bool there] else v) w := by
  obtain ⟨arr, clock, hb, _, hA⟩ := h
  have hck : ∀ e, (Instr.checkKey e 10000 kt (.string k)).run P w = .ok () w := fun e => MapKept.run_checkKey hk (by exact trivial) e 9999
  rcases find_ent k arr.toList es 0 hA with ⟨h1, h2, _⟩ | ⟨j, e, a, h1, h2, _, _, h5, _, _⟩
  · refine ⟨z, false, .inl ⟨h1, rfl, rfl⟩, ?_⟩
    simp [Instr.lookup, run_underlying ht, MapKept.run_getObj_map hb, hck, MapKept.run_findKey hk h2, hz, Result.andThen]
  · refine ⟨e.val, true, .inr ⟨a, h1, h5, rfl⟩, ?_⟩
    simp [Instr.lookup, run_underlying ht, MapKept.run_getObj_map hb, hck, MapKept.run_findKey hk h2, Result.andThen]
theorem Lst_mapget {d : Nat} {m x : Operand} {t kt et : TypeId} {k : ByteArray} {z : Value} (hm : ev F m = .map (some mb)) (hx : ev F x = .string k) (ht : P.underlying t = some (.map kt et)) (hk : P.underlying kt = some .string) (hz : (zeroValue et).run P w = .ok z w) (hmp : MpAt w mb R es) (hd : Nat.blt d n = true)
    (h : ∀ v there, Got R es k z v there → Lst P rd n ops Q rest (upd F d v) ds w) : Lst P rd n ops Q (⟨some d, .lookup t m x false, ty, pos, after, none⟩ :: rest) F ds w := by
  obtain ⟨v, there, hg, hrun⟩ := run_look (P := P) (k := k) false ht hk hz hmp
  exact Lst_value rfl (by simp [execOp, hm, hx, hrun]) hd (h v there hg)
theorem Lst_mapok {d : Nat} {m x : Operand} {t kt et : TypeId} {k : ByteArray} {z : Value} (hm : ev F m = .map (some mb)) (hx : ev F x = .string k) (ht : P.underlying t = some (.map kt et)) (hk : P.underlying kt = some .string) (hz : (zeroValue et).run P w = .ok z w) (hmp : MpAt w mb R es) (hd : Nat.blt d n = true)
    (h : ∀ v there, Got R es k z v there → Lst P rd n ops Q rest (upd F d (.tuple #[v, .bool there])) ds w) : Lst P rd n ops Q (⟨some d, .lookup t m x true, ty, pos, after, none⟩ :: rest) F ds w := by
  obtain ⟨v, there, hg, hrun⟩ := run_look (P := P) (k := k) true ht hk hz hmp
  exact Lst_value rfl (by simp [execOp, hm, hx, hrun]) hd (h v there hg)
theorem set_chg {r : Nat} {o : Obj} (w : World) : Chg [r] w { w with heap := w.heap.setIfInBounds r o } := ⟨rfl, rfl, rfl, by simp, fun g _ hg => by
  have : g ≠ r := by simpa using hg
  show (w.heap.setIfInBounds r o)[g]? = _
  simp [Ne.symm this]⟩
theorem run_mput {t kt et : TypeId} {k : ByteArray} {v : Value} {a : α} (ht : P.underlying t = some (.map kt et)) (hk : P.underlying kt = some .string) (h : MpAt w mb R es) (hR : R v a) :
    ∃ w', (Instr.mapUpdate t (.map (some mb)) (.string k) v).run P w = .ok () w' ∧ MpAt w' mb R (put es k a) ∧ Chg [mb] w w' ∧ w'.heap.size = w.heap.size := by
  obtain ⟨arr, clock, hb, hs, hA⟩ := h
  have hkey : IsKey .string (.string k) := trivial
  have hck : ∀ e, (Instr.checkKey e 10000 kt (.string k)).run P w = .ok () w := fun e => MapKept.run_checkKey hk hkey e 9999
  rcases find_ent k arr.toList es 0 hA with ⟨h1, h2, h3⟩ | ⟨j, e, b, h1, h2, h3, h4, _, h6, _⟩
  · refine ⟨{ w with heap := w.heap.setIfInBounds mb (.map (arr.push { key := .string k, val := v, born := clock }) (clock + 1)) }, ?_, ⟨_, _, (heap_set hb).1, stamped_push hs h3, ?_⟩, set_chg w, by simp⟩
    · simp [Instr.mapUpdate, run_underlying ht, MapKept.run_getObj_map hb, hck, MapKept.run_findKey hk h2, MapKept.run_setObj_map _ hb, Result.andThen]
    · rw [Array.toList_push, put_none h1]
      exact hA.append ⟨⟨rfl, hR⟩, trivial⟩
  · have hj : arr[j]? = some e := by simpa using h3
    refine ⟨{ w with heap := w.heap.setIfInBounds mb (.map (arr.modify j fun e => { e with key := .string k, val := v }) clock) }, ?_, ⟨_, _, (heap_set hb).1, stamped_modify hs _ _ (fun _ _ => rfl) (fun e' _ he' => by rw [hj] at he'; cases he'; exact h4.symm), ?_⟩, set_chg w, by simp⟩
    · simp [Instr.mapUpdate, run_underlying ht, MapKept.run_getObj_map hb, hck, MapKept.run_findKey hk h2, hj, h4, MapKept.run_keyThatStays hkey, MapKept.run_setObj_map _ hb, Result.andThen]
    · have e1 : (arr.modify j fun e => { e with key := .string k, val := v }).toList = arr.toList.set j { e with val := v } := by
        rw [Array.toList_modify]
        apply List.ext_getElem?
        intro q
        rw [List.getElem?_modify, List.getElem?_set]
        have hlt : j < arr.toList.length := (List.getElem?_eq_some_iff.1 h3).1
        by_cases hq : j = q
        · subst hq
          simp only [if_true, hlt, h3, h4.symm]
          rfl
        · simp [hq]
      rw [e1]
      exact h6 v a hR
theorem Lst_mapput {m x y : Operand} {t kt et : TypeId} {k : ByteArray} {v : Value} (a : α) (hm : ev F m = .map (some mb)) (hx : ev F x = .string k) (hy : ev F y = v) (ht : P.underlying t = some (.map kt et)) (hk : P.underlying kt = some .string) (hmp : MpAt w mb R es) (hR : R v a)
    (h : ∀ w', MpAt w' mb R (put es k a) → Chg [mb] w w' → w'.heap.size = w.heap.size → Lst P rd n ops Q rest F ds w') : Lst P rd n ops Q (⟨none, .mapUpdate t m x y, ty, pos, after, none⟩ :: rest) F ds w := by
  obtain ⟨w', hrun, h1, h2, h3⟩ := run_mput (P := P) (k := k) ht hk hmp hR
  exact Lst_unit rfl (by simp [execOp, hm, hx, hy, hrun]) rfl (h w' h1 h2 h3)
theorem run_mdel {t kt et ty : TypeId} {k : ByteArray} (ht : P.underlying t = some (.map kt et)) (hk : P.underlying kt = some .string) (h : MpAt w mb R es) :
    ∃ w', (Builtin.delete_ #[t, kt] ty #[.map (some mb), .string k]).run P w = .ok (.tuple #[]) w' ∧ MpAt w' mb R (del es k) ∧ Chg [mb] w w' ∧ w'.heap.size = w.heap.size := by
  obtain ⟨arr, clock, hb, hs, hA⟩ := h
  have hkey : IsKey .string (.string k) := trivial
  have hck : ∀ e, (Instr.checkKey e 10000 kt (.string k)).run P w = .ok () w := fun e => MapKept.run_checkKey hk hkey e 9999
  rcases find_ent k arr.toList es 0 hA with ⟨h1, h2, h3⟩ | ⟨j, e, b, h1, h2, h3, h4, _, _, h7⟩
  · refine ⟨{ w with heap := w.heap.setIfInBounds mb (.map arr clock) }, ?_, ⟨_, _, (heap_set hb).1, hs, ?_⟩, set_chg w, by simp⟩
    · simp [Builtin.delete_, run_underlying ht, MapKept.run_getObj_map hb, hck, MapKept.run_findKey hk h2, MapKept.run_setObj_map _ hb, Result.andThen]
    · have : ∀ {l : List (ByteArray × α)}, look l k = none → del l k = l := by
        intro l
        induction l with
        | nil => intro _; rfl
        | cons p l ih =>
          intro h
          unfold look at h
          unfold del
          by_cases e : p.1 = k
          · rw [if_pos e] at h; cases h
          · rw [if_neg e] at h ⊢; rw [ih h]
      rw [this h1]
      exact hA
  · refine ⟨{ w with heap := w.heap.setIfInBounds mb (.map (arr.eraseIdxIfInBounds j) clock) }, ?_, ⟨_, _, (heap_set hb).1, stamped_erase hs j, ?_⟩, set_chg w, by simp⟩
    · simp [Builtin.delete_, run_underlying ht, MapKept.run_getObj_map hb, hck, MapKept.run_findKey hk h2, MapKept.run_setObj_map _ hb, Result.andThen]
    · have hlt : j < arr.size := by have := (List.getElem?_eq_some_iff.1 h3).1; simpa using this
      rw [show (arr.eraseIdxIfInBounds j).toList = arr.toList.eraseIdx j by simp [Array.eraseIdxIfInBounds, hlt]]
      exact h7
theorem Lst_mapdel {d : Option Nat} {m x : Operand} {t kt et : TypeId} {k : ByteArray} (hm : ev F m = .map (some mb)) (hx : ev F x = .string k) (ht : P.underlying t = some (.map kt et)) (hk : P.underlying kt = some .string) (hmp : MpAt w mb R es) (hd : okd n d = true)
    (h : ∀ w', MpAt w' mb R (del es k) → Chg [mb] w w' → w'.heap.size = w.heap.size → Lst P rd n ops Q rest (updO F d (.tuple #[])) ds w') : Lst P rd n ops Q (⟨d, .call { callee := .builtin .delete, args := #[m, x], argTypes := #[t, kt] }, ty, pos, after, none⟩ :: rest) F ds w := by
  obtain ⟨w', hrun, h1, h2, h3⟩ := run_mdel (P := P) (k := k) (ty := ty) ht hk hmp
  exact Lst_value rfl (by simp [execOp, resolve, invoke, builtin, hm, hx, hrun]) hd (h w' h1 h2 h3)
/-! ### A range over a map -/
theorem All2.erase {β γ : Type} {r : β → γ → Prop} : ∀ {l : List β} {m : List γ} (j : Nat), All2 r l m → All2 r (l.eraseIdx j) (m.eraseIdx j)
  | [], [], _, _ => trivial
  | _ :: _, _ :: _, 0, h => h.2
  | _ :: _, _ :: _, j + 1, h => ⟨h.1, All2.erase j h.2⟩
  | [], _ :: _, _, h => h.elim
  | _ :: _, [], _, h => h.elim
theorem All2.get {β γ : Type} {r : β → γ → Prop} : ∀ {l : List β} {m : List γ} {j : Nat} {a : β}, All2 r l m → l[j]? = some a → ∃ b, m[j]? = some b ∧ r a b
  | [], [], _, _, _, h => by simp at h
  | _ :: _, b :: _, 0, _, h, e => ⟨b, rfl, by simp at e; rw [← e]; exact h.1⟩
  | _ :: _, _ :: _, j + 1, _, h, e => by
    obtain ⟨b, h1, h2⟩ := All2.get (j := j) h.2 (by simpa using e)
    exact ⟨b, by simpa using h1, h2⟩
  | [], _ :: _, _, _, h, _ => h.elim
  | _ :: _, [], _, _, h, _ => h.elim
theorem filter_erase : ∀ (L : List MapEntry) (j : Nat) (e : MapEntry), (L.map (·.born)).Nodup → L[j]? = some e → L.filter (fun x => x.born != e.born) = L.eraseIdx j
  | [], _, _, _, h => by simp at h
  | x :: L, 0, e, hn, h => by
    obtain rfl : x = e := by simpa using h
    simp only [List.map_cons, List.nodup_cons] at hn
    rw [List.filter_cons_of_neg (by simp)]
    show _ = L
    rw [List.filter_eq_self]
    intro y hy
    simp only [bne_iff_ne, ne_eq]
    exact fun he => hn.1 (List.mem_map.2 ⟨y, hy, he⟩)
  | x :: L, j + 1, e, hn, h => by
    simp only [List.map_cons, List.nodup_cons] at hn
    have h' : L[j]? = some e := by simpa using h
    have hne : x.born ≠ e.born := fun he => hn.1 (by rw [he]; exact List.mem_map.2 ⟨e, List.mem_of_getElem? h', rfl⟩)
    rw [List.filter_cons_of_pos (by simpa using hne), filter_erase L j e hn.2 h']
    rfl
/-- Block ib goes over the map at mb; these are left. -/
def ItAt (w : World) (ib mb : Nat) (R : Value → α → Prop) (es left : List (ByteArray × α)) : Prop :=
  ∃ arr clock seen, w.heap[mb]? = some (.map arr clock) ∧ Stamped arr clock ∧ All2 (Ent R) arr.toList es ∧ w.heap[ib]? = some (.mapIter (some mb) clock seen clock) ∧ All2 (Ent R) (leftOf arr seen).toList left
theorem ItAt.map {ib : Nat} {left : List (ByteArray × α)} (h : ItAt w ib mb R es left) : MpAt w mb R es := by
  obtain ⟨arr, clock, seen, h1, h2, h3, _⟩ := h
  exact ⟨arr, clock, h1, h2, h3⟩
theorem ItAt.lt {ib : Nat} {left : List (ByteArray × α)} (h : ItAt w ib mb R es left) : ib < w.heap.size := by
  obtain ⟨arr, clock, seen, _, _, _, h4, _⟩ := h
  exact (Array.getElem?_eq_some_iff.1 h4).1
theorem ItAt.mono {R' : Value → α → Prop} {ib : Nat} {left : List (ByteArray × α)} {w' : World} (h : ItAt w ib mb R es left) (h1 : w'.heap[mb]? = w.heap[mb]?) (h2 : w'.heap[ib]? = w.heap[ib]?) (hR : ∀ v a, R v a → R' v a) : ItAt w' ib mb R' es left := by
  obtain ⟨arr, clock, seen, a1, a2, a3, a4, a5⟩ := h
  exact ⟨arr, clock, seen, h1.trans a1, a2, a3.mono (fun _ _ h => ⟨h.1, hR _ _ h.2⟩), h2.trans a4, a5.mono fun _ _ h => ⟨h.1, hR _ _ h.2⟩⟩
/-- What was handed out last. -/
def ItCur (w : World) (ib mb : Nat) (R : Value → α → Prop) (q : ByteArray × α) : Prop :=
  ∃ arr clock seen e, w.heap[mb]? = some (.map arr clock) ∧ Stamped arr clock ∧ w.heap[ib]? = some (.mapIter (some mb) clock seen clock) ∧ seen.back? = some e.born ∧ e ∈ arr.toList ∧ Ent R e q
theorem Lst_mapentry {d ib : Nat} {x : Operand} {q : ByteArray × α} (hx : ev F x = .pointer (some ⟨ib, 0, none⟩)) (hit : ItCur w ib mb R q) (hd : Nat.blt d n = true)
    (h : ∀ v, R v q.2 → Lst P rd n ops Q rest (upd F d (.tuple #[.string q.1, v])) ds w) : Lst P rd n ops Q (⟨some d, .entry x, ty, pos, after, none⟩ :: rest) F ds w := by
  obtain ⟨arr, clock, seen, e, hb, hs, hi, hl, he, hk, hR⟩ := hit
  have hf : arr.find? (fun x => x.born == e.born) = some e := by
    rw [← Array.find?_toList]
    exact find_born e arr.toList hs.2.1 he
  refine Lst_value rfl ?_ hd (h e.val hR)
  simp [execOp, hx, Instr.entry, getObj, Sem.run, hi, hb, hl, hf, hk, Result.andThen]
theorem Lst_maprange {d : Nat} {x : Operand} {t kt et : TypeId} (hx : ev F x = .map (some mb)) (ht : P.underlying t = some (.map kt et)) (hmp : MpAt w mb R es) (hd : Nat.blt d n = true)
    (h : ∀ w', ItAt w' w.heap.size mb R es es → Below w.heap.size w w' → w'.heap.size = w.heap.size + 1 → Lst P rd n ops Q rest (upd F d (.pointer (some ⟨w.heap.size, 0, none⟩))) ds w') : Lst P rd n ops Q (⟨some d, .range t x, ty, pos, after, none⟩ :: rest) F ds w := by
  obtain ⟨arr, clock, hb, hs, hA⟩ := hmp
  have hlt : mb < w.heap.size := (Array.getElem?_eq_some_iff.1 hb).1
  refine Lst_value rfl (by simp [execOp, hx, run_range_map w t kt et mb arr clock ht hb]) hd (h _ ⟨arr, clock, #[], ?_, hs, hA, (heap_alloc w _).1, ?_⟩ ((Below.refl _ _).alloc (Nat.le_refl _) _) (World.size_alloc ..))
  · exact ((heap_alloc w _).2 _ hlt).trans hb
  · have : leftOf arr #[] = arr := by unfold leftOf; simp
    rw [this]
    exact hA
theorem run_mnext {ib : Nat} {left : List (ByteArray × α)} (ty : TypeId) (h : ItAt w ib mb R es left) :
    (left = [] ∧ (Instr.next (.pointer (some ⟨ib, 0, none⟩)) false ty).run P w = .ok (.tuple #[.bool false]) w) ∨
    ∃ j q v w', left[j]? = some q ∧ R v q.2 ∧ (Instr.next (.pointer (some ⟨ib, 0, none⟩)) false ty).run P w = .ok (.tuple #[.bool true, .string q.1, v]) w' ∧ ItAt w' ib mb R es (left.eraseIdx j) ∧ ItCur w' ib mb R q ∧ Chg [ib] w w' ∧ w'.heap.size = w.heap.size := by
  obtain ⟨arr, clock, seen, hb, hs, hA, hi, hL⟩ := h
  have hne : mb ≠ ib := by rintro rfl; rw [hb] at hi; cases hi
  have hil : ib < w.heap.size := (Array.getElem?_eq_some_iff.1 hi).1
  have hold : ∀ x ∈ arr.toList, x.born < clock := hs.1
  simp only [Instr.next, getObj, Sem.run_bind, Sem.run, hi, hb, Result.andThen, next_test_false seen arr clock clock hold (Nat.le_refl _), Bool.false_eq_true, if_false]
  have hseen : ∀ (e : MapEntry) (j : Nat), (leftOf arr seen).toList[j]? = some e → (leftOf arr (seen.push e.born)).toList = (leftOf arr seen).toList.eraseIdx j := by
    intro e j hj
    rw [← filter_erase _ j e ?_ hj]
    · unfold leftOf
      simp only [Array.toList_filter, List.filter_filter, Array.contains_push]
      congr 1
      funext x
      cases h1 : seen.contains x.born <;> cases h2 : (x.born == e.born) <;> simp_all
    · exact ((Array.toList_filter ▸ List.filter_sublist : (leftOf arr seen).toList.Sublist arr.toList).map _).nodup hs.2.1
  have hmem : ∀ x ∈ (leftOf arr seen).toList, x.born < clock := fun x hx => hold x (by unfold leftOf at hx; simp at hx ⊢; exact hx.1)
  have hmemA : ∀ x ∈ (leftOf arr seen).toList, x ∈ arr.toList := fun x hx => by unfold leftOf at hx; simp at hx ⊢; exact hx.1
  have eL : Array.filter (fun e => !seen.contains e.born) arr = leftOf arr seen := rfl
  simp only [eL]
  clear eL
  generalize leftOf arr seen = L at hmem hmemA hL hseen ⊢
  have e1 : L.filter (fun x => decide (x.born < clock)) = L := Array.filter_eq_self.2 (fun x hx => by simpa using hmem x (by simpa using hx))
  have e2 : L.filter (fun x => decide (x.born ≥ clock)) = #[] := by
    rw [Array.filter_eq_empty_iff]
    intro x hx
    have := hmem x (by simpa using hx)
    simp
    omega
  simp only [e1, e2, Array.append_empty]
  by_cases h0 : L.size = 0
  · left
    have : L = #[] := Array.eq_empty_of_size_eq_zero h0
    subst this
    have hl : left = [] := List.eq_nil_of_length_eq_zero (hL.len ▸ rfl)
    exact ⟨hl, by simp [choose, Sem.run, Question.forced]⟩
  · right
    have hne2 : L.isEmpty = false := by simp [Array.isEmpty, h0]
    simp only [hne2, Bool.false_eq_true, if_false, Array.empty_append, Array.size_map]
    have hch : ∃ (j : Nat) (w1 : World), j < L.size ∧ (w1 = w ∨ w1 = w.drew) ∧ (choose (Question.mapNext L.size)).run P w = .ok j w1 := by
      by_cases hf : L.size ≤ 1
      · exact ⟨0, w, by omega, .inl rfl, by simp [choose, Sem.run, Question.forced, hf]⟩
      · exact ⟨_, w.drew, Nat.mod_lt _ (by omega), .inr rfl, by
          simp only [choose, Sem.run, Question.forced, decide_eq_true_eq, hf, if_false, Question.cut]
          rfl⟩
    obtain ⟨j, w1, hj, hw1, hrun⟩ := hch
    have hLj : L.toList[j]? = some L[j] := by simp [hj]
    obtain ⟨q, hq, hk, hR⟩ := hL.get hLj
    have hheap : w1.heap = w.heap := by rcases hw1 with rfl | rfl <;> rfl
    have hi1 : w1.heap[ib]? = some (.mapIter (some mb) clock seen clock) := by rw [hheap]; exact hi
    refine ⟨j, q, L[j].val, { w1 with heap := w1.heap.setIfInBounds ib (.mapIter (some mb) clock (seen.push L[j].born) clock) }, hq, hR, ?_, ⟨arr, clock, seen.push L[j].born, ?_, hs, hA, ?_, ?_⟩, ⟨arr, clock, seen.push L[j].born, L[j], ?_, hs, ?_, by simp, hmemA _ (List.mem_of_getElem? hLj), hk, hR⟩, ?_, by simp [hheap]⟩
    · rw [hrun]
      simp [hj, setObj, Sem.run, hi1, hk]
    · show (w1.heap.setIfInBounds ib _)[mb]? = _
      rw [hheap]
      simp [Ne.symm hne, hb]
    · show (w1.heap.setIfInBounds ib _)[ib]? = _
      rw [hheap]
      simp [hil]
    · rw [hseen L[j] j hLj]
      exact hL.erase j
    · show (w1.heap.setIfInBounds ib _)[mb]? = _
      rw [hheap]
      simp [Ne.symm hne, hb]
    · show (w1.heap.setIfInBounds ib _)[ib]? = _
      rw [hheap]
      simp [hil]
    · have : Chg [ib] w w1 := by 
        rcases hw1 with rfl | rfl
        · exact .refl _ _
        · exact (Chg.refl _ _).drew
      exact this.trans (set_chg w1)
theorem Lst_mapnext {d ib : Nat} {x : Operand} {left : List (ByteArray × α)} (hx : ev F x = .pointer (some ⟨ib, 0, none⟩)) (hit : ItAt w ib mb R es left) (hd : Nat.blt d n = true)
    (h0 : left = [] → Lst P rd n ops Q rest (upd F d (.tuple #[.bool false])) ds w)
    (h1 : ∀ j q v w', left[j]? = some q → R v q.2 → ItAt w' ib mb R es (left.eraseIdx j) → ItCur w' ib mb R q → Chg [ib] w w' → w'.heap.size = w.heap.size → Lst P rd n ops Q rest (upd F d (.tuple #[.bool true, .string q.1, v])) ds w') :
    Lst P rd n ops Q (⟨some d, .next x false, ty, pos, after, none⟩ :: rest) F ds w := by
  rcases run_mnext (P := P) ty hit with ⟨hl, hrun⟩ | ⟨j, q, v, w', hq, hR, hrun, hit', hcur, hc, hz⟩
  · exact Lst_value rfl (by simp [execOp, hx, hrun]) hd (h0 hl)
  · exact Lst_value rfl (by simp [execOp, hx, hrun]) hd (h1 j q v w' hq hR hit' hcur hc hz)
end map
end Sx
namespace SxU
open Go Go.RowKit Go.MapKept Sx
section lists
variable {α : Type}
def look : List (Int × α) → Int → Option α
  | [], _ => none
  | p :: l, k => if p.1 = k then some p.2 else look l k
def put : List (Int × α) → Int → α → List (Int × α)
  | [], k, a => [(k, a)]
  | p :: l, k, a => if p.1 = k then (k, a) :: l else p :: put l k a
def del : List (Int × α) → Int → List (Int × α)
  | [], _ => []
  | p :: l, k => if p.1 = k then l else p :: del l k
/-- An entry of a map's block, and what it stands for. -/
def Ent (R : Value → α → Prop) (e : MapEntry) (q : Int × α) : Prop := e.key = .int .u64 q.1 ∧ R e.val q.2
theorem keysU {R : Value → α → Prop} : ∀ {l : List MapEntry} {m : List (Int × α)}, All2 (Ent R) l m → ∀ x ∈ l, IsKey (.int .u64) x.key
  | [], [], _, x, hx => by cases hx
  | e :: l, q :: m, h, x, hx => by
    rcases List.mem_cons.1 hx with rfl | hx
    · rw [h.1.1]; exact rfl
    · exact keysU h.2 x hx
  | [], _ :: _, h, _, _ => h.elim
  | _ :: _, [], h, _, _ => h.elim
theorem put_none : ∀ {l : List (Int × α)} {k : Int} {a : α}, look l k = none → put l k a = l ++ [(k, a)]
  | [], _, _, _ => rfl
  | p :: l, k, a, h => by
    unfold look at h
    unfold put
    by_cases e : p.1 = k
    · rw [if_pos e] at h; cases h
    · rw [if_neg e] at h ⊢; rw [put_none h]; rfl
/-- Where a key stands, or that it does not. -/
theorem find_ent {R : Value → α → Prop} (k : Int) : ∀ (l : List MapEntry) (m : List (Int × α)) (i : Nat), All2 (Ent R) l m →
    (look m k = none ∧ Instr.findNow (.int .u64) (.int .u64 k) l i = some none ∧ ∀ x ∈ l, x.key ≠ .int .u64 k) ∨
    ∃ j e a, look m k = some a ∧ Instr.findNow (.int .u64) (.int .u64 k) l i = some (some (i + j, e.val)) ∧ l[j]? = some e ∧ e.key = .int .u64 k ∧ R e.val a ∧
      (∀ v b, R v b → All2 (Ent R) (l.set j { e with val := v }) (put m k b)) ∧ All2 (Ent R) (l.eraseIdx j) (del m k)
  | [], [], i, _ => .inl ⟨rfl, rfl, by simp⟩
  | e :: l, q :: m, i, h => by
    have hs : Instr.sameNow (.int .u64) (.int .u64 k) e.key = some (k == q.1) := by rw [h.1.1]; rfl
    by_cases hk : q.1 = k
    · right
      refine ⟨0, e, q.2, by simp [look, hk], ?_, rfl, by rw [h.1.1, hk], h.1.2, fun v b hb => ?_, ?_⟩
      · unfold Instr.findNow
        have hb : (k == q.1) = true := beq_iff_eq.2 hk.symm
        rw [hs, hb]
        simp
      · rw [show put (q :: m) k b = (k, b) :: m by simp [put, hk]]
        exact ⟨⟨by rw [← hk]; exact h.1.1, hb⟩, h.2⟩
      · rw [show del (q :: m) k = m by simp [del, hk]]
        exact h.2
    · have hne : (k == q.1) = false := by
        cases hb : (k == q.1) with
        | false => rfl
        | true => exact absurd (beq_iff_eq.1 hb).symm hk
      rcases find_ent k l m (i + 1) h.2 with ⟨h1, h2, h3⟩ | ⟨j, e', a, h1, h2, h3, h4, h5, h6, h7⟩
      · left
        refine ⟨by simp [look, hk, h1], ?_, ?_⟩
        · unfold Instr.findNow
          rw [hs, hne]
          exact h2
        · intro x hx
          rcases List.mem_cons.1 hx with rfl | hx
          · rw [h.1.1]; exact fun e => hk (by cases e; rfl)
          · exact h3 x hx
      · right
        refine ⟨j + 1, e', a, by simp [look, hk, h1], ?_, by simpa using h3, h4, h5, fun v b hb => ?_, ?_⟩
        · unfold Instr.findNow
          rw [hs, hne]
          rw [h2, Nat.add_assoc, Nat.add_comm 1 j]
        · rw [show put (q :: m) k b = q :: put m k b by simp [put, hk]]
          exact ⟨h.1, h6 v b hb⟩
        · rw [show del (q :: m) k = q :: del m k by simp [del, hk]]
          exact ⟨h.1, h7⟩
  | [], _ :: _, _, h => h.elim
  | _ :: _, [], _, h => h.elim
end lists

section map
variable {α : Type} {R : Value → α → Prop} {es : List (Int × α)} {mb : Nat} {w : World}
/-- Block mb is a map with these keys, in the order in which they came, and values that stand for these. -/
def MpAt (w : World) (mb : Nat) (R : Value → α → Prop) (es : List (Int × α)) : Prop := ∃ arr clock, w.heap[mb]? = some (.map arr clock) ∧ Stamped arr clock ∧ All2 (Ent R) arr.toList es
theorem MpAt.mono {R' : Value → α → Prop} {w' : World} (h : MpAt w mb R es) (hb : w'.heap[mb]? = w.heap[mb]?) (hR : ∀ v a, R v a → R' v a) : MpAt w' mb R' es := by
  obtain ⟨arr, clock, h1, h2, h3⟩ := h
  exact ⟨arr, clock, hb.trans h1, h2, h3.mono fun _ _ h => ⟨h.1, hR _ _ h.2⟩⟩
theorem MpAt.lt (h : MpAt w mb R es) : mb < w.heap.size := by
  obtain ⟨arr, clock, h1, _⟩ := h
  exact (Array.getElem?_eq_some_iff.1 h1).1
theorem MpAt.new (w : World) (R : Value → α → Prop) : MpAt (w.alloc (.map #[] 0)) w.heap.size R [] := ⟨#[], 0, (heap_alloc w _).1, stamped_empty 0, trivial⟩
theorem MpAt.drew (h : MpAt w mb R es) : MpAt w.drew mb R es := h
theorem MpAt.not_cells (h : MpAt w mb R es) (off : Nat) : w.cell? ⟨mb, off, none⟩ = none := by
  obtain ⟨arr, clock, h1, _⟩ := h
  simp [World.cell?, h1]
/-- What a look-up gives. -/
def Got (R : Value → α → Prop) (es : List (Int × α)) (k : Int) (z v : Value) (there : Bool) : Prop := (look es k = none ∧ v = z ∧ there = false) ∨ ∃ a, look es k = some a ∧ R v a ∧ there = true
variable {P : Program} {rd : Option Nat} {n : Nat} {ops : Array Oper} {Q : Post} {rest : List Oper} {F : Fr} {ds : List Deferred} {ty : TypeId} {pos : String} {after : Array Edge}
theorem run_look {t kt et : TypeId} {k : Int} {z : Value} (ok : Bool) (ht : P.underlying t = some (.map kt et)) (hk : P.underlying kt = some (.int .u64)) (hz : (zeroValue et).run P w = .ok z w) (h : MpAt w mb R es) :
    ∃ v there, Got R es k z v there ∧ (Instr.lookup t (.map (some mb)) (.int .u64 k) ok).run P w = .ok (if ok then .tuple #[v, .bool there] else v) w := by
  obtain ⟨arr, clock, hb, _, hA⟩ := h
  have hck : ∀ e, (Instr.checkKey e 10000 kt (.int .u64 k)).run P w = .ok () w := fun e => MapKept.run_checkKey hk (by exact rfl) e 9999
  rcases find_ent k arr.toList es 0 hA with ⟨h1, h2, _⟩ | ⟨j, e, a, h1, h2, _, _, h5, _, _⟩
  · refine ⟨z, false, .inl ⟨h1, rfl, rfl⟩, ?_⟩
    simp [Instr.lookup, run_underlying ht, MapKept.run_getObj_map hb, hck, MapKept.run_findKey hk h2, hz, Result.andThen]
  · refine ⟨e.val, true, .inr ⟨a, h1, h5, rfl⟩, ?_⟩
    simp [Instr.lookup, run_underlying ht, MapKept.run_getObj_map hb, hck, MapKept.run_findKey hk h2, Result.andThen]
theorem Lst_mapget {d : Nat} {m x : Operand} {t kt et : TypeId} {k : Int} {z : Value} (hm : ev F m = .map (some mb)) (hx : ev F x = .int .u64 k) (ht : P.underlying t = some (.map kt et)) (hk : P.underlying kt = some (.int .u64)) (hz : (zeroValue et).run P w = .ok z w) (hmp : MpAt w mb R es) (hd : Nat.blt d n = true)
    (h : ∀ v there, Got R es k z v there → Lst P rd n ops Q rest (upd F d v) ds w) : Lst P rd n ops Q (⟨some d, .lookup t m x false, ty, pos, after, none⟩ :: rest) F ds w := by
  obtain ⟨v, there, hg, hrun⟩ := run_look (P := P) (k := k) false ht hk hz hmp
  exact Lst_value rfl (by simp [execOp, hm, hx, hrun]) hd (h v there hg)
theorem Lst_mapok {d : Nat} {m x : Operand} {t kt et : TypeId} {k : Int} {z : Value} (hm : ev F m = .map (some mb)) (hx : ev F x = .int .u64 k) (ht : P.underlying t = some (.map kt et)) (hk : P.underlying kt = some (.int .u64)) (hz : (zeroValue et).run P w = .ok z w) (hmp : MpAt w mb R es) (hd : Nat.blt d n = true)
    (h : ∀ v there, Got R es k z v there → Lst P rd n ops Q rest (upd F d (.tuple #[v, .bool there])) ds w) : Lst P rd n ops Q (⟨some d, .lookup t m x true, ty, pos, after, none⟩ :: rest) F ds w := by
  obtain ⟨v, there, hg, hrun⟩ := run_look (P := P) (k := k) true ht hk hz hmp
  exact Lst_value rfl (by simp [execOp, hm, hx, hrun]) hd (h v there hg)
theorem run_mput {t kt et : TypeId} {k : Int} {v : Value} {a : α} (ht : P.underlying t = some (.map kt et)) (hk : P.underlying kt = some (.int .u64)) (h : MpAt w mb R es) (hR : R v a) :
    ∃ w', (Instr.mapUpdate t (.map (some mb)) (.int .u64 k) v).run P w = .ok () w' ∧ MpAt w' mb R (put es k a) ∧ Chg [mb] w w' ∧ w'.heap.size = w.heap.size := by
  obtain ⟨arr, clock, hb, hs, hA⟩ := h
  have hkey : IsKey (.int .u64) (.int .u64 k) := rfl
  have hck : ∀ e, (Instr.checkKey e 10000 kt (.int .u64 k)).run P w = .ok () w := fun e => MapKept.run_checkKey hk hkey e 9999
  rcases find_ent k arr.toList es 0 hA with ⟨h1, h2, h3⟩ | ⟨j, e, b, h1, h2, h3, h4, _, h6, _⟩
  · refine ⟨{ w with heap := w.heap.setIfInBounds mb (.map (arr.push { key := .int .u64 k, val := v, born := clock }) (clock + 1)) }, ?_, ⟨_, _, (heap_set hb).1, stamped_push hs h3, ?_⟩, set_chg w, by simp⟩
    · simp [Instr.mapUpdate, run_underlying ht, MapKept.run_getObj_map hb, hck, MapKept.run_findKey hk h2, MapKept.run_setObj_map _ hb, Result.andThen]
    · rw [Array.toList_push, put_none h1]
      exact hA.append ⟨⟨rfl, hR⟩, trivial⟩
  · have hj : arr[j]? = some e := by simpa using h3
    refine ⟨{ w with heap := w.heap.setIfInBounds mb (.map (arr.modify j fun e => { e with key := .int .u64 k, val := v }) clock) }, ?_, ⟨_, _, (heap_set hb).1, stamped_modify hs _ _ (fun _ _ => rfl) (fun e' _ he' => by rw [hj] at he'; cases he'; exact h4.symm), ?_⟩, set_chg w, by simp⟩
    · simp [Instr.mapUpdate, run_underlying ht, MapKept.run_getObj_map hb, hck, MapKept.run_findKey hk h2, hj, h4, MapKept.run_keyThatStays hkey, MapKept.run_setObj_map _ hb, Result.andThen]
    · have e1 : (arr.modify j fun e => { e with key := .int .u64 k, val := v }).toList = arr.toList.set j { e with val := v } := by
        rw [Array.toList_modify]
        apply List.ext_getElem?
        intro q
        rw [List.getElem?_modify, List.getElem?_set]
        have hlt : j < arr.toList.length := (List.getElem?_eq_some_iff.1 h3).1
        by_cases hq : j = q
        · subst hq
          simp only [if_true, hlt, h3, h4.symm]
          rfl
        · simp [hq]
      rw [e1]
      exact h6 v a hR
theorem Lst_mapput {m x y : Operand} {t kt et : TypeId} {k : Int} {v : Value} (a : α) (hm : ev F m = .map (some mb)) (hx : ev F x = .int .u64 k) (hy : ev F y = v) (ht : P.underlying t = some (.map kt et)) (hk : P.underlying kt = some (.int .u64)) (hmp : MpAt w mb R es) (hR : R v a)
    (h : ∀ w', MpAt w' mb R (put es k a) → Chg [mb] w w' → w'.heap.size = w.heap.size → Lst P rd n ops Q rest F ds w') : Lst P rd n ops Q (⟨none, .mapUpdate t m x y, ty, pos, after, none⟩ :: rest) F ds w := by
  obtain ⟨w', hrun, h1, h2, h3⟩ := run_mput (P := P) (k := k) ht hk hmp hR
  exact Lst_unit rfl (by simp [execOp, hm, hx, hy, hrun]) rfl (h w' h1 h2 h3)
theorem run_mdel {t kt et ty : TypeId} {k : Int} (ht : P.underlying t = some (.map kt et)) (hk : P.underlying kt = some (.int .u64)) (h : MpAt w mb R es) :
    ∃ w', (Builtin.delete_ #[t, kt] ty #[.map (some mb), .int .u64 k]).run P w = .ok (.tuple #[]) w' ∧ MpAt w' mb R (del es k) ∧ Chg [mb] w w' ∧ w'.heap.size = w.heap.size := by
  obtain ⟨arr, clock, hb, hs, hA⟩ := h
  have hkey : IsKey (.int .u64) (.int .u64 k) := rfl
  have hck : ∀ e, (Instr.checkKey e 10000 kt (.int .u64 k)).run P w = .ok () w := fun e => MapKept.run_checkKey hk hkey e 9999
  rcases find_ent k arr.toList es 0 hA with ⟨h1, h2, h3⟩ | ⟨j, e, b, h1, h2, h3, h4, _, _, h7⟩
  · refine ⟨{ w with heap := w.heap.setIfInBounds mb (.map arr clock) }, ?_, ⟨_, _, (heap_set hb).1, hs, ?_⟩, set_chg w, by simp⟩
    · simp [Builtin.delete_, run_underlying ht, MapKept.run_getObj_map hb, hck, MapKept.run_findKey hk h2, MapKept.run_setObj_map _ hb, Result.andThen]
    · have : ∀ {l : List (Int × α)}, look l k = none → del l k = l := by
        intro l
        induction l with
        | nil => intro _; rfl
        | cons p l ih =>
          intro h
          unfold look at h
          unfold del
          by_cases e : p.1 = k
          · rw [if_pos e] at h; cases h
          · rw [if_neg e] at h ⊢; rw [ih h]
      rw [this h1]
      exact hA
  · refine ⟨{ w with heap := w.heap.setIfInBounds mb (.map (arr.eraseIdxIfInBounds j) clock) }, ?_, ⟨_, _, (heap_set hb).1, stamped_erase hs j, ?_⟩, set_chg w, by simp⟩
    · simp [Builtin.delete_, run_underlying ht, MapKept.run_getObj_map hb, hck, MapKept.run_findKey hk h2, MapKept.run_setObj_map _ hb, Result.andThen]
    · have hlt : j < arr.size := by have := (List.getElem?_eq_some_iff.1 h3).1; simpa using this
      rw [show (arr.eraseIdxIfInBounds j).toList = arr.toList.eraseIdx j by simp [Array.eraseIdxIfInBounds, hlt]]
      exact h7
theorem Lst_mapdel {d : Option Nat} {m x : Operand} {t kt et : TypeId} {k : Int} (hm : ev F m = .map (some mb)) (hx : ev F x = .int .u64 k) (ht : P.underlying t = some (.map kt et)) (hk : P.underlying kt = some (.int .u64)) (hmp : MpAt w mb R es) (hd : okd n d = true)
    (h : ∀ w', MpAt w' mb R (del es k) → Chg [mb] w w' → w'.heap.size = w.heap.size → Lst P rd n ops Q rest (updO F d (.tuple #[])) ds w') : Lst P rd n ops Q (⟨d, .call { callee := .builtin .delete, args := #[m, x], argTypes := #[t, kt] }, ty, pos, after, none⟩ :: rest) F ds w := by
  obtain ⟨w', hrun, h1, h2, h3⟩ := run_mdel (P := P) (k := k) (ty := ty) ht hk hmp
  exact Lst_value rfl (by simp [execOp, resolve, invoke, builtin, hm, hx, hrun]) hd (h w' h1 h2 h3)
/-! ### A range over a map -/
/-- Block ib goes over the map at mb; these are left. -/
def ItAt (w : World) (ib mb : Nat) (R : Value → α → Prop) (es left : List (Int × α)) : Prop :=
  ∃ arr clock seen, w.heap[mb]? = some (.map arr clock) ∧ Stamped arr clock ∧ All2 (Ent R) arr.toList es ∧ w.heap[ib]? = some (.mapIter (some mb) clock seen clock) ∧ All2 (Ent R) (leftOf arr seen).toList left
theorem ItAt.map {ib : Nat} {left : List (Int × α)} (h : ItAt w ib mb R es left) : MpAt w mb R es := by
  obtain ⟨arr, clock, seen, h1, h2, h3, _⟩ := h
  exact ⟨arr, clock, h1, h2, h3⟩
theorem ItAt.lt {ib : Nat} {left : List (Int × α)} (h : ItAt w ib mb R es left) : ib < w.heap.size := by
  obtain ⟨arr, clock, seen, _, _, _, h4, _⟩ := h
  exact (Array.getElem?_eq_some_iff.1 h4).1
theorem ItAt.mono {R' : Value → α → Prop} {ib : Nat} {left : List (Int × α)} {w' : World} (h : ItAt w ib mb R es left) (h1 : w'.heap[mb]? = w.heap[mb]?) (h2 : w'.heap[ib]? = w.heap[ib]?) (hR : ∀ v a, R v a → R' v a) : ItAt w' ib mb R' es left := by
  obtain ⟨arr, clock, seen, a1, a2, a3, a4, a5⟩ := h
  exact ⟨arr, clock, seen, h1.trans a1, a2, a3.mono (fun _ _ h => ⟨h.1, hR _ _ h.2⟩), h2.trans a4, a5.mono fun _ _ h => ⟨h.1, hR _ _ h.2⟩⟩
/-- What was handed out last. -/
def ItCur (w : World) (ib mb : Nat) (R : Value → α → Prop) (q : Int × α) : Prop :=
  ∃ arr clock seen e, w.heap[mb]? = some (.map arr clock) ∧ Stamped arr clock ∧ w.heap[ib]? = some (.mapIter (some mb) clock seen clock) ∧ seen.back? = some e.born ∧ e ∈ arr.toList ∧ Ent R e q
theorem Lst_mapentry {d ib : Nat} {x : Operand} {q : Int × α} (hx : ev F x = .pointer (some ⟨ib, 0, none⟩)) (hit : ItCur w ib mb R q) (hd : Nat.blt d n = true)
    (h : ∀ v, R v q.2 → Lst P rd n ops Q rest (upd F d (.tuple #[.int .u64 q.1, v])) ds w) : Lst P rd n ops Q (⟨some d, .entry x, ty, pos, after, none⟩ :: rest) F ds w := by
  obtain ⟨arr, clock, seen, e, hb, hs, hi, hl, he, hk, hR⟩ := hit
  have hf : arr.find? (fun x => x.born == e.born) = some e := by
    rw [← Array.find?_toList]
    exact find_born e arr.toList hs.2.1 he
  refine Lst_value rfl ?_ hd (h e.val hR)
  simp [execOp, hx, Instr.entry, getObj, Sem.run, hi, hb, hl, hf, hk, Result.andThen]
theorem Lst_maprange {d : Nat} {x : Operand} {t kt et : TypeId} (hx : ev F x = .map (some mb)) (ht : P.underlying t = some (.map kt et)) (hmp : MpAt w mb R es) (hd : Nat.blt d n = true)
    (h : ∀ w', ItAt w' w.heap.size mb R es es → Below w.heap.size w w' → w'.heap.size = w.heap.size + 1 → Lst P rd n ops Q rest (upd F d (.pointer (some ⟨w.heap.size, 0, none⟩))) ds w') : Lst P rd n ops Q (⟨some d, .range t x, ty, pos, after, none⟩ :: rest) F ds w := by
  obtain ⟨arr, clock, hb, hs, hA⟩ := hmp
  have hlt : mb < w.heap.size := (Array.getElem?_eq_some_iff.1 hb).1
  refine Lst_value rfl (by simp [execOp, hx, run_range_map w t kt et mb arr clock ht hb]) hd (h _ ⟨arr, clock, #[], ?_, hs, hA, (heap_alloc w _).1, ?_⟩ ((Below.refl _ _).alloc (Nat.le_refl _) _) (World.size_alloc ..))
  · exact ((heap_alloc w _).2 _ hlt).trans hb
  · have : leftOf arr #[] = arr := by unfold leftOf; simp
    rw [this]
    exact hA
theorem run_mnext {ib : Nat} {left : List (Int × α)} (ty : TypeId) (h : ItAt w ib mb R es left) :
    (left = [] ∧ (Instr.next (.pointer (some ⟨ib, 0, none⟩)) false ty).run P w = .ok (.tuple #[.bool false]) w) ∨
    ∃ j q v w', left[j]? = some q ∧ R v q.2 ∧ (Instr.next (.pointer (some ⟨ib, 0, none⟩)) false ty).run P w = .ok (.tuple #[.bool true, .int .u64 q.1, v]) w' ∧ ItAt w' ib mb R es (left.eraseIdx j) ∧ ItCur w' ib mb R q ∧ Chg [ib] w w' ∧ w'.heap.size = w.heap.size := by
  obtain ⟨arr, clock, seen, hb, hs, hA, hi, hL⟩ := h
  have hne : mb ≠ ib := by rintro rfl; rw [hb] at hi; cases hi
  have hil : ib < w.heap.size := (Array.getElem?_eq_some_iff.1 hi).1
  have hold : ∀ x ∈ arr.toList, x.born < clock := hs.1
  simp only [Instr.next, getObj, Sem.run_bind, Sem.run, hi, hb, Result.andThen, next_test_false seen arr clock clock hold (Nat.le_refl _), Bool.false_eq_true, if_false]
  have hseen : ∀ (e : MapEntry) (j : Nat), (leftOf arr seen).toList[j]? = some e → (leftOf arr (seen.push e.born)).toList = (leftOf arr seen).toList.eraseIdx j := by
    intro e j hj
    rw [← filter_erase _ j e ?_ hj]
    · unfold leftOf
      simp only [Array.toList_filter, List.filter_filter, Array.contains_push]
      congr 1
      funext x
      cases h1 : seen.contains x.born <;> cases h2 : (x.born == e.born) <;> simp_all
    · exact ((Array.toList_filter ▸ List.filter_sublist : (leftOf arr seen).toList.Sublist arr.toList).map _).nodup hs.2.1
  have hmem : ∀ x ∈ (leftOf arr seen).toList, x.born < clock := fun x hx => hold x (by unfold leftOf at hx; simp at hx ⊢; exact hx.1)
  have hmemA : ∀ x ∈ (leftOf arr seen).toList, x ∈ arr.toList := fun x hx => by unfold leftOf at hx; simp at hx ⊢; exact hx.1
  have eL : Array.filter (fun e => !seen.contains e.born) arr = leftOf arr seen := rfl
  simp only [eL]
  clear eL
  generalize leftOf arr seen = L at hmem hmemA hL hseen ⊢
  have e1 : L.filter (fun x => decide (x.born < clock)) = L := Array.filter_eq_self.2 (fun x hx => by simpa using hmem x (by simpa using hx))
  have e2 : L.filter (fun x => decide (x.born ≥ clock)) = #[] := by
    rw [Array.filter_eq_empty_iff]
    intro x hx
    have := hmem x (by simpa using hx)
    simp
    omega
  simp only [e1, e2, Array.append_empty]
  by_cases h0 : L.size = 0
  · left
    have : L = #[] := Array.eq_empty_of_size_eq_zero h0
    subst this
    have hl : left = [] := List.eq_nil_of_length_eq_zero (hL.len ▸ rfl)
    exact ⟨hl, by simp [choose, Sem.run, Question.forced]⟩
  · right
    have hne2 : L.isEmpty = false := by simp [Array.isEmpty, h0]
    simp only [hne2, Bool.false_eq_true, if_false, Array.empty_append, Array.size_map]
    have hch : ∃ (j : Nat) (w1 : World), j < L.size ∧ (w1 = w ∨ w1 = w.drew) ∧ (choose (Question.mapNext L.size)).run P w = .ok j w1 := by
      by_cases hf : L.size ≤ 1
      · exact ⟨0, w, by omega, .inl rfl, by simp [choose, Sem.run, Question.forced, hf]⟩
      · exact ⟨_, w.drew, Nat.mod_lt _ (by omega), .inr rfl, by
          simp only [choose, Sem.run, Question.forced, decide_eq_true_eq, hf, if_false, Question.cut]
          rfl⟩
    obtain ⟨j, w1, hj, hw1, hrun⟩ := hch
    have hLj : L.toList[j]? = some L[j] := by simp [hj]
    obtain ⟨q, hq, hk, hR⟩ := hL.get hLj
    have hheap : w1.heap = w.heap := by rcases hw1 with rfl | rfl <;> rfl
    have hi1 : w1.heap[ib]? = some (.mapIter (some mb) clock seen clock) := by rw [hheap]; exact hi
    refine ⟨j, q, L[j].val, { w1 with heap := w1.heap.setIfInBounds ib (.mapIter (some mb) clock (seen.push L[j].born) clock) }, hq, hR, ?_, ⟨arr, clock, seen.push L[j].born, ?_, hs, hA, ?_, ?_⟩, ⟨arr, clock, seen.push L[j].born, L[j], ?_, hs, ?_, by simp, hmemA _ (List.mem_of_getElem? hLj), hk, hR⟩, ?_, by simp [hheap]⟩
    · rw [hrun]
      simp [hj, setObj, Sem.run, hi1, hk]
    · show (w1.heap.setIfInBounds ib _)[mb]? = _
      rw [hheap]
      simp [Ne.symm hne, hb]
    · show (w1.heap.setIfInBounds ib _)[ib]? = _
      rw [hheap]
      simp [hil]
    · rw [hseen L[j] j hLj]
      exact hL.erase j
    · show (w1.heap.setIfInBounds ib _)[mb]? = _
      rw [hheap]
      simp [Ne.symm hne, hb]
    · show (w1.heap.setIfInBounds ib _)[ib]? = _
      rw [hheap]
      simp [hil]
    · have : Chg [ib] w w1 := by 
        rcases hw1 with rfl | rfl
        · exact .refl _ _
        · exact (Chg.refl _ _).drew
      exact this.trans (set_chg w1)
theorem Lst_mapnext {d ib : Nat} {x : Operand} {left : List (Int × α)} (hx : ev F x = .pointer (some ⟨ib, 0, none⟩)) (hit : ItAt w ib mb R es left) (hd : Nat.blt d n = true)
    (h0 : left = [] → Lst P rd n ops Q rest (upd F d (.tuple #[.bool false])) ds w)
    (h1 : ∀ j q v w', left[j]? = some q → R v q.2 → ItAt w' ib mb R es (left.eraseIdx j) → ItCur w' ib mb R q → Chg [ib] w w' → w'.heap.size = w.heap.size → Lst P rd n ops Q rest (upd F d (.tuple #[.bool true, .int .u64 q.1, v])) ds w') :
    Lst P rd n ops Q (⟨some d, .next x false, ty, pos, after, none⟩ :: rest) F ds w := by
  rcases run_mnext (P := P) ty hit with ⟨hl, hrun⟩ | ⟨j, q, v, w', hq, hR, hrun, hit', hcur, hc, hz⟩
  · exact Lst_value rfl (by simp [execOp, hx, hrun]) hd (h0 hl)
  · exact Lst_value rfl (by simp [execOp, hx, hrun]) hd (h1 j q v w' hq hR hit' hcur hc hz)
end map
end SxU
end Go.Proofs.Ytmammcgdjjldbaa
