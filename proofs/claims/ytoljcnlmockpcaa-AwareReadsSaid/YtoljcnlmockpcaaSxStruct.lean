/- Rules of our calculus for structs: loads and stores of whole structs, fields, addresses of fields, literals, comparisons of flat structs. Over any program. -/
import Derived.Test.YtoljcnlmockpcaaSxMem
import Derived.Deep.MidRow
import Derived.Laws.StructEq
import Derived.Laws.Tables
namespace Go.Proofs.Ytoljcnlmockpcaa
namespace Sx
open Go Go.RowKit

/-- n of a list's values from a place on. -/
inductive TakeR : List Value → Nat → Nat → List Value → Prop
  | nil (l : List Value) : TakeR l 0 0 []
  | here (x : Value) (l cs : List Value) (n : Nat) (h : TakeR l 0 n cs) : TakeR (x :: l) 0 (n + 1) (x :: cs)
  | skip (x : Value) (l cs : List Value) (o n : Nat) (h : TakeR l o n cs) : TakeR (x :: l) (o + 1) n cs
theorem TakeR.get {l cs : List Value} {o n : Nat} (h : TakeR l o n cs) : cs.length = n ∧ ∀ j v, cs[j]? = some v → l[o + j]? = some v := by
  induction h with
  | nil l => exact ⟨rfl, fun j v h => by simp at h⟩
  | here x l cs n h ih =>
    refine ⟨by simp [ih.1], fun j v hv => ?_⟩
    cases j with
    | zero => simpa using hv
    | succ j =>
      have := ih.2 j v (by simpa using hv)
      simpa using this
  | skip x l cs o n h ih =>
    refine ⟨ih.1, fun j v hv => ?_⟩
    have := ih.2 j v hv
    rw [show o + 1 + j = (o + j) + 1 by omega, List.getElem?_cons_succ]
    exact this
theorem TakeR.eq {l cs : List Value} {o n : Nat} (h : TakeR l o n cs) : (l.drop o).take n = cs := by
  induction h with
  | nil l => simp
  | here x l cs n h ih => simp at ih ⊢; exact ih
  | skip x l cs o n h ih => simpa using ih
/-- A list with some of its values, from a place on, written over. -/
inductive SetRs : List Value → Nat → List Value → List Value → Prop
  | nil (l : List Value) : SetRs l 0 [] l
  | here (x v : Value) (l vs k : List Value) (h : SetRs l 0 vs k) : SetRs (x :: l) 0 (v :: vs) (v :: k)
  | skip (x : Value) (l vs k : List Value) (o : Nat) (h : SetRs l o vs k) : SetRs (x :: l) (o + 1) vs (x :: k)
theorem SetRs.eq {l vs k : List Value} {o : Nat} (h : SetRs l o vs k) : o + vs.length ≤ l.length ∧ l.take o ++ vs ++ l.drop (o + vs.length) = k := by
  induction h with
  | nil l => simp
  | here x v l vs k h ih =>
    refine ⟨by simp at ih ⊢; omega, ?_⟩
    have := ih.2
    simp at this ⊢
    exact this
  | skip x l vs k o h ih =>
    refine ⟨by simp at ih ⊢; omega, ?_⟩
    have := ih.2
    rw [show o + 1 + vs.length = (o + vs.length) + 1 by omega]
    simpa using this
/-- A literal's cells, part by part. -/
inductive FillR (pl : Nat → Option (Nat × Nat)) : List Value → List (Nat × Value) → List Value → Prop
  | nil (z : List Value) : FillR pl z [] z
  | cons (i : Nat) (v : Value) (z z1 z2 cs : List Value) (ps : List (Nat × Value)) (off : Nat) (hc : v.cells = cs.toArray) (hp : pl i = some (off, cs.length)) (hs : SetRs z off cs z1) (h : FillR pl z1 ps z2) : FillR pl z ((i, v) :: ps) z2
theorem fill_cells : ∀ (l : List Value) (k off : Nat) (acc : Array Value), off + k + l.length ≤ acc.size →
    ((l.zipIdx k).foldl (fun cs (x : Value × Nat) => cs.setIfInBounds (off + x.2) x.1) acc).toList = acc.toList.take (off + k) ++ l ++ acc.toList.drop (off + k + l.length) := by
  intro l
  induction l with
  | nil => intro k off acc _; simp
  | cons y l ih =>
    intro k off acc hk
    simp only [List.length_cons] at hk
    rw [List.zipIdx_cons, List.foldl_cons, ih (k + 1) off _ (by simp; omega)]
    have hkl : off + k < acc.toList.length := by simp; omega
    simp only [Array.toList_setIfInBounds]
    rw [show off + (k + 1) = (off + k) + 1 by omega, List.take_succ_eq_append_getElem (by simp; omega), List.take_set_of_le (Nat.le_refl _), List.getElem_set_self, List.drop_set_of_lt (by omega)]
    simp only [List.append_assoc, List.singleton_append, List.length_cons]
    congr 3
    omega
theorem FillR.eq {pl : Nat → Option (Nat × Nat)} {z k : List Value} {ps : List (Nat × Value)} (h : FillR pl z ps k) : Instr.fill pl z.toArray ps = some k.toArray := by
  induction h with
  | nil z => rfl
  | cons i v z z1 z2 cs ps off hc hp hs h ih =>
    have he := hs.eq
    simp only [Instr.fill, hp]
    rw [if_neg (by rw [hc]; simp; exact he.1)]
    have e : (v.cells.zipIdx.foldl (fun cs (x : Value × Nat) => cs.setIfInBounds (off + x.2) x.1) z.toArray) = z1.toArray := by
      apply Array.ext'
      rw [hc]
      have := fill_cells cs 0 off z.toArray (by simpa using he.1)
      rw [← Array.foldl_toList, Array.toList_zipIdx]
      rw [this]
      simpa using he.2
    rw [← ih, ← e]

/-- A literal's cells, its parts read off a frame. -/
inductive FillO (F : Fr) (pl : Nat → Option (Nat × Nat)) : List Value → List (Nat × Operand) → List Value → Prop
  | nil (z : List Value) : FillO F pl z [] z
  | cons (i : Nat) (x : Operand) (v : Value) (z z1 z2 cs : List Value) (ps : List (Nat × Operand)) (off : Nat) (hx : Fc (ev F x) v) (hc : v.cells = cs.toArray) (hp : pl i = some (off, cs.length)) (hs : SetRs z off cs z1) (h : FillO F pl z1 ps z2) : FillO F pl z ((i, x) :: ps) z2
theorem FillO.fillR {F : Fr} {pl : Nat → Option (Nat × Nat)} {z k : List Value} {ps : List (Nat × Operand)} (h : FillO F pl z ps k) : FillR pl z (ps.map fun p => (p.1, ev F p.2)) k := by
  induction h with
  | nil z => exact .nil z
  | cons i x v z z1 z2 cs ps off hx hc hp hs h ih =>
    rw [List.map_cons, hx.eq]
    exact .cons i v z z1 z2 cs _ off hc hp hs ih

section structs
variable {P : Program} {rd : Option Nat} {n : Nat} {ops : Array Oper} {Q : Post} {rest : List Oper} {F : Fr} {ds : List Deferred} {w : World} {ty : TypeId} {pos : String} {after : Array Edge}

/-- x.f of an address: the field's. -/
theorem P_faddr {t : TypeId} {x : Operand} {j b off o' sz : Nat} {fs : Array Field} {f : Field} {i : TypeInfo} (hx : ev F x = .pointer (some ⟨b, off, none⟩)) (ht : P.underlying t = some (.struct fs)) (hf : fs[j]? = some f) (hi : P.info? f.type = some i) (hs : i.size = sz) (h1 : Nat.ble 1 sz = true) (ho : off + f.offset = o') :
    Pu P F (.fieldAddr t x j) ty (.pointer (some ⟨b, o', none⟩)) := fun dst pos after w => by
  have hsz : (sizeOf f.type).run P w = .ok sz w := by simp [sizeOf, typeInfo, hi, hs]
  have hn : sz ≠ 0 := by
    have : 1 ≤ sz := by simpa using h1
    omega
  subst ho
  simp [execOp, hx, Instr.fieldAt, Instr.sureAddr, run_underlying ht, hf, fieldPlace, hsz, hn, add_none]
/-- x.f of a struct at hand, one cell. -/
theorem P_field {t : TypeId} {x : Operand} {j : Nat} {fs : Array Field} {f : Field} {u : TypeDesc} {cs : Array Value} {v : Value} (hx : ev F x = .agg cs) (ht : P.underlying t = some (.struct fs)) (hf : fs[j]? = some f) (hu : P.underlying f.type = some u) (ha : aggT u = false) (hv : cs[f.offset]? = some v) :
    Pu P F (.field t x j) ty v := fun dst pos after w => by
  simp [execOp, hx, Instr.field, run_underlying ht, hf, part, run_isAgg hu, ha, asAgg, hv]
/-- x.f of a struct at hand, a struct itself. -/
theorem P_fieldA {t : TypeId} {x : Operand} {j o sz : Nat} {fs : Array Field} {f : Field} {u : TypeDesc} {i : TypeInfo} {l cs : List Value} (hx : ev F x = .agg l.toArray) (ht : P.underlying t = some (.struct fs)) (hf : fs[j]? = some f) (hu : P.underlying f.type = some u) (ha : aggT u = true) (hi : P.info? f.type = some i) (hs : i.size = sz) (ho : f.offset = o) (hv : TakeR l o sz cs) :
    Pu P F (.field t x j) ty (.agg cs.toArray) := fun dst pos after w => by
  have hsz : (sizeOf f.type).run P w = .ok sz w := by simp [sizeOf, typeInfo, hi, hs]
  subst ho
  have e : l.toArray.extract f.offset (f.offset + sz) = cs.toArray := by
    apply Array.ext'
    rw [Array.toList_extract]
    show (l.drop f.offset).take (f.offset + sz - f.offset) = cs
    rw [show f.offset + sz - f.offset = sz by omega]
    exact hv.eq
  simp only [execOp, hx, Instr.field, Sem.run_bind, run_underlying ht, Result.andThen_ok, hf, part, run_isAgg hu, ha, asAgg, Sem.run_pure, hsz, e, if_true]
/-- A struct that lies in a block, read whole. -/
theorem Lst_loadA {d b off sz : Nat} {x : Operand} {t e : TypeId} {u : TypeDesc} {i : TypeInfo} {l cs : List Value} (hx : ev F x = .pointer (some ⟨b, off, none⟩)) (ht : P.underlying t = some u) (hu : u.isRow = true) (hi : P.info? t = some i) (hs : i.size = sz) (hb : Blk w b l e) (hv : TakeR l off sz cs) (hd : Nat.blt d n = true)
    (h : Lst P rd n ops Q rest (upd F d (.agg cs.toArray)) ds w) : Lst P rd n ops Q (⟨some d, .load t x, ty, pos, after, none⟩ :: rest) F ds w :=
  Lst_value rfl (by
    have hg := hv.get
    have := run_loadAt_mid (P := P) w b off t cs u (fun j v hj => (hb.cell (off + j)).trans (hg.2 j v hj)) ht hu (by rw [hi]; simp [hs, hg.1])
    simp [execOp, hx, this]) hd h
theorem Blk.setRow {b : Nat} {l : List Value} {e : TypeId} (h : Blk w b l e) (cs : Array Value) : w.setRow b cs = w.putObj b (.cells cs e) := by
  unfold World.setRow World.putObj
  unfold Blk at h
  congr 1
  obtain ⟨hl, hv⟩ := Array.getElem?_eq_some_iff.1 h
  apply Array.ext
  · simp
  · intro i h1 h2
    by_cases e' : i = b
    · subst e'
      simp [Array.getElem_modify, hv]
    · simp only [Array.getElem_modify, Ne.symm e', if_false]
      exact (Array.getElem_setIfInBounds_ne _ (Ne.symm e')).symm
/-- A struct written whole into a block. -/
theorem Lst_storeA {x y : Operand} {t e : TypeId} {i : TypeInfo} {b off : Nat} {l l' vs : List Value} (hx : ev F x = .pointer (some ⟨b, off, none⟩)) (hy : ev F y = .agg vs.toArray) (hi : P.info? t = some i) (hs : i.size = vs.length) (h1 : ∀ v ∈ vs, v.oneCell' = true) (hb : Blk w b l e) (hl : SetRs l off vs l')
    (h : Lst P rd n ops Q rest F ds (w.putObj b (.cells l'.toArray e))) : Lst P rd n ops Q (⟨none, .store t x y, ty, pos, after, none⟩ :: rest) F ds w :=
  Lst_unit rfl (by
    have he := hl.eq
    have := run_storeCells_at (P := P) b off e vs 0 l.toArray w hb (by simpa using he.1) h1
    have hsz : (sizeOf t).run P w = .ok vs.length w := by simp [sizeOf, typeInfo, hi, hs]
    simp only [Nat.add_zero] at this
    rw [show (l.toArray.toList.take off ++ vs ++ l.toArray.toList.drop (off + vs.length)) = l' from he.2] at this
    rw [hb.setRow] at this
    have hcs : (Value.agg vs.toArray).cells.size = vs.length := by simp [Value.cells]
    have hcl : (Value.agg vs.toArray).cells.toList = vs := by simp [Value.cells]
    simp [execOp, hx, hy, Instr.storeAt, Instr.sureAddr, storeVar, hsz, hcs, hcl, this]) rfl h
/-- T{..}: a struct's literal. -/
theorem P_build {t : TypeId} {ps : List (Nat × Operand)} {fs : Array Field} {it : TypeInfo} {z : Value} {zl cs : List Value} {pl : List (Nat × Nat)} (ht : P.underlying t = some (.struct fs)) (hi : P.info? t = some it) (hz : it.zero = some z) (hzc : z.cells = zl.toArray)
    (hpl : fs.toList.mapM (fun f => (P.info? f.type).map fun i => (f.offset, i.size)) = some pl) (hf : FillO F (pl.toArray[·]?) zl ps cs) : Pu P F (.build t ps.toArray) ty (.agg cs.toArray) := fun dst pos after w => by
  have hb : P.built t ((ps.toArray.map fun p => (p.1, ev F p.2))).toList = some cs.toArray := by
    unfold Program.built
    simp only [hi, ht, hz, hpl, hzc]
    have := hf.fillR.eq
    simpa using this
  have := run_build (P := P) w t (ps.toArray.map fun p => (p.1, ev F p.2)) cs.toArray hb
  simp only [execOp, Sem.run_bind]
  rw [show (ps.toArray.map fun (x : Nat × Operand) => match x with | (i, x) => (i, ev F x)) = ps.toArray.map fun p => (p.1, ev F p.2) from rfl, this]
  rfl

/-- A row of nothings. -/
def zrow (len : Nat) (zc : List Value) : List Value := (List.replicate len zc).flatten
theorem zrow_get (zc : List Value) : ∀ (len j : Nat), j < len * zc.length → (zrow len zc)[j]? = zc[j % zc.length]? := by
  intro len
  induction len with
  | zero => intro j hj; simp at hj
  | succ len ih =>
    intro j hj
    unfold zrow at ih ⊢
    rw [List.replicate_succ, List.flatten_cons]
    by_cases h : j < zc.length
    · rw [List.getElem?_append_left h, Nat.mod_eq_of_lt h]
    · rw [List.getElem?_append_right (by omega), ih (j - zc.length) (by rw [Nat.succ_mul] at hj; omega), Nat.mod_eq_sub_mod (by omega : zc.length ≤ j)]
theorem zrow_eq (zc : List Value) (h1 : 1 ≤ zc.length) (len : Nat) : (Array.range (len * zc.length)).map (zc.toArray[· % zc.toArray.size]!) = (zrow len zc).toArray := by
  have hlen : (zrow len zc).length = len * zc.length := by unfold zrow; simp
  apply Array.ext
  · simp [hlen]
  · intro j h2 h3
    have hj : j < len * zc.length := by simpa using h2
    have hm : j % zc.length < zc.length := Nat.mod_lt _ (by omega)
    have := zrow_get zc len j hj
    rw [List.getElem?_eq_getElem (by omega), List.getElem?_eq_getElem hm] at this
    simp [hm, Option.some.inj this]
/-- []T{..}: a literal of some elements. -/
theorem Lst_slit {d t e B len sz : Nat} {ps : List (Nat × Operand)} {i : TypeInfo} {z : Value} {zc cs : List Value} (ht : P.underlying t = some (.slice e)) (hi : P.info? e = some i) (hz : i.zero = some z) (hzc : z.cells = zc.toArray) (hs : i.size = sz) (hzl : zc.length = sz) (h1 : Nat.ble 1 sz = true) (h24 : Nat.ble (len * sz) 16777216 = true) (h0 : Nat.ble 1 len = true)
    (hf : FillO F (fun j => some (j * sz, sz)) (zrow len zc) ps cs) (hB : w.heap.size = B) (hd : Nat.blt d n = true)
    (h : Lst P rd n ops Q rest (upd F d (.slice (some ⟨B, 0, none⟩) len len)) ds (w.alloc (.cells cs.toArray e))) : Lst P rd n ops Q (⟨some d, .buildSlice t len ps.toArray, ty, pos, after, none⟩ :: rest) F ds w :=
  Lst_value rfl (by
    subst hB
    have h1' : 1 ≤ sz := by simpa using h1
    have h24' : len * sz ≤ 16777216 := by simpa using h24
    have h0' : 1 ≤ len := by simpa using h0
    have hne : len * sz ≠ 0 := by have := Nat.mul_le_mul h0' h1'; omega
    have hsz : (sizeOf e).run P w = .ok sz w := by simp [sizeOf, typeInfo, hi, hs]
    have hzv : (zeroValue e).run P w = .ok z w := by simp [zeroValue, typeInfo, hi, hz]
    have hfill := hf.fillR.eq
    have hrow := zrow_eq zc (by omega) len
    rw [hzl] at hrow
    have e1 : (ps.toArray.map fun (x : Nat × Operand) => (x.1, ev F x.2)).toList = ps.map fun p => (p.1, ev F p.2) := by simp
    simp only [execOp, Sem.run_bind, Instr.buildSlice, run_underlying ht, Result.andThen_ok, hsz]
    rw [if_neg (by omega)]
    simp only [Sem.run_bind, Result.andThen_ok, Sem.run_pure, if_neg hne, hzv, hzc]
    rw [e1, show (Array.map (fun x => zc.toArray[x % zc.toArray.size]!) (Array.range (len * sz))) = (zrow len zc).toArray by rw [← hzl]; rw [hzl]; exact hrow, hfill]
    simp [newRow]) hd h
/-! ### Results that are structs in a box -/
theorem ret_cellA {F : Fr} {t : TypeId} {u : TypeDesc} {i : TypeInfo} {a b sz : Nat} {l cs : List Value} {e : TypeId} (hx : F a = .pointer (some ⟨b, 0, none⟩)) (ht : P.underlying t = some u) (hu : u.isRow = true) (hi : P.info? t = some i) (hs : i.size = sz) (hb : Blk w b l e) (hv : TakeR l 0 sz cs) : ∃ p, F a = .pointer (some p) ∧ (loadVar t p).run P w = .ok (.agg cs.toArray) w := by
  have hg := hv.get
  exact ⟨_, hx, run_loadVar_mid (P := P) w b 0 t cs u (fun j v hj => (hb.cell (0 + j)).trans (hg.2 j v hj)) ht hu (by rw [hi]; simp [hs, hg.1])⟩
theorem retQ1A {R : Value → World → Prop} {t : TypeId} {u : TypeDesc} {i : TypeInfo} {a b sz : Nat} {l cs : List Value} {e : TypeId} (hx : F a = .pointer (some ⟨b, 0, none⟩)) (ht : P.underlying t = some u) (hu : u.isRow = true) (hi : P.info? t = some i) (hs : i.size = sz) (hb : Blk w b l e) (hv : TakeR l 0 sz cs) (h : R (.agg cs.toArray) w) : retQ P [.cell a t] R .ret F [] w :=
  ⟨rfl, [.agg cs.toArray], ⟨ret_cellA hx ht hu hi hs hb hv, trivial⟩, h⟩
theorem retQ2A {R : Value → World → Prop} {t : TypeId} {u : TypeDesc} {i : TypeInfo} {a b c sz : Nat} {l cs : List Value} {e : TypeId} {v : Value} (hx : F a = .pointer (some ⟨b, 0, none⟩)) (ht : P.underlying t = some u) (hu : u.isRow = true) (hi : P.info? t = some i) (hs : i.size = sz) (hb : Blk w b l e) (hv : TakeR l 0 sz cs) (hc : F c = v) (h : R (.tuple #[.agg cs.toArray, v]) w) : retQ P [.cell a t, .tmp c] R .ret F [] w :=
  ⟨rfl, [.agg cs.toArray, v], ⟨ret_cellA hx ht hu hi hs hb hv, hc, trivial⟩, h⟩
/-! ### Comparisons of structs -/
/-- What two values of a type are told to be: alike (true) or not. -/
def Eqv (P : Program) (m : Nat) (t : TypeId) (x y : Value) (r : Bool) : Prop := ∀ d w, m ≤ d → (Op.equalIn d t x y).run P w = .ok r w
def EqvF (P : Program) (m : Nat) (xs ys : Array Value) (l : List Field) (r : Bool) : Prop := ∀ d w, m ≤ d → (Op.eqFields d xs ys l).run P w = .ok r w
def PartR (P : Program) (t : TypeId) (cs : Array Value) (off : Nat) (v : Value) : Prop := ∀ w, (part t cs off).run P w = .ok v w
theorem PartR_1 {t : TypeId} {u : TypeDesc} {cs : Array Value} {off : Nat} {v : Value} (hu : P.underlying t = some u) (ha : aggT u = false) (hv : cs[off]? = some v) : PartR P t cs off v := fun w => by
  simp [part, run_isAgg hu, ha, hv]
theorem PartR_A {t : TypeId} {u : TypeDesc} {i : TypeInfo} {l cs : List Value} {off sz : Nat} (hu : P.underlying t = some u) (ha : aggT u = true) (hi : P.info? t = some i) (hs : i.size = sz) (hv : TakeR l off sz cs) : PartR P t l.toArray off (.agg cs.toArray) := fun w => by
  have hsz : (sizeOf t).run P w = .ok sz w := by simp [sizeOf, typeInfo, hi, hs]
  have e : l.toArray.extract off (off + sz) = cs.toArray := by
    apply Array.ext'
    rw [Array.toList_extract]
    show (l.drop off).take (off + sz - off) = cs
    rw [show off + sz - off = sz by omega]
    exact hv.eq
  simp only [Sem.run_bind, part, run_isAgg hu, ha, Result.andThen_ok, Sem.run_pure, hsz, e, if_true]
theorem Eqv_int_t {t : TypeId} {k k' : IntKind} {a b : Int} (h : P.underlying t = some (.int k')) (he : a = b) : Eqv P 1 t (.int k a) (.int k b) true := fun d w hd => by
  obtain ⟨d, rfl⟩ : ∃ c, d = c + 1 := ⟨d - 1, by omega⟩
  rw [run_equalIn_int (P := P) w d t k k' a b h, he]
  simp
theorem Eqv_int_f {t : TypeId} {k k' : IntKind} {a b : Int} (h : P.underlying t = some (.int k')) (he : a ≠ b) : Eqv P 1 t (.int k a) (.int k b) false := fun d w hd => by
  obtain ⟨d, rfl⟩ : ∃ c, d = c + 1 := ⟨d - 1, by omega⟩
  rw [run_equalIn_int (P := P) w d t k k' a b h, beq_eq_false_iff_ne.2 he]
theorem Eqv_str_t {t : TypeId} {a b : ByteArray} (h : P.underlying t = some .string) (he : a = b) : Eqv P 1 t (.string a) (.string b) true := fun d w hd => by
  obtain ⟨d, rfl⟩ : ∃ c, d = c + 1 := ⟨d - 1, by omega⟩
  rw [run_equalIn_string (P := P) w d t a b h, he]
  simp
theorem Eqv_str_f {t : TypeId} {a b : ByteArray} (h : P.underlying t = some .string) (he : a ≠ b) : Eqv P 1 t (.string a) (.string b) false := fun d w hd => by
  obtain ⟨d, rfl⟩ : ∃ c, d = c + 1 := ⟨d - 1, by omega⟩
  rw [run_equalIn_string (P := P) w d t a b h, beq_eq_false_iff_ne.2 fun e => he (toList_inj e)]
theorem Eqv_bool {t : TypeId} {a b r : Bool} (h : P.underlying t = some .bool) (he : (a == b) = r) : Eqv P 1 t (.bool a) (.bool b) r := fun d w hd => by
  obtain ⟨d, rfl⟩ : ∃ c, d = c + 1 := ⟨d - 1, by omega⟩
  rw [run_equalIn_bool' (P := P) w d t a b h, he]
theorem Eqv_struct {m : Nat} {t : TypeId} {fs : Array Field} {xs ys : Array Value} {r : Bool} (ht : P.underlying t = some (.struct fs)) (hp : P.stoodInHeld t = false) (h : EqvF P m xs ys fs.toList r) : Eqv P (m + 1) t (.agg xs) (.agg ys) r := fun d w hd => by
  obtain ⟨d, rfl⟩ : ∃ c, d = c + 1 := ⟨d - 1, by omega⟩
  have e : P.fieldsOf t = fs := by unfold Program.fieldsOf; rw [ht]
  rw [run_equalIn_agg (P := P) w d t xs ys (by rw [e]; exact ht) hp, e]
  exact h d w (by omega)
theorem EqvF_nil {xs ys : Array Value} : EqvF P 0 xs ys [] true := fun d w _ => by simp [Op.eqFields]
theorem EqvF_t {m m' : Nat} {xs ys : Array Value} {f : Field} {l : List Field} {a b : Value} {r : Bool} (hn : (f.name == "_") = false) (ha : PartR P f.type xs f.offset a) (hb : PartR P f.type ys f.offset b) (h : Eqv P m f.type a b true) (h2 : EqvF P m' xs ys l r) : EqvF P (m + m') xs ys (f :: l) r := fun d w hd => by
  have hn' : f.name ≠ "_" := beq_eq_false_iff_ne.1 hn
  simp only [Op.eqFields]
  rw [if_pos hn']
  simp only [Sem.run_bind, ha w, hb w, Result.andThen_ok, h d w (by omega)]
  simpa using h2 d w (by omega)
theorem EqvF_f {m : Nat} {xs ys : Array Value} {f : Field} {l : List Field} {a b : Value} (hn : (f.name == "_") = false) (ha : PartR P f.type xs f.offset a) (hb : PartR P f.type ys f.offset b) (h : Eqv P m f.type a b false) : EqvF P m xs ys (f :: l) false := fun d w hd => by
  have hn' : f.name ≠ "_" := beq_eq_false_iff_ne.1 hn
  simp only [Op.eqFields]
  rw [if_pos hn']
  simp only [Sem.run_bind, ha w, hb w, Result.andThen_ok, h d w (by omega)]
  simp
theorem P_eqA {t t' : TypeId} {x y : Operand} {xs ys : Array Value} {r : Bool} {m : Nat} (hx : ev F x = .agg xs) (hy : ev F y = .agg ys) (hg : P.eqGuardType P.depth t = false) (h : Eqv P m t (.agg xs) (.agg ys) r) (hm : Nat.ble m 10000 = true) : Pu P F (.binOp .eql t x y t') ty (.bool r) :=
  fun dst pos after w => bin_run hx hy (run_eqGuard_agg w .eql t x y xs ys hg) (by rw [run_eql_struct, h 10000 w (by simpa using hm)]; rfl)
theorem P_neA {t t' : TypeId} {x y : Operand} {xs ys : Array Value} {r : Bool} {m : Nat} (hx : ev F x = .agg xs) (hy : ev F y = .agg ys) (hg : P.eqGuardType P.depth t = false) (h : Eqv P m t (.agg xs) (.agg ys) r) (hm : Nat.ble m 10000 = true) : Pu P F (.binOp .neq t x y t') ty (.bool (!r)) :=
  fun dst pos after w => bin_run hx hy (run_eqGuard_agg w .neq t x y xs ys hg) (by rw [run_neq_struct, h 10000 w (by simpa using hm)]; rfl)
end structs
end Sx
end Go.Proofs.Ytoljcnlmockpcaa
