/- Merged: SxE, SxR, SxT, SxU. -/
import Derived.Test.YtifkedhbelflkaaDoorOqSxGo
import Derived.Test.YtifkedhbelflkaaDoorOqSxD
import Derived.Laws.OwnMore
import Derived.Scope
import Derived.OrdersIn
namespace Go.Proofs.YtifkedhbelflkaaDoor
set_option maxRecDepth 100000
namespace Sx
open Go Go.RowKit
section act
variable {P : Program} {r : Nat} {ops : Array Oper} {md : Region.Mode} {S : World → Prop} {Q : Exit → Act → World → Prop}
/-- Whatever order is picked, and S holds behind every operation. -/
def AnyS (r : Nat) (P : Program) (md : Region.Mode) (ops : Array Oper) (Q : Exit → Act → World → Prop) (S : World → Prop) : Nat → Array Bool → Act → World → Prop
  | 0, x, a, w => Region.ready md ops x = [] ∧ Q .normal a w
  | f + 1, x, a, w => (Region.ready md ops x = [] → Q .normal a w) ∧ ∀ i ∈ Region.ready md ops x, wpOpIn En r P ops Q i (fun a' w' => S w' ∧ AnyS r P md ops Q S f (x.setIfInBounds i true) a' w') a w
theorem anyIn_of_S : ∀ (f : Nat) (x : Array Bool) (a : Act) (w : World), AnyS r P md ops Q S f x a w → wpAnyIn En r P md ops Q f x a w
  | 0, _, _, _, h => h
  | f + 1, _, _, _, h => ⟨h.1, fun i hi => wpOpIn_mono (fun a' w' h' => anyIn_of_S f _ a' w' h'.2) (h.2 i hi)⟩
theorem anyS_first {i : Nat} {oi : Oper} {v : Value} (hi : ops[i]? = some oi) (hsel : ∀ (j : Nat) (o : Oper) cs b, ops[j]? = some o → o.op ≠ .select cs b)
    (hQ : ∀ c a w, ¬ Q (.panic c) a w) :
    ∀ (fuel : Nat) (x : Array Bool) (a : Act) (w : World),
      (∀ j oj, ops[j]? = some oj → j ≠ i → x.getD j true = false → (∀ e ∈ oj.after, Region.binds md e = true → e.on ≠ i) → oi.apart ops oj = true) →
      i ∈ Region.ready md ops x → YieldsS P ops S oi v a → S w →
      AnyS r P md ops Q S fuel (x.setIfInBounds i true) (a.put oi.dst v) w → AnyS r P md ops Q S (fuel + 1) x a w := by
  intro fuel
  induction fuel with
  | zero =>
    intro x a w _ hr hy hS H
    refine ⟨fun h => (by rw [h] at hr; cases hr), fun j hj => ?_⟩
    by_cases hji : j = i
    · subst hji; exact hy.op hi hS ⟨hS, H⟩
    · have := ready_mono hj hji
      rw [H.1] at this
      cases this
  | succ fuel ih =>
    intro x a w hfree hr hy hS H
    refine ⟨fun h => (by rw [h] at hr; cases hr), fun j hj => ?_⟩
    by_cases hji : j = i
    · subst hji; exact hy.op hi hS ⟨hS, H⟩
    · have h1 := H.2 j (ready_mono hj hji)
      obtain ⟨hjun, oj, hoj, hall⟩ := mem_ready.1 hj
      have hnot : ∀ e ∈ oj.after, Region.binds md e = true → e.on ≠ i := fun e he hb heq => by
        have h1 := hall e he hb
        have h0 := (mem_ready.1 hr).1
        rw [heq] at h1
        rw [getD_both h0] at h1
        cases h1
      have h2 := opIn_putS hoj (hfree j oj hoj hji hjun hnot) (fun cs b => hsel i oi cs b hi) (fun cs b => hsel j oj cs b hoj) hQ hy h1
      have hfree' : ∀ k ok, ops[k]? = some ok → k ≠ i → (x.setIfInBounds j true).getD k true = false →
          (∀ e ∈ ok.after, Region.binds md e = true → e.on ≠ i) → oi.apart ops ok = true := fun k ok hk hki hun hno => by
        refine hfree k ok hk hki ?_ hno
        by_cases hjk : j = k
        · subst hjk; exact hjun
        · rw [getD_set_ne true hjk] at hun; exact hun
      refine wpOpIn_mono (fun a' w' h3 => ⟨h3.2.1, ih (x.setIfInBounds j true) a' w' hfree' (ready_mono hr (Ne.symm hji)) h3.1 h3.2.1 ?_⟩) h2
      rw [Array.setIfInBounds_comm _ _ hji]
      exact h3.2.2
end act

section fr
variable {P : Program} {n : Nat} {C S : World → Prop} {F : Fr} {ds : List Deferred} {w : World}
/-- The region's rest, where S holds behind every operation: pure operations may be taken first, others branch. -/
def RnS (P : Program) (n : Nat) (l : List Oper) (S : World → Prop) (Q : Post) (g : Nat) (L : List Nat) (F : Fr) (ds : List Deferred) (w : World) : Prop :=
  ∀ r a, Fits n F ds a → AnyS r P .any l.toArray (lift n Q) S g (lst l.length L) a w
theorem W_drawS {id : Nat} {l : List Oper} {Q : Post} (g : Nat) (S : World → Prop) (hm : P.follows .mixedOrders = true) (hg : l.length = g) (h : RnS P n l S Q g [] F ds w.drew) : W P none n (.region id l.toArray true) Q F ds w := fun r a hf => by
  refine wpIn_region_any hm ?_
  subst hg
  have := anyIn_of_S _ _ _ _ (h r a hf)
  simpa [lst] using this
/-- Whichever of those that can come up. -/
theorem S_any {l : List Oper} {Q : Post} {g' : Nat} {L : List Nat} (rs : List Nat) (g : Nat) (hg : g' = g + 1) (hB : (decide (Region.ready .any l.toArray (lst l.length L) = rs) && !rs.isEmpty) = true)
    (h : ∀ i ∈ rs, Lst P none n l.toArray (rnQ Q (fun G ds' w' => S w' ∧ RnS P n l S Q g (i :: L) G ds' w')) (nth l i) F ds w) : RnS P n l S Q g' L F ds w := fun r a hf => by
  subst hg
  simp only [Bool.and_eq_true, decide_eq_true_eq] at hB
  obtain ⟨hr, hne⟩ := hB
  refine ⟨fun e => (by rw [hr] at e; subst e; simp at hne), fun j hj => ?_⟩
  have hj' := hj
  rw [hr] at hj'
  obtain ⟨_, o, ho, _⟩ := mem_ready.1 hj
  refine op_of_lst ho ?_ (h j hj') hf
  rintro a w ⟨G, ds', hG, hS, hR⟩
  exact ⟨hS, hR r a hG⟩
theorem all1 {p : Nat → Prop} {i : Nat} (h : p i) : ∀ j ∈ [i], p j := by simpa using h
theorem all2 {p : Nat → Prop} {i k : Nat} (h : p i) (h2 : p k) : ∀ j ∈ [i, k], p j := by simp [h, h2]
theorem S_done {l : List Oper} {Q : Post} {L : List Nat} (hB : (Region.ready .any l.toArray (lst l.length L)).isEmpty = true) (h : Q .normal F ds w) : RnS P n l S Q 0 L F ds w := fun _ _ hf =>
  ⟨by simpa using hB, F, ds, hf, h⟩
end fr
end Sx
namespace Sx
open Go Go.RowKit
section fr
variable {P : Program} {n : Nat} {S : World → Prop} {F : Fr} {ds : List Deferred} {w : World}
end fr
end Sx
namespace Sx
open Go Go.RowKit
/-- No call. -/
def plainOp : Op → Bool
  | .move _ | .assign _ | .pick _ _ _ | .build _ _ | .load _ _ | .binOp _ _ _ _ _ | .unOp _ _ _ | .convert _ _ _ | .makeInterface _ _ | .makeFunc _ _ _ | .fieldAddr _ _ _ | .field _ _ _ | .indexAddr _ _ _ | .index _ _ _ | .lookup _ _ _ _ | .typeAssert _ _ _ _ | .extract _ _ | .slice _ _ _ _ _ => true
  | .nilCheck _ => true
  | _ => false
section fr
variable {P : Program} {n : Nat} {C S : World → Prop} {F : Fr} {ds : List Deferred} {w : World}
theorem yv_bind {α : Type} {m : Sem α} {k : α → Sem Next} (hk : ∀ b w x w', (k b).run P w = .ok x w' → ∃ u, x = .value u) {w w' : World} {x : Next} (h : (m >>= k).run P w = .ok x w') : ∃ u, x = .value u := by
  rw [Sem.run_bind] at h
  cases hs : m.run P w with
  | ok v w2 => rw [hs] at h; exact hk _ _ _ _ h
  | halt v w2 => rw [hs] at h; cases h
theorem plain_value {o : Oper} {a : Act} {v : Value} (hc : plainOp o.op = true) (h : o.quietAt P a C w v) : (execOp a.eval o).run P w = .ok (.value v) w := by
  unfold Oper.quietAt at h
  have key : ∀ x w', (execOp a.eval o).run P w = .ok x w' → ∃ u, x = .value u := by
    intro x w' hx
    unfold execOp at hx
    split at hx <;> simp only [*, plainOp, Bool.false_eq_true] at hc
    all_goals first
      | exact run_value hx
      | (simp only [Sem.run_pure] at hx; cases hx; exact ⟨_, rfl⟩)
      | skip
    · exact yv_bind (fun b w x w' hx => by simp only [Sem.run_pure] at hx; cases hx; exact ⟨_, rfl⟩) hx
    · split at hx
      · cases hx
      · cases hx
      · cases hx
      · split at hx
        · cases hx
        · exact yv_bind (fun b w x w' hx => yv_bind (fun c w x w' hx => by
            split at hx
            · exact yv_bind (fun d w x w' hx => by simp only [Sem.run_pure] at hx; cases hx; exact ⟨_, rfl⟩) hx
            · simp only [Sem.run_pure] at hx; cases hx; exact ⟨_, rfl⟩) hx) hx
        · simp only [Sem.run_pure] at hx; cases hx; exact ⟨_, rfl⟩
      · simp only [Sem.run_pure] at hx; cases hx; exact ⟨_, rfl⟩
  cases hz : (execOp a.eval o).run P w with
  | halt x w' => rw [hz] at h; exact h.elim
  | ok x w' =>
    obtain ⟨u, rfl⟩ := key x w' hz
    rw [hz] at h
    simp only [Oper.quietUpon] at h
    rw [h.1, h.2]
theorem S_takeV {l : List Oper} {Q : Post} {g' : Nat} {L : List Nat} (i g : Nat) (hg : g' = g + 1) (hB : (Region.noSelect l.toArray && (Region.ready .any l.toArray (lst l.length L)).contains i && Region.free .any l.toArray (lst l.length L) i && (nth l i).all (fun o => plainOp o.op)) = true)
    (hQ : ∀ c F ds w, ¬ Q (.panic c) F ds w) (hS : S w) (h : Qst P n l.toArray S (fun G => RnS P n l S Q g (i :: L) G ds w) (nth l i) F ds) : RnS P n l S Q g' L F ds w := fun r a hf => by
  subst hg
  have hQ' : ∀ c a w, ¬ lift n Q (.panic c) a w := fun c a w ⟨F, ds, _, h⟩ => hQ c F ds w h
  simp only [Bool.and_eq_true] at hB
  obtain ⟨⟨⟨hsel, hr⟩, hfree⟩, hc⟩ := hB
  have hr : i ∈ Region.ready .any l.toArray (lst l.length L) := by simpa using hr
  obtain ⟨_, o, ho, _⟩ := mem_ready.1 hr
  rw [nth_some ho] at hc h
  simp only [List.all_cons, List.all_nil, Bool.and_true] at hc
  have h := h a hf
  have : ∃ v, YieldsS P l.toArray S o v a ∧ ∃ G, Fits n G ds (a.put o.dst v) ∧ RnS P n l S Q g (i :: L) G ds w := by
    unfold wpQuiet at h
    by_cases hw : Region.wanted o (yielded l.toArray a.tmps) = true
    · rw [if_pos hw] at h
      obtain ⟨v, h1, G, hG, h2⟩ := h
      exact ⟨v, .inl ⟨hw, fun w' hw' => plain_value hc (h1 w' hw')⟩, G, hG, h2⟩
    · rw [if_neg hw] at h
      obtain ⟨G, hG, h2⟩ := h
      exact ⟨undef, .inr ⟨by simpa using hw, rfl⟩, G, hG, h2⟩
  obtain ⟨v, hy, G, hG, hT⟩ := this
  exact anyS_first ho (Region.noSelect_spec hsel) hQ' g _ a w (Region.free_spec ho hfree) hr hy hS (hT r _ hG)
end fr
end Sx
namespace Sx
open Go Go.RowKit
section loads
variable {P : Program} {rd : Option Nat} {n : Nat} {ops : Array Oper} {Q : Post} {rest : List Oper} {F : Fr} {ds : List Deferred} {w : World} {ty : TypeId} {pos : String} {after : Array Edge}
/-- A struct read whole, wherever it lies. -/
theorem Lst_loadS' {d b off : Nat} {x : Operand} {t : TypeId} {u : TypeDesc} {i : TypeInfo} {cs : List Value} (hx : ev F x = .pointer (some ⟨b, off, none⟩)) (ht : P.underlying t = some u) (hu : u.isRow = true) (hi : P.info? t = some i) (hs : i.size = cs.length) (hc : ∀ (j : Nat) (v : Value), cs[j]? = some v → w.cell? ⟨b, off + j, none⟩ = some v) (hd : Nat.blt d n = true)
    (h : Lst P rd n ops Q rest (upd F d (.agg cs.toArray)) ds w) : Lst P rd n ops Q (⟨some d, .load t x, ty, pos, after, none⟩ :: rest) F ds w :=
  Lst_value rfl (by
    have := run_loadAt_mid (P := P) w b off t cs u hc ht hu (by rw [hi]; simp [hs])
    simp [execOp, hx, this]) hd h
end loads
/-- A slice of structs that is only read: the cells of each. -/
def SRows (w : World) (sz : Nat) (v : Value) (ls : List (List Value)) : Prop :=
  ∃ b off cap, (v = .slice (some ⟨b, off, none⟩) ls.length cap ∨ (v = .slice none 0 0 ∧ ls = [])) ∧ ∀ i (h : i < ls.length), b < w.heap.size ∧ ∀ j u, (ls[i])[j]? = some u → w.cell? ⟨b, off + i * sz + j, none⟩ = some u
theorem SRows.below {w w' : World} {sz : Nat} {v : Value} {ls : List (List Value)} {B : Nat} (h : SRows w sz v ls) (hb : Below B w w') (hB : w.heap.size ≤ B) : SRows w' sz v ls := by
  obtain ⟨b, off, cap, hf, hr⟩ := h
  refine ⟨b, off, cap, hf, fun i hi => ?_⟩
  obtain ⟨h1, h2⟩ := hr i hi
  refine ⟨Nat.lt_of_lt_of_le h1 hb.size, fun j u hu => ?_⟩
  exact (hb.cell (p := ⟨b, off + i * sz + j, none⟩) (by show b < B; omega)).trans (h2 j u hu)
theorem SRows.at {w : World} {sz nn : Nat} {a : Option Addr} {c : Nat} {ls : List (List Value)} (h : SRows w sz (.slice a nn c) ls) {i : Nat} (hi : i < ls.length) : ∃ b off, a = some ⟨b, off, none⟩ ∧ b < w.heap.size ∧ ∀ j u, (ls[i])[j]? = some u → w.cell? ⟨b, off + i * sz + j, none⟩ = some u := by
  obtain ⟨b, off, cap, hf | ⟨_, rfl⟩, hr⟩ := h
  · cases hf
    exact ⟨b, off, rfl, hr i hi⟩
  · exact absurd hi (Nat.not_lt_zero _)
theorem flat_get {sz : Nat} : ∀ (ls : List (List Value)) (i j : Nat) (hi : i < ls.length), (∀ l ∈ ls, l.length = sz) → j < sz → ls.flatten[i * sz + j]? = (ls[i])[j]?
  | l :: ls, 0, j, _, h, hj => by
    have := h l (by simp)
    rw [List.flatten_cons, Nat.zero_mul, Nat.zero_add, List.getElem?_append_left (by omega)]
    rfl
  | l :: ls, i + 1, j, hi, h, hj => by
    have hl := h l (by simp)
    rw [List.flatten_cons, Nat.succ_mul, List.getElem?_append_right (by omega), show i * sz + sz + j - l.length = i * sz + j by omega]
    exact flat_get ls i j (by simpa using hi) (fun l' h' => h l' (by simp [h'])) hj
theorem flat_len {sz : Nat} : ∀ (ls : List (List Value)), (∀ l ∈ ls, l.length = sz) → ls.flatten.length = ls.length * sz
  | [], _ => by simp
  | l :: ls, h => by
    rw [List.flatten_cons, List.length_append, flat_len ls fun l' h' => h l' (by simp [h']), h l (by simp), List.length_cons, Nat.succ_mul]
    omega
theorem SRows.of_own {w : World} {base e sz nn : Nat} {v : Value} {ls : List (List Value)} (h : w.ownsRow base e sz v nn ls.flatten) (hs : ∀ l ∈ ls, l.length = sz) (h1 : 1 ≤ sz) : SRows w sz v ls := by
  obtain ⟨hl, h⟩ := h
  rw [flat_len ls hs] at hl
  have hn : ls.length = nn := Nat.eq_of_mul_eq_mul_right (by omega) hl
  subst hn
  rcases h with ⟨rfl, hn⟩ | ⟨g, cap, cur, rfl, _, hg, _, _, hz, ht⟩
  · exact ⟨0, 0, 0, (.inr ⟨rfl, List.eq_nil_of_length_eq_zero hn⟩), fun i hi => by omega⟩
  · refine ⟨g, 0, cap, .inl rfl, fun i hi => ⟨(Array.getElem?_eq_some_iff.1 hg).1, fun j u hu => ?_⟩⟩
    have hj : j < sz := by
      have := (List.getElem?_eq_some_iff.1 hu).1
      rw [hs _ (List.getElem_mem hi)] at this
      exact this
    have hf := flat_get ls i j hi hs hj
    rw [hu, ← ht, List.getElem?_take_of_lt (by
      have : (i + 1) * sz ≤ ls.length * sz := Nat.mul_le_mul_right _ hi
      rw [Nat.succ_mul] at this
      omega)] at hf
    unfold World.cell?
    simp only [hg]
    rw [Nat.zero_add]
    simpa using hf
end Sx
namespace Sx
open Go Go.RowKit
theorem SRows.flat {w : World} {sz b off n c : Nat} {ls : List (List Value)} (h : SRows w sz (.slice (some ⟨b, off, none⟩) n c) ls) (hs : ∀ l ∈ ls, l.length = sz) (h1 : 1 ≤ sz) (j : Nat) (u : Value) (hu : ls.flatten[j]? = some u) : w.cell? ⟨b, off + j, none⟩ = some u := by
  have hj : j < ls.length * sz := by
    have := (List.getElem?_eq_some_iff.1 hu).1
    rwa [flat_len ls hs] at this
  have hi : j / sz < ls.length := (Nat.div_lt_iff_lt_mul (by omega)).2 hj
  have hr : j % sz < sz := Nat.mod_lt _ (by omega)
  have e : j / sz * sz + j % sz = j := Nat.div_add_mod' j sz
  have hf := flat_get ls (j / sz) (j % sz) hi hs hr
  rw [e, hu] at hf
  obtain ⟨b', off', ha, _, hc⟩ := h.at hi
  cases ha
  have := hc (j % sz) u hf.symm
  rwa [Nat.add_assoc, e] at this
section rules
variable {P : Program} {rd : Option Nat} {n : Nat} {ops : Array Oper} {Q : Post} {rest : List Oper} {F : Fr} {ds : List Deferred} {w : World} {ty : TypeId} {pos : String} {after : Array Edge}
/-- append of structs that are only read. -/
theorem Lst_appendR {d : Nat} {s x : Operand} {t e B sz bytes nn : Nat} {i : TypeInfo} {z v y : Value} {xs : List Value} {ls : List (List Value)} (hown : w.ownsRow B e sz v nn xs) (hy : SRows w sz y ls) (hls : ∀ l ∈ ls, l.length = sz) (hone : ∀ u ∈ ls.flatten, u.oneCell' = true) (hs : ev F s = v) (hx : ev F x = y) (ht : P.underlying t = some (.slice e)) (hi : P.info? e = some i) (hz : i.zero = some z)
    (hsize : i.size = sz) (hby : i.bytes = bytes) (hzs : z.cells.size = sz) (h1 : Nat.ble 1 sz = true) (h63 : nn + ls.length ≤ 9223372036854775807) (hbytes : (nn + ls.length) * bytes ≤ 140737488355328) (hbase : B ≤ w.heap.size) (hd : Nat.blt d n = true)
    (h : ∀ v' w', w'.ownsRow B e sz v' (nn + ls.length) (xs ++ ls.flatten) → w.grownBy w' v.ownBlock → Lst P rd n ops Q rest (upd F d v') ds w') :
    Lst P rd n ops Q (⟨some d, .call { callee := .builtin .append, args := #[s, x], argTypes := #[t, t] }, ty, pos, after, none⟩ :: rest) F ds w := by
  have h1' : 1 ≤ sz := by simpa using h1
  obtain ⟨b, off, cap, hf | ⟨hf, hnil⟩, hr⟩ := id hy
  · subst hf
    exact Lst_append (news := ls.flatten) hs hx ht hi hz hsize hby hzs h1 hown (fun j u hu => hy.flat hls h1' j u hu) (flat_len ls hls) hone h63 hbytes hbase hd fun v' w' ho hg _ => h v' w' ho hg
  · subst hf
    subst hnil
    have hrun := run_append_owned_none (P := P) (w := w) B t ty e i sz ht hi v nn xs hown
    refine Lst_value (v := v) (w' := w) rfl ?_ hd (h v w (by rw [List.flatten_nil, List.append_nil]; exact hown) ⟨rfl, rfl, rfl, Nat.le_refl _, fun _ _ _ => rfl⟩)
    simp [execOp, resolve, invoke, builtin, hs, hx, hrun]
end rules
section q
variable {P : Program} {n : Nat} {ops : Array Oper} {C : World → Prop} {K : Fr → Prop} {rest : List Oper} {F : Fr} {ds : List Deferred} {ty : TypeId} {pos : String} {after : Array Edge}
/-- A struct read whole, in a drawn region. -/
theorem Qst_loadS {d b off : Nat} {x : Operand} {t : TypeId} {u : TypeDesc} {i : TypeInfo} {cs : List Value} (hx : ev F x = .pointer (some ⟨b, off, none⟩)) (ht : P.underlying t = some u) (hu : u.isRow = true) (hi : P.info? t = some i) (hs : i.size = cs.length) (hc : ∀ w, C w → ∀ (j : Nat) (v : Value), cs[j]? = some v → w.cell? ⟨b, off + j, none⟩ = some v) (hd : Nat.blt d n = true)
    (h : Qst P n ops C K rest (upd F d (.agg cs.toArray)) ds) : Qst P n ops C K (⟨some d, .load t x, ty, pos, after, none⟩ :: rest) F ds :=
  Qst_value rfl (fun w hw => by
    have := run_loadAt_mid (P := P) w b off t cs u (hc w hw) ht hu (by rw [hi]; simp [hs])
    simp [execOp, hx, this]) hd h
end q
end Sx
namespace Tl
open Go Go.RowKit Sx
section rules0
variable {P : Program} {rd : Option Nat} {n : Nat} {ops : Array Oper} {Q : Post} {rest : List Oper} {F : Fr} {ds : List Deferred} {w : World} {ty : TypeId} {pos : String} {after : Array Edge}
theorem rndQ_p {α : Type} {vals : α → St} {I : α → World → Prop} {μ : α → World → Nat} {m : Nat} {ds' : List Deferred} (h : ∀ c F ds w, ¬ Q (.panic c) F ds w) : ∀ c F ds w, ¬ rndQ vals I μ m Q ds' (.panic c) F ds w := fun c F ds w => h c F ds w
end rules0
theorem Qa {G G' : Prop} (k : G') (h : Box G' → G := by
  intro hkbox
  (repeat' (first | (apply Qst_nil) | (apply Qst_guard_t; (focus rfl); (focus rfl)) | (apply Qst_guard_f; (focus rfl); (focus rfl); (focus rfl); (focus rfl)) | (apply Qst_load; (focus rfl); (focus rfl); (focus rfl); (focus (intro _ hA; subst hA; (repeat (first | assumption | (apply Blk.below (hb := hb1); rotate_left; (focus ((try simp only [World.size_alloc, World.putObj_size, Sx.size_drew]); omega)); rotate_right) | (apply Blk.below (hb := hb2); rotate_left; (focus ((try simp only [World.size_alloc, World.putObj_size, Sx.size_drew]); omega)); rotate_right) | (apply Blk.below (hb := hb3); rotate_left; (focus ((try simp only [World.size_alloc, World.putObj_size, Sx.size_drew]); omega)); rotate_right) | (apply Blk.below (hb := hb4); rotate_left; (focus ((try simp only [World.size_alloc, World.putObj_size, Sx.size_drew]); omega)); rotate_right) | (apply Blk.below (hb := hb5); rotate_left; (focus ((try simp only [World.size_alloc, World.putObj_size, Sx.size_drew]); omega)); rotate_right) | (apply Blk.below (hb := hb6); rotate_left; (focus ((try simp only [World.size_alloc, World.putObj_size, Sx.size_drew]); omega)); rotate_right) | (apply Blk.below (hb := hb7); rotate_left; (focus ((try simp only [World.size_alloc, World.putObj_size, Sx.size_drew]); omega)); rotate_right) | (apply Blk.below (hb := hb8); rotate_left; (focus ((try simp only [World.size_alloc, World.putObj_size, Sx.size_drew]); omega)); rotate_right) | (apply Blk.below (hb := hb9); rotate_left; (focus ((try simp only [World.size_alloc, World.putObj_size, Sx.size_drew]); omega)); rotate_right) | exact Blk.newE (by first | rfl | ((try simp only [World.size_alloc, World.putObj_size, Sx.size_drew]); first | done | omega)) _ _ | exact Blk.put_same (by (try simp only [World.size_alloc, World.putObj_size, Sx.size_drew]); first | done | omega) _ _ | (apply Blk.put_ne; (focus omega)) | apply Blk.alloc | apply Blk.drew)); done)); (focus rfl); (focus rfl)) | (apply Qst_loadc; (focus rfl); (focus rfl); (focus rfl); (focus (intro _ hA; subst hA; assumption)); (focus rfl)) | (apply Qst_pu; (focus (first | (apply P_move; (focus constructor)) | (apply P_assign; (focus constructor)) | (apply P_ar; (focus rfl); (focus rfl); (focus rfl); (focus (first | assumption | exact wi64 (by omega) (by omega) | exact wu64 (by omega) (by omega) | exact wi32 (by omega) (by omega) | exact wu8 (by omega) (by omega) | rfl))) | (apply P_ct; (focus rfl); (focus rfl); (focus rfl); (focus (dsimp only [cmpP]; first | done | omega))) | (apply P_cf; (focus rfl); (focus rfl); (focus rfl); (focus (dsimp only [cmpP]; first | done | omega))) | (apply P_pick_t; (focus rfl); (focus constructor)) | (apply P_pick_f; (focus rfl); (focus constructor)) | (apply P_extract; (focus rfl); (focus rfl)) | (apply P_not; (focus rfl); (focus rfl)) | (apply P_slen; (focus rfl); (focus rfl)) | (apply P_llen; (focus rfl); (focus rfl)) | (apply P_bne; (focus rfl); (focus rfl); (focus rfl); (focus (first | exact bne_self_eq_false _ | rfl))) | (apply P_min; (focus rfl); (focus rfl)) | (apply P_idx1; (focus rfl); (focus rfl); (focus rfl); (focus rfl); (focus rfl); (focus omega)) | (apply P_conv; (focus rfl); (focus rfl); (focus rfl); (focus (first | assumption | exact wi64 (by omega) (by omega) | exact wu64 (by omega) (by omega) | exact wi32 (by omega) (by omega) | exact wu8 (by omega) (by omega) | rfl))) | (apply P_sindex0; (focus rfl); (focus rfl); (focus rfl); (focus omega)) | (apply P_sindexN; (focus rfl); (focus rfl); (focus rfl); (focus omega)) | (apply P_sindex; (focus rfl); (focus rfl); (focus rfl); (focus omega); (focus omega)) | (apply P_makeFunc; (focus (repeat constructor)); (focus (repeat constructor))) | (apply P_seq_t; (focus rfl); (focus rfl); (focus (first | assumption | rfl))) | (apply P_seq_f; (focus rfl); (focus rfl); (focus assumption)) | (apply P_sne_t; (focus rfl); (focus rfl); (focus assumption)) | (apply P_faddr; (focus rfl); (focus rfl); (focus rfl); (focus rfl); (focus rfl); (focus rfl); (focus (first | (simp only [Nat.zero_add, Nat.add_zero, List.getElem_toArray, List.getElem_cons_zero, List.getElem_cons_succ]; rfl) | rfl))) | (apply P_build; (focus rfl); (focus rfl); (focus rfl); (focus rfl); (focus rfl); (focus (repeat (first | apply FillO.nil | (apply FillO.cons; (focus constructor); (focus rfl); (focus rfl); (focus (repeat constructor))))))) | (apply P_eqA; (focus rfl); (focus rfl); (focus (kernel_rfl)); (focus (first | (apply Eqv_int_t; (focus rfl); (focus (first | rfl | omega))) | (apply Eqv_int_f; (focus rfl); (focus omega)) | (apply Eqv_str_t; (focus rfl); (focus (first | rfl | assumption))) | (apply Eqv_str_f; (focus rfl); (focus assumption)) | (apply Eqv_bool; (focus rfl); (focus (first | exact beq_self_eq_true _ | rfl))) | (apply Eqv_struct; (focus rfl); (focus (first | rfl | kernel_rfl)); (repeat (first | exact EqvF_nil | (apply EqvF_t; (focus rfl); (focus (first | (apply PartR_1; (focus rfl); (focus rfl); (focus rfl)) | (apply PartR_A; (focus rfl); (focus rfl); (focus rfl); (focus rfl); (focus (repeat constructor))))); (focus (first | (apply PartR_1; (focus rfl); (focus rfl); (focus rfl)) | (apply PartR_A; (focus rfl); (focus rfl); (focus rfl); (focus rfl); (focus (repeat constructor))))); (focus (first | (apply Eqv_int_t; (focus rfl); (focus (first | rfl | omega))) | (apply Eqv_int_f; (focus rfl); (focus omega)) | (apply Eqv_str_t; (focus rfl); (focus (first | rfl | assumption))) | (apply Eqv_str_f; (focus rfl); (focus assumption)) | (apply Eqv_bool; (focus rfl); (focus (first | exact beq_self_eq_true _ | rfl))) | (apply Eqv_struct; (focus rfl); (focus (first | rfl | kernel_rfl)); (repeat (first | exact EqvF_nil | (apply EqvF_t; (focus rfl); (focus (first | (apply PartR_1; (focus rfl); (focus rfl); (focus rfl)) | (apply PartR_A; (focus rfl); (focus rfl); (focus rfl); (focus rfl); (focus (repeat constructor))))); (focus (first | (apply PartR_1; (focus rfl); (focus rfl); (focus rfl)) | (apply PartR_A; (focus rfl); (focus rfl); (focus rfl); (focus rfl); (focus (repeat constructor))))); (focus (first | (apply Eqv_int_t; (focus rfl); (focus (first | rfl | omega))) | (apply Eqv_int_f; (focus rfl); (focus omega)) | (apply Eqv_str_t; (focus rfl); (focus (first | rfl | assumption))) | (apply Eqv_str_f; (focus rfl); (focus assumption)) | (apply Eqv_bool; (focus rfl); (focus (first | exact beq_self_eq_true _ | rfl)))))) | (apply EqvF_f; (focus rfl); (focus (first | (apply PartR_1; (focus rfl); (focus rfl); (focus rfl)) | (apply PartR_A; (focus rfl); (focus rfl); (focus rfl); (focus rfl); (focus (repeat constructor))))); (focus (first | (apply PartR_1; (focus rfl); (focus rfl); (focus rfl)) | (apply PartR_A; (focus rfl); (focus rfl); (focus rfl); (focus rfl); (focus (repeat constructor))))); (focus (first | (apply Eqv_int_t; (focus rfl); (focus (first | rfl | omega))) | (apply Eqv_int_f; (focus rfl); (focus omega)) | (apply Eqv_str_t; (focus rfl); (focus (first | rfl | assumption))) | (apply Eqv_str_f; (focus rfl); (focus assumption)) | (apply Eqv_bool; (focus rfl); (focus (first | exact beq_self_eq_true _ | rfl)))))))))))) | (apply EqvF_f; (focus rfl); (focus (first | (apply PartR_1; (focus rfl); (focus rfl); (focus rfl)) | (apply PartR_A; (focus rfl); (focus rfl); (focus rfl); (focus rfl); (focus (repeat constructor))))); (focus (first | (apply PartR_1; (focus rfl); (focus rfl); (focus rfl)) | (apply PartR_A; (focus rfl); (focus rfl); (focus rfl); (focus rfl); (focus (repeat constructor))))); (focus (first | (apply Eqv_int_t; (focus rfl); (focus (first | rfl | omega))) | (apply Eqv_int_f; (focus rfl); (focus omega)) | (apply Eqv_str_t; (focus rfl); (focus (first | rfl | assumption))) | (apply Eqv_str_f; (focus rfl); (focus assumption)) | (apply Eqv_bool; (focus rfl); (focus (first | exact beq_self_eq_true _ | rfl))) | (apply Eqv_struct; (focus rfl); (focus (first | rfl | kernel_rfl)); (repeat (first | exact EqvF_nil | (apply EqvF_t; (focus rfl); (focus (first | (apply PartR_1; (focus rfl); (focus rfl); (focus rfl)) | (apply PartR_A; (focus rfl); (focus rfl); (focus rfl); (focus rfl); (focus (repeat constructor))))); (focus (first | (apply PartR_1; (focus rfl); (focus rfl); (focus rfl)) | (apply PartR_A; (focus rfl); (focus rfl); (focus rfl); (focus rfl); (focus (repeat constructor))))); (focus (first | (apply Eqv_int_t; (focus rfl); (focus (first | rfl | omega))) | (apply Eqv_int_f; (focus rfl); (focus omega)) | (apply Eqv_str_t; (focus rfl); (focus (first | rfl | assumption))) | (apply Eqv_str_f; (focus rfl); (focus assumption)) | (apply Eqv_bool; (focus rfl); (focus (first | exact beq_self_eq_true _ | rfl)))))) | (apply EqvF_f; (focus rfl); (focus (first | (apply PartR_1; (focus rfl); (focus rfl); (focus rfl)) | (apply PartR_A; (focus rfl); (focus rfl); (focus rfl); (focus rfl); (focus (repeat constructor))))); (focus (first | (apply PartR_1; (focus rfl); (focus rfl); (focus rfl)) | (apply PartR_A; (focus rfl); (focus rfl); (focus rfl); (focus rfl); (focus (repeat constructor))))); (focus (first | (apply Eqv_int_t; (focus rfl); (focus (first | rfl | omega))) | (apply Eqv_int_f; (focus rfl); (focus omega)) | (apply Eqv_str_t; (focus rfl); (focus (first | rfl | assumption))) | (apply Eqv_str_f; (focus rfl); (focus assumption)) | (apply Eqv_bool; (focus rfl); (focus (first | exact beq_self_eq_true _ | rfl))))))))))))))))); (focus rfl)) | (apply P_lslice_hi; (focus rfl); (focus rfl); (focus rfl); (focus rfl); (focus rfl); (focus omega); (focus omega)) | (apply P_lslice_lo; (focus rfl); (focus rfl); (focus rfl); (focus rfl); (focus rfl); (focus omega); (focus omega)) | (apply P_sslice_lo; (focus rfl); (focus rfl); (focus rfl); (focus omega); (focus omega)))); (focus rfl))))
  exact Box.out hkbox) : G := h ⟨k⟩
section rules
variable {P : Program} {rd : Option Nat} {n : Nat} {Q : Post} {F : Fr} {ds : List Deferred} {w : World}
theorem W_post {Q' : Post} {x : Code} (h : W P rd n x Q F ds w) (hm : ∀ e F ds w, Q e F ds w → Q' e F ds w) : W P rd n x Q' F ds w := fun m a hf =>
  Code.wpIn_mono (fun e a w hq => by
    obtain ⟨G, ds', hg, hq⟩ := hq
    exact ⟨G, ds', hg, hm _ _ _ _ hq⟩) (h m a hf)
theorem cut_seq {α : Type} {vals : α → St} {M : α → World → Prop} {y : Code} (h2 : ∀ (J : Fr) (g : α) (w' : World), M g w' → W P rd n y Q (fr J (vals g)) ds w') : ∀ e F ds' w, cutQ vals M Q ds e F ds' w → seqQ P rd n y Q e F ds' w := by
  intro e F ds' w h
  cases e with
  | normal =>
    obtain ⟨rfl, g, hm, hv⟩ := h
    exact fun m a hf => h2 F g w hm m a (hf.congr (fr_has hv))
  | _ => exact h
theorem W_cutB {α : Type} (vals : α → St) (M : α → World → Prop) {x y : Code} {id : Nat} (h1 : W P rd n x (blkQ id (cutQ vals M Q ds)) F ds w)
    (h2 : ∀ (J : Fr) (g : α) (w' : World), M g w' → W P rd n y Q (fr J (vals g)) ds w') : W P rd n x (blkQ id (seqQ P rd n y Q)) F ds w := W_post h1 fun e F ds' w h => by
  cases e with
  | exit i =>
    unfold blkQ at h ⊢
    cases hb : Nat.beq i id with
    | true => simp only [hb, cond_true] at h ⊢; exact cut_seq h2 _ _ _ _ h
    | false => simp only [hb, cond_false] at h ⊢; exact cut_seq h2 _ _ _ _ h
  | _ =>
    unfold blkQ at h ⊢
    exact cut_seq h2 _ _ _ _ h
end rules
end Tl
namespace Sx
open Go Go.RowKit
/-! ### A range whose parameters lie in boxes -/
section rangeA
variable {P : Program} {n : Nat} {Q : Post} {F : Fr} {ds : List Deferred} {w : World}
/-! ### A call of yield -/
end rangeA
end Sx
namespace Tl
open Go Go.RowKit Sx
theorem op_mono {F : Fence} {n : Nat} {P : Program} {Q Q' : Exit → Act → World → Prop} {o : Oper} {a : Act} {w : World} {K K' : Act → World → Prop} (h : ∀ a w, K a w → K' a w) (hq : ∀ e a w, Q e a w → Q' e a w)
    (hh : o.wpIn F n P a w K Q) : o.wpIn F n P a w K' Q' := by
  unfold Oper.wpIn at *
  refine ⟨hh.1, ?_⟩
  have hh := hh.2
  generalize (o.semAt F.round a.eval).run P w = r at *
  cases r with
  | ok x w' =>
    cases x <;> simp only [Oper.uponIn] at hh ⊢ <;>
      first
        | exact h _ _ hh
        | exact hq _ _ _ hh
        | exact hh
        | exact ⟨hh.1, CallsIn.mono hh.2 (fun e w'' he => by cases e <;> first | exact h _ _ he | exact hq _ _ _ he | exact let ⟨a, w, ho⟩ := he; ⟨a, w, hq _ _ _ ho⟩ | exact he)⟩
        | exact ⟨hh.1, RowsIn.mono hh.2 (fun _ _ he => h _ _ he)⟩
        | exact ⟨hh.1, RoundIn.mono hh.2 (fun e w'' he => by cases e <;> first | exact h _ _ he | exact hq _ _ _ he | exact let ⟨a, w, ho⟩ := he; ⟨a, w, hq _ _ _ ho⟩ | exact he)⟩
  | halt x w' => cases x <;> simp only [Oper.uponIn] at hh ⊢ <;> first | exact hq _ _ _ hh | exact hh
theorem list_mono {F : Fence} {n : Nat} {P : Program} {ops : Array Oper} {Q Q' : Exit → Act → World → Prop} (hq : ∀ e a w, Q e a w → Q' e a w) : ∀ {l : List Oper} {a : Act} {w : World}, wpListIn F n P ops Q l a w → wpListIn F n P ops Q' l a w
  | [], _, _, h => hq _ _ _ h
  | o :: rest, a, w, h => by
    unfold wpListIn at h ⊢
    split
    · rename_i hw
      rw [if_pos hw] at h
      exact op_mono (fun _ _ h => list_mono hq h) hq h
    · rename_i hw
      rw [if_neg hw] at h
      exact ⟨h.1, list_mono hq h.2⟩
section rules
variable {P : Program} {rd : Option Nat} {n : Nat} {ops : Array Oper} {Q : Post} {rest : List Oper} {F : Fr} {ds : List Deferred} {w : World}
theorem Lst_post {Q' : Post} (h : Lst P rd n ops Q rest F ds w) (hm : ∀ e F ds w, Q e F ds w → Q' e F ds w) : Lst P rd n ops Q' rest F ds w := fun m a hf =>
  list_mono (fun e a w hq => by
    obtain ⟨G, ds', hg, hq⟩ := hq
    exact ⟨G, ds', hg, hm _ _ _ _ hq⟩) (h m a hf)
/-- A cut behind the code that comes next. -/
theorem Lst_cut2 {α : Type} (vals : α → St) (M : α → World → Prop) {y z : Code} (h1 : Lst P rd n ops (seqQ P rd n y (cutQ vals M Q ds)) rest F ds w)
    (h2 : ∀ (J : Fr) (g : α) (w' : World), M g w' → W P rd n z Q (fr J (vals g)) ds w') : Lst P rd n ops (seqQ P rd n y (seqQ P rd n z Q)) rest F ds w := Lst_post h1 fun e F ds' w h => by
  cases e with
  | normal => exact W_post h (cut_seq h2)
  | exit i => exact cut_seq h2 (.exit i) F ds' w h
  | goto i => exact cut_seq h2 (.goto i) F ds' w h
  | ret => exact cut_seq h2 .ret F ds' w h
  | panic i => exact cut_seq h2 (.panic i) F ds' w h
  | outgrown => exact cut_seq h2 .outgrown F ds' w h
/-- A cut behind this list. -/
theorem Lst_cut {α : Type} (vals : α → St) (M : α → World → Prop) {z : Code} (h1 : Lst P rd n ops (cutQ vals M Q ds) rest F ds w)
    (h2 : ∀ (J : Fr) (g : α) (w' : World), M g w' → W P rd n z Q (fr J (vals g)) ds w') : Lst P rd n ops (seqQ P rd n z Q) rest F ds w := Lst_post h1 (cut_seq h2)
end rules
end Tl
end Go.Proofs.YtifkedhbelflkaaDoor
