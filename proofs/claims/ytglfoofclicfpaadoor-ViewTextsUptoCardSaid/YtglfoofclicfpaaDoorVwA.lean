/- Runs of a view in memory. -/
import Derived.Test.YtglfoofclicfpaaDoorVwQ
import Derived.Test.YtglfoofclicfpaaDoorJSxEToSxU
namespace Go.Proofs.YtglfoofclicfpaaDoor
set_option maxRecDepth 100000
namespace Vw
open Go Go.RowKit Sx Tl Fl Val Mk
open Utf (rs tl Tabs cutS)
def rcs (r : Rn) (mv : Value) : List Value := [.string r.tx, .bool r.em, .int .i64 r.v.k, .int .i64 r.v.n, .float .f64 r.v.f, .string r.v.s, mv]
/-- A run and its slice of marks. -/
abbrev Rv := Rn × Value
def pcs (p : Rv) : List Value := rcs p.1 p.2
/-- Marks that are only read: below A, or in a block of marks. -/
def MkO (A : Nat) (w : World) (mv : Value) (ms : List Mk) : Prop :=
  (ms = [] ∧ (mv = .slice none 0 0 ∨ ∃ a c, mv = .slice (some a) 0 c)) ∨ (ms ≠ [] ∧ SRows w 5 mv (ms.map mcs) ∧ ∃ b off c, mv = .slice (some ⟨b, off, none⟩) ms.length c ∧ b < w.heap.size ∧ (b < A ∨ ∃ cur, w.heap[b]? = some (.cells cur 37)))
theorem MkO.form {A : Nat} {w : World} {mv : Value} {ms : List Mk} (h : MkO A w mv ms) : ∃ a c, mv = .slice a ms.length c := by
  rcases h with ⟨rfl, rfl | ⟨a, c, rfl⟩⟩ | ⟨_, _, b, off, c, rfl, _⟩
  · exact ⟨_, _, rfl⟩
  · exact ⟨_, c, rfl⟩
  · exact ⟨_, c, rfl⟩
theorem MkO.read {A : Nat} {w : World} {mv : Value} {ms : List Mk} (h : MkO A w mv ms) : MkS w mv ms := by
  rcases h with ⟨h, _⟩ | ⟨_, h, _⟩
  · exact .inl h
  · exact .inr h
theorem MkO.keep {A : Nat} {w w' : World} {mv : Value} {ms : List Mk} (h : MkO A w mv ms) (hs : w.heap.size ≤ w'.heap.size) (hk : ∀ b off c, ms ≠ [] → mv = .slice (some ⟨b, off, none⟩) ms.length c → w'.heap[b]? = w.heap[b]?) : MkO A w' mv ms := by
  rcases h with h | ⟨h0, ⟨b', off', cap, hf, hr⟩, b, off, c, rfl, hb, ht⟩
  · exact .inl h
  · have hb' := hk b off c h0 rfl
    have e : (some ⟨b, off, none⟩ : Option Addr) = some ⟨b', off', none⟩ ∧ c = cap := by
      rcases hf with hf | ⟨hf, _⟩
      · injection hf with h1 _ h3
        exact ⟨h1, h3⟩
      · cases hf
    obtain ⟨e1, rfl⟩ := e
    cases e1
    refine .inr ⟨h0, ⟨b', off', c, hf, fun i hi => ?_⟩, b', off', c, rfl, Nat.lt_of_lt_of_le hb hs, ?_⟩
    · obtain ⟨h1, h2⟩ := hr i hi
      exact ⟨Nat.lt_of_lt_of_le h1 hs, fun j u hu => (World.cell?_of_block (a := ⟨b', off' + i * 5 + j, none⟩) hb').trans (h2 j u hu)⟩
    · rcases ht with ht | ⟨cur, ht⟩
      · exact .inl ht
      · exact .inr ⟨cur, hb'.trans ht⟩
theorem MkO.below {A : Nat} {w w' : World} {mv : Value} {ms : List Mk} (h : MkO A w mv ms) (hb : Below w.heap.size w w') : MkO A w' mv ms := by
  refine h.keep hb.size fun b off c h0 e => ?_
  rcases h with ⟨h, _⟩ | ⟨_, _, b', off', c', e', hl, _⟩
  · exact absurd h h0
  · rw [e] at e'
    cases e'
    exact hb.block b hl
/-- The row of runs turns: marks stay. -/
theorem MkO.row {A B nn : Nat} {w w' : World} {mv v : Value} {ms : List Mk} {xs : List Value} (h : MkO A w mv ms) (hown : w.ownsRow B 40 7 v nn xs) (hAB : A ≤ B) (hs : w.heap.size ≤ w'.heap.size) (hk : ∀ b, b < w.heap.size → some b ≠ v.ownBlock → w'.heap[b]? = w.heap[b]?) : MkO A w' mv ms := by
  refine h.keep hs fun b off c h0 e => ?_
  rcases h with ⟨h, _⟩ | ⟨_, _, b', off', c', e', hl, ht⟩
  · exact absurd h h0
  · rw [e] at e'
    cases e'
    refine hk b hl fun e2 => ?_
    rcases hown.2 with ⟨rfl, _⟩ | ⟨g, cap, cur, rfl, hg, hc, _⟩
    · cases e2
    · cases e2
      rcases ht with ht | ⟨cur', ht⟩
      · exact absurd (Nat.lt_of_lt_of_le ht (Nat.le_trans hAB hg)) (Nat.lt_irrefl _)
      · rw [hc] at ht
        injection ht with ht
        injection ht with _ ht
        exact absurd ht (by decide)
/-- Runs behind a slice that are only read. -/
structure RunS (A : Nat) (w : World) (v : Value) (P : List Rv) : Prop where
  rows : SRows w 7 v (P.map pcs)
  mks : ∀ p ∈ P, MkO A w p.2 p.1.ms
/-- A row of runs of one's own. -/
structure OwnR (A B : Nat) (w : World) (v : Value) (P : List Rv) : Prop where
  row : w.ownsRow B 40 7 v P.length (P.map pcs).flatten
  mks : ∀ p ∈ P, MkO A w p.2 p.1.ms
theorem pcs_len (P : List Rv) : ∀ x ∈ P.map pcs, x.length = 7 := fun x hx => by
  obtain ⟨u, _, rfl⟩ := List.mem_map.1 hx
  rfl
theorem OwnR.nil (A B : Nat) (w : World) : OwnR A B w (.slice none 0 0) [] := ⟨⟨rfl, .inl ⟨rfl, rfl⟩⟩, fun _ h => absurd h List.not_mem_nil⟩
theorem OwnR.form {A B : Nat} {w : World} {v : Value} {P : List Rv} (h : OwnR A B w v P) : ∃ a c, v = .slice a P.length c ∧ P.length ≤ c := own_form h.row
theorem OwnR.read {A B : Nat} {w : World} {v : Value} {P : List Rv} (h : OwnR A B w v P) : RunS A w v P := by
  refine ⟨?_, h.mks⟩
  have h' : w.ownsRow B 40 7 v (P.map pcs).length (P.map pcs).flatten := by rw [List.length_map]; exact h.row
  exact SRows.of_own h' (pcs_len P) (by decide)
theorem RunS.below {A : Nat} {w w' : World} {v : Value} {P : List Rv} (h : RunS A w v P) (hb : Below w.heap.size w w') : RunS A w' v P := ⟨SRows.below h.rows hb (Nat.le_refl _), fun p hp => (h.mks p hp).below hb⟩
theorem OwnR.below {A B : Nat} {w w' : World} {v : Value} {P : List Rv} (h : OwnR A B w v P) (hb : Below w.heap.size w w') : OwnR A B w' v P := ⟨own_below h.row hb (Nat.le_refl _), fun p hp => (h.mks p hp).below hb⟩
theorem OwnR.low {A B B' : Nat} {w : World} {v : Value} {P : List Rv} (h : OwnR A B w v P) (hB : B' ≤ B) : OwnR A B' w v P := by
  refine ⟨⟨h.row.1, ?_⟩, h.mks⟩
  rcases h.row.2 with h | ⟨g, cap, cur, h1, h2, h3⟩
  · exact .inl h
  · exact .inr ⟨g, cap, cur, h1, Nat.le_trans hB h2, h3⟩
theorem RunS.at {A : Nat} {w : World} {a : Option Addr} {n c : Nat} {P : List Rv} (h : RunS A w (.slice a n c) P) {i : Nat} (hi : i < P.length) : ∃ b off, a = some ⟨b, off, none⟩ ∧ b < w.heap.size ∧ ∀ j u, (pcs P[i])[j]? = some u → w.cell? ⟨b, off + i * 7 + j, none⟩ = some u := by
  obtain ⟨b, off, h1, h2, h3⟩ := h.rows.at (i := i) (by rw [List.length_map]; exact hi)
  exact ⟨b, off, h1, h2, fun j u hu => h3 j u (by rw [List.getElem_map]; exact hu)⟩
theorem pcs_one {P : List Rv} {A : Nat} {w : World} (h : ∀ p ∈ P, MkO A w p.2 p.1.ms) : ∀ u ∈ (P.map pcs).flatten, u.oneCell' = true := fun u hu => by
  obtain ⟨l, hl, hu⟩ := List.mem_flatten.1 hu
  obtain ⟨p, hp, rfl⟩ := List.mem_map.1 hl
  obtain ⟨a, c, e⟩ := (h p hp).form
  unfold pcs rcs at hu
  rw [e] at hu
  simp only [List.mem_cons, List.not_mem_nil, or_false] at hu
  rcases hu with rfl | rfl | rfl | rfl | rfl | rfl | rfl <;> rfl
theorem Lst_appendV {rd : Option Nat} {n : Nat} {ops : Array Oper} {Q : Post} {rest : List Oper} {F : Fr} {ds : List Deferred} {w : World} {ty : TypeId} {pos : String} {after : Array Edge} {d A B : Nat} {s x : Operand} {v y : Value} {P K : List Rv}
    (hown : OwnR A B w v P) (hy : RunS A w y K) (hAB : A ≤ B) (hl : P.length + K.length ≤ 1000000) (hbase : B ≤ w.heap.size) (hs : ev F s = v) (hx : ev F x = y) (hd : Nat.blt d n = true)
    (h : ∀ v' w', OwnR A B w' v' (P ++ K) → Below B w w' → w.grownBy w' v.ownBlock → Lst Tryd.prog rd n ops Q rest (upd F d v') ds w') :
    Lst Tryd.prog rd n ops Q (⟨some d, .call { callee := .builtin .append, args := #[s, x], argTypes := #[22, 22] }, ty, pos, after, none⟩ :: rest) F ds w := by
  apply Lst_appendR (hown := hown.row) (hy := hy.rows) (hls := pcs_len K) (hone := pcs_one hy.mks) (bytes := 88)
  focus exact hs
  focus exact hx
  focus rfl
  focus rfl
  focus rfl
  focus rfl
  focus rfl
  focus rfl
  focus rfl
  focus (rw [List.length_map]; omega)
  focus (rw [List.length_map]; omega)
  focus exact hbase
  focus exact hd
  intro v' w' ho hg
  refine h v' w' ⟨?_, fun p hp => ?_⟩ (Below.own (Below.refl B w) hown.row hg (Nat.le_refl _) hbase) hg
  · rw [List.length_append, List.map_append, List.flatten_append]
    rw [List.length_map] at ho
    exact ho
  · refine MkO.row ?_ hown.row hAB hg.size hg.block
    rcases List.mem_append.1 hp with hp | hp
    · exact hown.mks p hp
    · exact hy.mks p hp
theorem mcs_ones (l : List Mk) : ∀ u ∈ (l.map mcs).flatten, u.oneCell' = true := fun u hu => by
  obtain ⟨l', hl, hu⟩ := List.mem_flatten.1 hu
  obtain ⟨q, _, rfl⟩ := List.mem_map.1 hl
  unfold mcs at hu
  simp only [List.mem_cons, List.not_mem_nil, or_false] at hu
  rcases hu with rfl | rfl | rfl | rfl | rfl <;> rfl
/-- A copy of marks. -/
theorem Lst_copyM {rd : Option Nat} {n : Nat} {ops : Array Oper} {Q : Post} {rest : List Oper} {F : Fr} {ds : List Deferred} {w : World} {ty : TypeId} {pos : String} {after : Array Edge} {d A : Nat} {s x : Operand} {mv : Value} {ms : List Mk}
    (hm : MkO A w mv ms) (hl : ms.length ≤ 1000000) (hs : ev F s = .slice none 0 0) (hx : ev F x = mv) (hd : Nat.blt d n = true)
    (h : ∀ v' w', OwnM w.heap.size w' v' ms → Below w.heap.size w w' → Lst Tryd.prog rd n ops Q rest (upd F d v') ds w') :
    Lst Tryd.prog rd n ops Q (⟨some d, .call { callee := .builtin .append, args := #[s, x], argTypes := #[38, 38] }, ty, pos, after, none⟩ :: rest) F ds w := by
  have hnil := World.ownsRow_nil w w.heap.size 37 5
  have go : SRows w 5 mv (ms.map mcs) → Lst Tryd.prog rd n ops Q (⟨some d, .call { callee := .builtin .append, args := #[s, x], argTypes := #[38, 38] }, ty, pos, after, none⟩ :: rest) F ds w := fun hy => by
    apply Lst_appendR (hown := hnil) (hy := hy) (hls := mcs_len ms) (hone := mcs_ones ms) (bytes := 56)
    focus exact hs
    focus exact hx
    focus rfl
    focus rfl
    focus rfl
    focus rfl
    focus rfl
    focus rfl
    focus rfl
    focus (rw [List.length_map]; omega)
    focus (rw [List.length_map]; omega)
    focus exact Nat.le_refl _
    focus exact hd
    intro v' w' ho hg
    refine h v' w' ?_ (Below.own (Below.refl w.heap.size w) hnil hg (Nat.le_refl _) (Nat.le_refl _))
    rw [List.length_map, Nat.zero_add, List.nil_append] at ho
    exact ho
  rcases hm with ⟨rfl, rfl | ⟨a, c, rfl⟩⟩ | ⟨_, hy, _⟩
  · exact go (SRows.nil _ _)
  · apply Lst_append0 (hown := hnil) (bytes := 56)
    focus exact hs
    focus exact hx
    focus rfl
    focus rfl
    focus rfl
    focus rfl
    focus rfl
    focus rfl
    focus rfl
    focus omega
    focus omega
    focus exact Nat.le_refl _
    focus exact hd
    intro v' w' ho hg
    exact h v' w' ho (Below.own (Below.refl w.heap.size w) hnil hg (Nat.le_refl _) (Nat.le_refl _))
  · exact go hy
theorem OwnM.mk {A B : Nat} {w : World} {v : Value} {ms : List Mk} (h : OwnM B w v ms) : MkO A w v ms := by
  obtain ⟨h1, h2⟩ := id h
  rcases h2 with ⟨rfl, h2⟩ | ⟨g, cap, cur, rfl, hg, hc, _⟩
  · exact .inl ⟨List.eq_nil_of_length_eq_zero h2, .inl rfl⟩
  · by_cases h0 : ms = []
    · subst h0
      exact .inl ⟨rfl, .inr ⟨_, _, rfl⟩⟩
    · have hlt : g < w.heap.size := by
        rcases Nat.lt_or_ge g w.heap.size with h | h
        · exact h
        · rw [Array.getElem?_eq_none h] at hc
          cases hc
      exact .inr ⟨h0, h.rows, g, 0, cap, rfl, hlt, .inr ⟨cur, hc⟩⟩
theorem one_run {w : World} {b A : Nat} {p : Rv} (h : Blk w b (pcs p) 40) (hm : MkO A w p.2 p.1.ms) : RunS A w (.slice (some ⟨b, 0, none⟩) 1 1) [p] := by
  refine ⟨SRows.of_own (base := 0) (e := 40) (nn := 1) ⟨rfl, .inr ⟨b, 1, (pcs p).toArray, rfl, Nat.zero_le _, ?_, Nat.le_refl _, by decide, rfl, rfl⟩⟩ (fun x hx => by rw [List.mem_singleton.1 hx]; rfl) (by decide), fun q hq => by rw [List.mem_singleton.1 hq]; exact hm⟩
  exact h
end Vw
end Go.Proofs.YtglfoofclicfpaaDoor
