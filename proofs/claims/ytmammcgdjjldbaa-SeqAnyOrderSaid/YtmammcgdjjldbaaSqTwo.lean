/- Two sequences at once; a unit between neighbours. -/
import Derived.Test.YtmammcgdjjldbaaSqRunsP
import Derived.Test.YtmammcgdjjldbaaSxF
import Derived.Test.YtmammcgdjjldbaaPlace
namespace Go.Proofs.Ytmammcgdjjldbaa
set_option maxRecDepth 100000
namespace Sq
open Go Go.RowKit Sx Tl
theorem take_put {us : List Un} {k : Nat} (hk : k < us.length) (h : Fo.okL .nil us) : Fo.may (Fo.putL .nil (us.take k)) us[k] = true ∧ (Fo.insert (Fo.putL .nil (us.take k)) us[k]).1 = Fo.putL .nil (us.take (k + 1)) := by
  have key : ∀ (us : List Un) (t : Fo) (k : Nat) (hk : k < us.length), Fo.okL t us → Fo.may (Fo.putL t (us.take k)) us[k] = true := by
    intro us
    induction us with
    | nil => intro t k hk; exact absurd hk (Nat.not_lt_zero _)
    | cons u us ih =>
      intro t k hk h
      cases k with
      | zero => exact h.1
      | succ k => exact ih (Fo.put t u) k (Nat.lt_of_succ_lt_succ hk) h.2
  have h1 := key us .nil k hk h
  refine ⟨h1, ?_⟩
  unfold Fo.insert
  rw [h1, List.take_succ_eq_append_getElem hk, Fo.putL_snoc]
  rfl
theorem take_ok {us : List Un} : ∀ (k : Nat) {t : Fo}, Fo.okL t us → Fo.okL t (us.take k) := by
  induction us with
  | nil => intro k t _; rw [List.take_nil]; trivial
  | cons u us ih =>
    intro k t h
    cases k with
    | zero => trivial
    | succ k => exact ⟨h.1, ih k h.2⟩
theorem unit_at {w : World} {v1 : Option Addr} {n c : Nat} {us : List Un} (h : SRows w 6 (.slice v1 n c) (us.map ucs)) {k : Nat} (hk : k < us.length) : ∃ g off, v1 = some ⟨g, off, none⟩ ∧ ∀ A, Grown w A → ∀ j u, (ucs us[k])[j]? = some u → A.cell? ⟨g, off + k * 6 + j, none⟩ = some u := by
  obtain ⟨b, off, rfl, _, hc⟩ := h.at (i := k) (by rw [List.length_map]; exact hk)
  refine ⟨b, off, rfl, fun A hA j u hu => cell_below hA (hc j u ?_)⟩
  rw [List.getElem_map]
  exact hu
theorem P_idxm {P : Program} {G : Fr} {ty t e b o len c j : Nat} {x y : Operand} {k : IntKind} {i : TypeInfo} {sz : Nat} (hx : ev G x = .slice (some ⟨b, o, none⟩) len c) (hq : ev G y = .int k (j : Int)) (ht : P.underlying t = some (.slice e)) (hi : P.info? e = some i) (hs : i.size = sz) (h1 : j < len) : Pu P G (.indexAddr t x y) ty (.pointer (some ⟨b, o + j * sz, none⟩)) := by
  have := P_idx (ty := ty) hx hq ht hi hs (by omega) (by omega)
  simpa using this
theorem nil_sz : Fo.nil.sz = 0 := rfl
/-- Two sequences that have nothing of one another. -/
structure Two (w0 A : World) (pa : Nat) (Fa : Nat → Prop) (ta : Fo) (pb : Nat) (Fb : Nat → Prop) (tb : Fo) : Prop where
  sa : SqAt A pa Fa ta
  sb : SqAt A pb Fb tb
  dis : ∀ g, Fa g → ¬ Fb g
  la : ∀ g, Fa g → w0.heap.size ≤ g
  lb : ∀ g, Fb g → w0.heap.size ≤ g
  bel : Below w0.heap.size w0 A
variable {w0 A A' : World} {pa pb : Nat} {Fa Fb F' : Nat → Prop} {ta tb t' : Fo}
theorem Two.a (h : Two w0 A pa Fa ta pb Fb tb) (hS : SqAt A' pa F' t') (hT : Turn Fa F' A A') : Two w0 A' pa F' t' pb Fb tb := by
  have h1 := hT.low h.la h.bel.size
  exact ⟨hS, h.sb.other hT fun g hg hf => h.dis g hf hg, fun g hg hb => h.dis g ((hT.own g (h.sb.lt hb)).1 hg) hb, h1.1, h.lb, h.bel.trans h1.2⟩
theorem Two.b (h : Two w0 A pa Fa ta pb Fb tb) (hS : SqAt A' pb F' t') (hT : Turn Fb F' A A') : Two w0 A' pa Fa ta pb F' t' := by
  have h1 := hT.low h.lb h.bel.size
  exact ⟨h.sa.other hT h.dis, hS, fun g hg hb => h.dis g hg ((hT.own g (h.sa.lt hg)).1 hb), h.la, h1.1, h.bel.trans h1.2⟩
theorem Two.grown (h : Two w0 A pa Fa ta pb Fb tb) (hb : Below A.heap.size A A') : Two w0 A' pa Fa ta pb Fb tb :=
  ⟨h.sa.below hb, h.sb.below hb, h.dis, h.la, h.lb, h.bel.trans (hb.mono h.bel.size)⟩
theorem Two.put {b : Nat} (h : Two w0 A pa Fa ta pb Fb tb) (ha : ¬ Fa b) (hb : ¬ Fb b) (hw : w0.heap.size ≤ b) (o : Obj) : Two w0 (A.putObj b o) pa Fa ta pb Fb tb :=
  ⟨h.sa.kept rfl rfl rfl (by rw [World.putObj_size]; exact Nat.le_refl _) fun g hg => World.putObj_heap_other fun e => ha (e ▸ hg), h.sb.kept rfl rfl rfl (by rw [World.putObj_size]; exact Nat.le_refl _) fun g hg => World.putObj_heap_other fun e => hb (e ▸ hg), h.dis, h.la, h.lb, Sx.Below.put h.bel hw _⟩
/-- The site between neighbours. -/
theorem site_of {t : Fo} {u : Un} {n m : Nat} (hg : Fo.Good t) (hF : ∃ ρ, Fo.Fits ρ none t) (hn : n ≤ t.sz) (hl : u.l = if n = 0 then (0, 0) else (t.flat.getD (n - 1) default).id) (hr : u.r = if n = t.sz then (0, 0) else (t.flat.getD n default).id)
    (hf : ∀ i, i < m → (u.id.1, u.id.2 + i) ∉ t.ids) (hu : 1 ≤ u.id.1 ∧ u.id.1 ≤ 9007199254740991 ∧ 1 ≤ u.id.2 ∧ u.id.2 + m ≤ 9007199254740992) : Site t u (t.flat.take n) (t.flat.drop n) m := by
  have hsz : t.flat.length = t.sz := rfl
  refine ⟨hg, hF, (List.take_append_drop n t.flat).symm, ?_, ?_, hf, hu⟩
  · by_cases h0 : n = 0
    · rw [if_pos h0] at hl
      exact .inl ⟨hl, by rw [h0]; rfl⟩
    · rw [if_neg h0] at hl
      have h1 : n - 1 < t.flat.length := by omega
      refine .inr ⟨t.flat.take (n - 1), t.flat[n - 1], ?_, ?_⟩
      · rw [← List.take_succ_eq_append_getElem h1, Nat.sub_add_cancel (by omega)]
      · rw [hl, List.getD_eq_getElem?_getD, List.getElem?_eq_getElem h1]
        rfl
  · by_cases h0 : n = t.sz
    · rw [if_pos h0] at hr
      exact .inl ⟨hr, by rw [h0, ← hsz, List.drop_length]⟩
    · rw [if_neg h0] at hr
      have h1 : n < t.flat.length := by omega
      refine .inr ⟨t.flat[n], t.flat.drop (n + 1), ?_, ?_⟩
      · rw [List.getElem_cons_drop]
      · rw [hr, List.getD_eq_getElem?_getD, List.getElem?_eq_getElem h1]
        rfl
end Sq
end Go.Proofs.Ytmammcgdjjldbaa
