/- Slices of structs that are only read, and rows of structs of one's own. Over any program. -/
import Derived.Test.YtoljcnlmockpcaaSxMore
namespace Go.Proofs.Ytoljcnlmockpcaa
namespace Sx
open Go Go.RowKit
section loads
variable {P : Program} {rd : Option Nat} {n : Nat} {ops : Array Oper} {Q : Post} {rest : List Oper} {F : Fr} {ds : List Deferred} {w : World} {ty : TypeId} {pos : String} {after : Array Edge}
/-- A struct read whole, wherever it lies. -/
theorem Lst_loadS' {d b off : Nat} {x : Operand} {t : TypeId} {u : TypeDesc} {i : TypeInfo} {cs : List Value} (hx : ev F x = .pointer (some ⟨b, off, none⟩)) (ht : P.underlying t = some u) (hu : u.isRow = true) (hi : P.info? t = some i) (hs : i.size = cs.length) (hc : ∀ (j : Nat) (v : Value), cs[j]? = some v → w.cell? ⟨b, off + j, none⟩ = some v) (hd : Nat.blt d n = true)
    (h : Lst P rd n ops Q rest (upd F d (.agg cs.toArray)) ds w) : Lst P rd n ops Q (⟨some d, .load t x, ty, pos, after, none⟩ :: rest) F ds w :=
  Lst_value rfl (by
    have := run_loadAt_mid (P := P) w b off t cs u hc ht hu (by rw [hi]; simp [hs])
    simp [execOp, hx, this]) hd h
end loads
/-- A slice of structs that is only read: the cells of each. -/
def SRows (w : World) (sz : Nat) (v : Value) (ls : List (List Value)) : Prop :=
  ∃ b off cap, (v = .slice (some ⟨b, off, none⟩) ls.length cap ∨ (v = .slice none 0 0 ∧ ls = [])) ∧ ∀ i (h : i < ls.length), b < w.heap.size ∧ ∀ j u, (ls[i])[j]? = some u → w.cell? ⟨b, off + i * sz + j, none⟩ = some u
theorem SRows.form {w : World} {sz : Nat} {v : Value} {ls : List (List Value)} (h : SRows w sz v ls) : ∃ a c, v = .slice a ls.length c := by
  obtain ⟨b, off, cap, hf | ⟨hf, rfl⟩, _⟩ := h
  · exact ⟨_, _, hf⟩
  · exact ⟨_, _, hf⟩
theorem SRows.nil (w : World) (sz : Nat) : SRows w sz (.slice none 0 0) [] := ⟨0, 0, 0, .inr ⟨rfl, rfl⟩, fun _ h => absurd h (Nat.not_lt_zero _)⟩
theorem SRows.below {w w' : World} {sz : Nat} {v : Value} {ls : List (List Value)} {B : Nat} (h : SRows w sz v ls) (hb : Below B w w') (hB : w.heap.size ≤ B) : SRows w' sz v ls := by
  obtain ⟨b, off, cap, hf, hr⟩ := h
  refine ⟨b, off, cap, hf, fun i hi => ?_⟩
  obtain ⟨h1, h2⟩ := hr i hi
  refine ⟨Nat.lt_of_lt_of_le h1 hb.size, fun j u hu => ?_⟩
  exact (hb.cell (p := ⟨b, off + i * sz + j, none⟩) (by show b < B; omega)).trans (h2 j u hu)
theorem SRows.at {w : World} {sz nn : Nat} {a : Option Addr} {c : Nat} {ls : List (List Value)} (h : SRows w sz (.slice a nn c) ls) {i : Nat} (hi : i < ls.length) : ∃ b off, a = some ⟨b, off, none⟩ ∧ b < w.heap.size ∧ ∀ j u, (ls[i])[j]? = some u → w.cell? ⟨b, off + i * sz + j, none⟩ = some u := by
  obtain ⟨b, off, cap, hf | ⟨_, rfl⟩, hr⟩ := h
  · cases hf
    exact ⟨b, off, rfl, hr i hi⟩
  · exact absurd hi (Nat.not_lt_zero _)
theorem SRows.cons {w : World} {sz b off n c : Nat} {l : List Value} {ls : List (List Value)} (h : SRows w sz (.slice (some ⟨b, off, none⟩) (n + 1) c) (l :: ls)) : SRows w sz (.slice (some ⟨b, off + sz, none⟩) n (c - 1)) ls := by
  obtain ⟨b, off, cap, hf | ⟨hf, _⟩, hr⟩ := h
  · cases hf
    refine ⟨b, off + sz, _, .inl rfl, fun i hi => ?_⟩
    obtain ⟨h1, h2⟩ := hr (i + 1) (by simpa using hi)
    refine ⟨h1, fun j u hu => ?_⟩
    rw [show off + sz + i * sz + j = off + (i + 1) * sz + j by rw [Nat.succ_mul]; omega]
    exact h2 j u (by simpa using hu)
  · cases hf
theorem flat_get {sz : Nat} : ∀ (ls : List (List Value)) (i j : Nat) (hi : i < ls.length), (∀ l ∈ ls, l.length = sz) → j < sz → ls.flatten[i * sz + j]? = (ls[i])[j]?
  | l :: ls, 0, j, _, h, hj => by
    have := h l (by simp)
    rw [List.flatten_cons, Nat.zero_mul, Nat.zero_add, List.getElem?_append_left (by omega)]
    rfl
  | l :: ls, i + 1, j, hi, h, hj => by
    have hl := h l (by simp)
    rw [List.flatten_cons, Nat.succ_mul, List.getElem?_append_right (by omega), show i * sz + sz + j - l.length = i * sz + j by omega]
    exact flat_get ls i j (by simpa using hi) (fun l' h' => h l' (by simp [h'])) hj
theorem flat_len {sz : Nat} : ∀ (ls : List (List Value)), (∀ l ∈ ls, l.length = sz) → ls.flatten.length = ls.length * sz
  | [], _ => by simp
  | l :: ls, h => by
    rw [List.flatten_cons, List.length_append, flat_len ls fun l' h' => h l' (by simp [h']), h l (by simp), List.length_cons, Nat.succ_mul]
    omega
theorem SRows.of_own {w : World} {base e sz nn : Nat} {v : Value} {ls : List (List Value)} (h : w.ownsRow base e sz v nn ls.flatten) (hs : ∀ l ∈ ls, l.length = sz) (h1 : 1 ≤ sz) : SRows w sz v ls := by
  obtain ⟨hl, h⟩ := h
  rw [flat_len ls hs] at hl
  have hn : ls.length = nn := Nat.eq_of_mul_eq_mul_right (by omega) hl
  subst hn
  rcases h with ⟨rfl, hn⟩ | ⟨g, cap, cur, rfl, _, hg, _, _, hz, ht⟩
  · exact ⟨0, 0, 0, (.inr ⟨rfl, List.eq_nil_of_length_eq_zero hn⟩), fun i hi => by omega⟩
  · refine ⟨g, 0, cap, .inl rfl, fun i hi => ⟨(Array.getElem?_eq_some_iff.1 hg).1, fun j u hu => ?_⟩⟩
    have hj : j < sz := by
      have := (List.getElem?_eq_some_iff.1 hu).1
      rw [hs _ (List.getElem_mem hi)] at this
      exact this
    have hf := flat_get ls i j hi hs hj
    rw [hu, ← ht, List.getElem?_take_of_lt (by
      have : (i + 1) * sz ≤ ls.length * sz := Nat.mul_le_mul_right _ hi
      rw [Nat.succ_mul] at this
      omega)] at hf
    unfold World.cell?
    simp only [hg]
    rw [Nat.zero_add]
    simpa using hf
end Sx
end Go.Proofs.Ytoljcnlmockpcaa
