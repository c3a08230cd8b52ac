/- Names in a row at any place of a block: reading, cutting, adding. -/
import Derived.Test.YtfocnbmihcnaoaaGreatDoorWaD
import Derived.Test.YtfocnbmihcnaoaaGreatDoorSxIns
import Derived.ArgAppend
namespace Go.Proofs.YtfocnbmihcnaoaaGreatDoor
set_option maxRecDepth 100000
namespace Wa
open Go Go.RowKit Sx Wire
def AllS (cs : List Value) : Prop := ∀ u ∈ cs, ∃ s, u = .string s
/-- Names behind a slice of a block of names that is known whole. -/
def NmO (w : World) (v : Value) (L : List ByteArray) : Prop :=
  (v = .slice none 0 0 ∧ L = []) ∨ ∃ g off cap cs, v = .slice (some ⟨g, off, none⟩) L.length cap ∧ Blk w g cs 9 ∧ L.length ≤ cap ∧ cap ≤ maxLen ∧ off + cap ≤ cs.length ∧ (cs.drop off).take L.length = L.map .string ∧ AllS cs
theorem NmO.nil (w : World) : NmO w (.slice none 0 0) [] := .inl ⟨rfl, rfl⟩
theorem NmO.form {w : World} {v : Value} {L : List ByteArray} (h : NmO w v L) : ∃ a c, v = .slice a L.length c ∧ L.length ≤ c := by
  rcases h with ⟨rfl, rfl⟩ | ⟨g, off, cap, cs, rfl, _, h, _⟩
  · exact ⟨_, _, rfl, Nat.le_refl _⟩
  · exact ⟨_, _, rfl, h⟩
theorem NmO.lt {w : World} {v : Value} {L : List ByteArray} (h : NmO w v L) {k : Nat} (hk : v.ownBlock = some k) : k < w.heap.size := by
  rcases h with ⟨rfl, rfl⟩ | ⟨g, off, cap, cs, rfl, h, _⟩
  · cases hk
  · cases hk
    exact h.lt
theorem NmO.blk {w : World} {v : Value} {L : List ByteArray} (h : NmO w v L) {k : Nat} (hk : v.ownBlock = some k) : ∃ cs, Blk w k cs 9 ∧ AllS cs := by
  rcases h with ⟨rfl, rfl⟩ | ⟨g, off, cap, cs, rfl, h, _, _, _, _, h7⟩
  · cases hk
  · cases hk
    exact ⟨_, h, h7⟩
theorem NmO.keep {w w' : World} {v : Value} {L : List ByteArray} (h : NmO w v L) (hk : ∀ k, v.ownBlock = some k → w'.heap[k]? = w.heap[k]?) : NmO w' v L := by
  rcases h with h | ⟨g, off, cap, cs, rfl, h1, h2⟩
  · exact .inl h
  · exact .inr ⟨g, off, cap, cs, rfl, (hk g rfl).trans h1, h2⟩
theorem NmO.names {w : World} {v : Value} {L : List ByteArray} (h : NmO w v L) : NmS w v L := by
  unfold NmS
  rcases h with ⟨rfl, rfl⟩ | ⟨g, off, cap, cs, rfl, hb, h1, h2, h3, h4, h7⟩
  · exact SRows.nil _ _
  · refine ⟨g, off, cap, .inl (by rw [List.length_map]), fun i hi => ⟨hb.lt, fun j u hu => ?_⟩⟩
    rw [List.length_map] at hi
    rw [List.getElem_map] at hu
    match j, hu with
    | 0, hu =>
      cases hu
      rw [Nat.mul_one, Nat.add_zero, hb.cell]
      have e : ((cs.drop off).take L.length)[i]? = (L.map Value.string)[i]? := by rw [h4]
      rw [List.getElem?_take, if_pos hi, List.getElem?_drop, List.getElem?_map, List.getElem?_eq_getElem hi] at e
      exact e
theorem nm_new (w : World) (L : List ByteArray) (cap : Nat) (hL : L.length ≤ cap) (hc : cap ≤ maxLen) (z : Value) (hz : z.cells = #[.string ⟨#[]⟩]) (cells : Array Value) (he : cells = (L.map Value.string).toArray ++ Builtin.zeroCells z.cells (cap - L.length)) :
    NmO (w.drew.alloc (.cells cells 9)) (.slice (some ⟨w.heap.size, 0, none⟩) L.length cap) L := by
  have hzl : (Builtin.zeroCells z.cells (cap - L.length)).toList = List.replicate (cap - L.length) (Value.string ⟨#[]⟩) := by
    rw [hz]
    apply List.ext_getElem?
    intro j
    rw [List.getElem?_replicate]
    unfold Builtin.zeroCells
    rw [Array.getElem?_toList, Array.getElem?_map, Array.getElem?_range]
    have e1 : (#[Value.string ⟨#[]⟩] : Array Value).size = 1 := rfl
    rw [e1, Nat.mul_one]
    split
    · rw [Option.map_some, Nat.mod_one]
      rfl
    · rfl
  have hcl : cells.toList = L.map Value.string ++ List.replicate (cap - L.length) (Value.string ⟨#[]⟩) := by rw [he, Array.toList_append, hzl]
  refine .inr ⟨w.heap.size, 0, cap, cells.toList, rfl, ?_, hL, hc, ?_, ?_, ?_⟩
  · have := Blk.newE (w := w.drew) (b := w.heap.size) rfl cells.toList 9
    rw [Array.toArray_toList] at this
    exact this
  · rw [hcl, List.length_append, List.length_map, List.length_replicate]
    omega
  · rw [List.drop_zero, hcl, List.take_append_of_le_length (by rw [List.length_map]; exact Nat.le_refl _), List.take_of_length_le (by rw [List.length_map]; exact Nat.le_refl _)]
  · intro u hu
    rw [hcl] at hu
    rcases List.mem_append.1 hu with hu | hu
    · obtain ⟨s, _, rfl⟩ := List.mem_map.1 hu
      exact ⟨s, rfl⟩
    · exact ⟨_, List.eq_of_mem_replicate hu⟩
theorem add_plain (g off k : Nat) : (⟨g, off, none⟩ : Addr).add k = ⟨g, off + k, none⟩ := Lib.add_plain g off k
theorem NmO.tail {w : World} {a : Option Addr} {n c : Nat} {L : List ByteArray} (h : NmO w (.slice a n c) L) (hL : L ≠ []) : NmO w (sliced a 1 n c 1) L.tail ∧ (sliced a 1 n c 1).ownBlock = (Value.slice a n c).ownBlock := by
  rcases h with ⟨_, e⟩ | ⟨g, off, cap, cs, e, hb, h1, h2, h3, h4, h7⟩
  · exact absurd e hL
  · cases e
    obtain ⟨x, M, rfl⟩ : ∃ x M, L = x :: M := by
      cases L with
      | nil => exact absurd rfl hL
      | cons x M => exact ⟨x, M, rfl⟩
    rw [List.length_cons] at *
    have h5 : (cs.drop (off + 1)).take M.length = M.map .string := by
      have e := congrArg List.tail h4
      rw [List.map_cons, List.tail_cons] at e
      rw [← e, ← List.drop_one, List.drop_take, List.drop_drop]
      rfl
    by_cases hc : c = 1
    · subst hc
      have hM : M = [] := List.eq_nil_of_length_eq_zero (by omega)
      subst hM
      refine ⟨.inr ⟨g, off, 0, cs, rfl, hb, Nat.le_refl _, Nat.zero_le _, by omega, rfl, h7⟩, rfl⟩
    · have e : sliced (some ⟨g, off, none⟩) 1 (M.length + 1) c 1 = .slice (some ⟨g, off + 1, none⟩) M.length (c - 1) := by
        unfold sliced
        rw [if_neg hc, Option.map_some, add_plain]
        rfl
      rw [e]
      exact ⟨.inr ⟨g, off + 1, c - 1, cs, rfl, hb, by rw [List.tail_cons]; omega, by omega, by omega, h5, h7⟩, rfl⟩
theorem NmO.take {w : World} {a : Option Addr} {n c : Nat} {L : List ByteArray} (h : NmO w (.slice a n c) L) (k : Nat) (hk : k ≤ n) : NmO w (sliced a 0 k c 1) (L.take k) ∧ ∀ g, (sliced a 0 k c 1).ownBlock = some g → (Value.slice a n c).ownBlock = some g := by
  rcases h with ⟨e, rfl⟩ | ⟨g, off, cap, cs, e, hb, h1, h2, h3, h4, h7⟩
  · cases e
    obtain rfl : k = 0 := by omega
    exact ⟨.inl ⟨rfl, rfl⟩, fun g hg => by cases hg⟩
  · cases e
    have hl : (L.take k).length = k := by rw [List.length_take]; omega
    have e : sliced (some ⟨g, off, none⟩) 0 k c 1 = .slice (some ⟨g, off, none⟩) k c := by
      unfold sliced
      rw [Nat.zero_mul, Option.map_some, add_plain]
      split <;> rfl
    rw [e]
    refine ⟨.inr ⟨g, off, c, cs, by rw [hl], hb, by omega, h2, h3, ?_, h7⟩, fun g' hg => hg⟩
    rw [hl, List.map_take, ← h4, List.take_take, Nat.min_eq_left hk]
section rules
variable {P : Program} {rd : Option Nat} {n : Nat} {ops : Array Oper} {Q : Post} {rest : List Oper} {F : Fr} {ds : List Deferred} {w : World} {ty : TypeId} {pos : String} {after : Array Edge}
theorem Lst_pushO {d : Nat} {s x : Operand} {v : Value} {b c1 : Nat} {L : List ByteArray} {y : ByteArray} (h : NmO w v L) (hs : ev F s = v) (hx : ev F x = .slice (some ⟨b, 0, none⟩) 1 c1) (hy : w.cell? ⟨b, 0, none⟩ = some (.string y)) (hl : L.length ≤ 1000000) (hd : Nat.blt d n = true)
    (k : ∀ v' w', NmO w' v' (L ++ [y]) → w.grownBy w' v.ownBlock → (∀ g, v'.ownBlock = some g → v.ownBlock = some g ∨ w.heap.size ≤ g) → Lst Tryz.prog rd n ops Q rest (upd F d v') ds w') :
    Lst Tryz.prog rd n ops Q (⟨some d, .call { callee := .builtin .append, args := #[s, x], argTypes := #[51, 51] }, ty, pos, after, none⟩ :: rest) F ds w := by
  have ht : Tryz.prog.underlying 51 = some (.slice 9) := by rfl
  obtain ⟨i, z, hi, hz, hsz, hby, hzs⟩ : ∃ i z, Tryz.prog.info? 9 = some i ∧ i.zero = some z ∧ i.size = 1 ∧ i.bytes = 16 ∧ z.cells = #[.string ⟨#[]⟩] := ⟨_, _, rfl, rfl, rfl, rfl, rfl⟩
  have hnews : ∀ j u, [Value.string y][j]? = some u → w.cell? ((⟨b, 0, none⟩ : Addr).add j) = some u := fun j u hu => by
    match j, hu with
    | 0, hu =>
      cases hu
      rw [add_plain]
      exact hy
  have h1 : ∀ u ∈ [Value.string y], u.oneCell' = true := fun u hu => by rw [List.mem_singleton.1 hu]; rfl
  have fin : ∀ v' w', (Builtin.append_ #[51, 51] ty #[v, .slice (some ⟨b, 0, none⟩) 1 c1]).run Tryz.prog w = .ok v' w' → NmO w' v' (L ++ [y]) → w.grownBy w' v.ownBlock → (∀ g, v'.ownBlock = some g → v.ownBlock = some g ∨ w.heap.size ≤ g) → Lst Tryz.prog rd n ops Q (⟨some d, .call { callee := .builtin .append, args := #[s, x], argTypes := #[51, 51] }, ty, pos, after, none⟩ :: rest) F ds w := fun v' w' hrun hn hg hb =>
    Lst_value (v := v') (w' := w') rfl (by simp [execOp, resolve, invoke, builtin, hs, hx, hrun]) hd (k v' w' hn hg hb)
  rcases h with ⟨rfl, rfl⟩ | ⟨g, off, cap, cs, rfl, hb, h3, h4, h5, h6, h7⟩
  · have hrun := run_append_nil (P := Tryz.prog) w 51 ty 9 i z ht hi hz ⟨b, 0, none⟩ 1 c1 [.string y] (by rw [hsz]; rfl) hnews (by decide) (by decide) (by rw [hby]; decide)
    have hge := grownCap_ge w 1 0 9
    have hcm := grownCap_le_maxLen w 1 0 9 (by simp only [maxLen]; omega)
    exact fin _ _ hrun (nm_new w [y] _ hge hcm z hzs _ rfl) ⟨rfl, rfl, rfl, by simp, fun k hk _ => heap_alloc_old w.drew _ hk⟩ fun g hg => .inr (by cases hg; exact Nat.le_refl _)
  · by_cases hroom : L.length + 1 ≤ cap
    · have hbl := hb.lt
      have hrun := run_append_room_cells (P := Tryz.prog) w 51 ty 9 i ht hi g off L.length cap ⟨b, 0, none⟩ 1 c1 [.string y] (by rw [hsz]; rfl) hnews h1 hroom
        (fun j hj => by
          obtain rfl : j = 0 := by simpa using hj
          rw [hsz, hb.cell, List.getElem?_eq_getElem (by omega)]
          rfl) (fun j _ => hb.frozen _)
      rw [hsz, Nat.mul_one, setCells_blk [.string y] (off + L.length) cs w hb (by simp; omega), if_neg (by simp)] at hrun
      refine fin _ _ hrun (.inr ⟨g, off, cap, _, by rw [List.length_append, List.length_singleton], Blk.put_same hbl _ _, by rw [List.length_append, List.length_singleton]; exact hroom, h4, ?_, ?_, ?_⟩) ?_ fun g' hg' => .inl hg'
      · simp only [List.length_append, List.length_take, List.length_drop, List.length_singleton]
        omega
      · have e1 : (cs.take (off + L.length)).drop off = (cs.drop off).take L.length := by rw [List.drop_take]; congr 1; omega
        rw [List.append_assoc, List.drop_append_of_le_length (by rw [List.length_take]; omega), e1, h6, List.length_append, List.length_singleton, List.map_append]
        have hl2 : (L.map Value.string).length = L.length := List.length_map ..
        rw [← List.append_assoc, List.take_append_of_le_length (by simp), List.take_of_length_le (by simp)]
        rfl
      · intro u hu
        simp only [List.mem_append, List.mem_singleton] at hu
        rcases hu with (hu | hu) | hu
        · exact h7 u (List.mem_of_mem_take hu)
        · exact ⟨y, hu⟩
        · exact h7 u (List.mem_of_mem_drop hu)
      · exact ⟨rfl, rfl, rfl, by rw [World.putObj_size]; exact Nat.le_refl _, fun k _ hk => World.putObj_heap_other (fun e => hk (by rw [e]; rfl))⟩
    · have hold : ∀ j u, (L.map Value.string)[j]? = some u → w.cell? ((⟨g, off, none⟩ : Addr).add j) = some u := fun j u hu => by
        rw [add_plain, hb.cell]
        have hj : j < L.length := by
          have := (List.getElem?_eq_some_iff.1 hu).1
          simpa using this
        rw [← h6, List.getElem?_take, if_pos hj, List.getElem?_drop] at hu
        exact hu
      have hrun := run_append_grow (P := Tryz.prog) w 51 ty 9 i z ht hi hz ⟨g, off, none⟩ L.length cap (L.map .string) (by rw [hsz]; simp) hold ⟨b, 0, none⟩ 1 c1 [.string y] (by rw [hsz]; rfl) hnews (by omega) (by omega) (growslice_fits (by omega) (by rw [hby]; omega))
      have hge := grownCap_ge w (L.length + 1) cap 9
      have hcm := grownCap_le_maxLen w (L.length + 1) cap 9 (by simp only [maxLen]; omega)
      have hn := nm_new w (L ++ [y]) _ (by rw [List.length_append, List.length_singleton]; exact hge) hcm z hzs _ rfl
      rw [List.length_append, List.length_singleton] at hn
      refine fin _ _ hrun ?_ ⟨rfl, rfl, rfl, by simp, fun k hk _ => heap_alloc_old w.drew _ hk⟩ fun g' hg' => .inr (by cases hg'; exact Nat.le_refl _)
      have e : (L.map Value.string).toArray ++ [Value.string y].toArray = ((L ++ [y]).map Value.string).toArray := by simp
      rw [e]
      exact hn
end rules
end Wa
end Go.Proofs.YtfocnbmihcnaoaaGreatDoor
