/- Texts of one writer that go on, one behind the other, plainly. -/
import Derived.Test.YtifkedhbelflkaaGreatDoorOrOpL
namespace Go.Proofs.YtifkedhbelflkaaGreatDoor
set_option maxRecDepth 100000
namespace Op
open Go Go.RowKit Sx Tl Val
open Utf (rs tl Tabs cutS)
/-- How many runes. -/
def rn (t : ByteArray) : Nat := (rs (tl t)).length
/-- The piece at place p with the text t, of the writer 7, whose row begins with clock 1. -/
def pc (p : Nat) (t : ByteArray) : Mo := tc (7, 1 + p) (if p = 0 then none' else (7, p)) none' t
/-- Pieces in a row, from place p on. -/
def seg : Nat → List ByteArray → List Mo
  | _, [] => []
  | p, t :: ts => pc p t :: seg (p + rn t) ts
/-- How many runes they have. -/
def tot (ts : List ByteArray) : Nat := (ts.map rn).sum
/-- All their runes. -/
def runesT (ts : List ByteArray) : List Int := ts.flatMap fun t => rs (tl t)
/-- Runes as texts of 4096 at most. -/
def cuts : Nat → List Int → List ByteArray
  | 0, _ => []
  | f + 1, r => if r = [] then [] else runesBytes (r.take 4096) :: cuts f (r.drop 4096)
theorem seg_len : ∀ (p : Nat) (ts : List ByteArray), (seg p ts).length = ts.length
  | _, [] => rfl
  | p, t :: ts => by
    show (seg (p + rn t) ts).length + 1 = _
    rw [seg_len]
    rfl
theorem tot_cons (t : ByteArray) (ts : List ByteArray) : tot (t :: ts) = rn t + tot ts := by unfold tot; rw [List.map_cons, List.sum_cons]
theorem tot_len (ts : List ByteArray) : (runesT ts).length = tot ts := by
  unfold runesT tot
  rw [List.length_flatMap]
  rfl
theorem seg_append : ∀ (p : Nat) (ts us : List ByteArray), seg p (ts ++ us) = seg p ts ++ seg (p + tot ts) us
  | p, [], us => rfl
  | p, t :: ts, us => by
    show pc p t :: seg (p + rn t) (ts ++ us) = pc p t :: (seg (p + rn t) ts ++ seg (p + tot (t :: ts)) us)
    rw [seg_append, tot_cons, Nat.add_assoc]
theorem runesT_append (ts us : List ByteArray) : runesT (ts ++ us) = runesT ts ++ runesT us := List.flatMap_append
theorem runesS_seg : ∀ (p : Nat) (ts : List ByteArray), runesS (seg p ts) = runesT ts
  | _, [] => rfl
  | p, t :: ts => by
    show rs (tl (pc p t).tx) ++ runesS (seg (p + rn t) ts) = rs (tl t) ++ runesT ts
    rw [runesS_seg]
    rfl
theorem seg_tx : ∀ (p : Nat) (ts : List ByteArray), (seg p ts).map Mo.tx = ts
  | _, [] => rfl
  | p, t :: ts => by
    show t :: (seg (p + rn t) ts).map Mo.tx = t :: ts
    rw [seg_tx]
theorem seg_get : ∀ (p : Nat) (ts : List ByteArray) (i : Nat) (h : i < ts.length), (seg p ts)[i]'(by rw [seg_len]; exact h) = pc (p + tot (ts.take i)) ts[i]
  | _, [], i, h => absurd h (Nat.not_lt_zero _)
  | p, t :: ts, 0, _ => rfl
  | p, t :: ts, i + 1, h => by
    show (seg (p + rn t) ts)[i]'(by rw [seg_len]; exact Nat.lt_of_succ_lt_succ h) = pc (p + tot (t :: ts.take i)) (ts[i]'(Nat.lt_of_succ_lt_succ h))
    rw [seg_get (p + rn t) ts i (Nat.lt_of_succ_lt_succ h), tot_cons, Nat.add_assoc]
/-- A text that may be a piece. -/
structure Tx (t : ByteArray) : Prop where
  val : Lib.validD (tl t) = true
  n1 : 1 ≤ rn t
  n2 : rn t ≤ 4096
theorem pc_ok {p : Nat} {t : ByteArray} (h : Tx t) (hp : p + rn t ≤ 9007199254740991) : OkT (pc p t) := by
  have h1 := h.n1
  refine ⟨rfl, right_of ⟨by decide, by decide⟩ ⟨by omega, by omega⟩, ?_, rfl, h.val, h.n1, h.n2, ?_, rfl, rfl, rfl, rfl, rfl, rfl, ?_, ?_⟩
  · show nm (if p = 0 then none' else (7, p)) = true
    split
    · rfl
    · exact nm_right (right_of ⟨by decide, by decide⟩ ⟨by omega, by omega⟩)
  · show 1 + p + rn t ≤ 9007199254740992
    omega
  · show ¬ ((if p = 0 then none' else (7, p)).1 = 7 ∧ 1 + p ≤ (if p = 0 then none' else (7, p)).2 ∧ (if p = 0 then none' else (7, p)).2 < 1 + p + rn t)
    split
    · unfold none'
      dsimp only
      omega
    · dsimp only
      omega
  · show ¬ ((none' : Id).1 = 7 ∧ 1 + p ≤ (none' : Id).2 ∧ (none' : Id).2 < 1 + p + rn t)
    unfold none'
    dsimp only
    omega
theorem fol_pc (p : Nat) (s t : ByteArray) (h : 1 ≤ p + rn s) : folO (pc p s) (pc (p + rn s) t) = true := by
  have h1 : len (pc p s) = rn s := by unfold len; rw [if_pos (show (pc p s).k = 1 from rfl)]; rfl
  unfold folO
  rw [h1]
  have e1 : (pc p s).id = (7, 1 + p) := rfl
  have e2 : (pc (p + rn s) t).id = (7, 1 + (p + rn s)) := rfl
  have e3 : (pc (p + rn s) t).l = (7, p + rn s) := if_neg (by omega)
  rw [e1, e2, e3, decide_eq_true (show (pc p s).k = 1 from rfl), decide_eq_true (show (pc (p + rn s) t).k = 1 from rfl), decide_eq_true (show ((7, 1 + p) : Id).1 = ((7, 1 + (p + rn s)) : Id).1 from rfl), decide_eq_true (show ((7, 1 + (p + rn s)) : Id).2 = ((7, 1 + p) : Id).2 + rn s by dsimp only; omega), decide_eq_true (show ((7, p + rn s) : Id) = (((7, 1 + p) : Id).1, ((7, 1 + p) : Id).2 + rn s - 1) from Prod.ext rfl (by dsimp only; omega)), decide_eq_true (show (pc p s).r = (pc (p + rn s) t).r from rfl)]
  rfl
theorem tot_take_succ (ts : List ByteArray) (i : Nat) (h : i < ts.length) : tot (ts.take (i + 1)) = tot (ts.take i) + rn ts[i] := by
  unfold tot
  rw [List.take_succ_eq_append_getElem h, List.map_append, List.sum_append, List.map_cons, List.map_nil, List.sum_cons, List.sum_nil, Nat.add_zero]
theorem tot_take_le (ts : List ByteArray) (i : Nat) : tot (ts.take i) ≤ tot ts := by
  have h : tot ts = tot (ts.take i) + tot (ts.drop i) := by
    unfold tot
    conv => lhs; rw [← List.take_append_drop i ts]
    rw [List.map_append, List.sum_append]
  omega
theorem seg_chain {p : Nat} {ts : List ByteArray} (ht : ∀ t ∈ ts, Tx t) (hp : p + tot ts ≤ 9007199254740991) : Chain (seg p ts) := by
  have hg : ∀ i (h : i < (seg p ts).length), (seg p ts)[i] = pc (p + tot (ts.take i)) (ts[i]'(by rw [seg_len] at h; exact h)) := fun i h => seg_get p ts i (by rw [seg_len] at h; exact h)
  have hs : ∀ i (h : i < ts.length), p + tot (ts.take i) + rn ts[i] ≤ 9007199254740991 := fun i h => by
    have h1 := tot_take_succ ts i h
    have h2 := tot_take_le ts (i + 1)
    omega
  refine ⟨fun o ho => ?_, fun i hi => ?_⟩
  · obtain ⟨i, hi, rfl⟩ := List.mem_iff_getElem.1 ho
    have hi' := hi
    rw [seg_len] at hi'
    rw [hg]
    exact pc_ok (ht _ (List.getElem_mem hi')) (hs i hi')
  · have hi' := hi
    rw [seg_len] at hi'
    rw [hg, hg, tot_take_succ ts i (by omega), ← Nat.add_assoc]
    exact fol_pc _ _ _ (by have := (ht _ (List.getElem_mem (show i < ts.length by omega))).n1; omega)
theorem cuts_nil (f : Nat) : cuts f [] = [] := by
  cases f with
  | zero => rfl
  | succ f => unfold cuts; rw [if_pos rfl]
theorem rs_bytes {r : List Int} (hg : ∀ x ∈ r, Utf.good x) : rs (tl (runesBytes r)) = r := by
  show (Utf.runesL (runesBytes r).data.toList).getD [] = r
  rw [Utf.runesBytes_eq _ hg, Utf.rs_enc _ hg, Option.getD_some]
theorem rn_take {r : List Int} (hg : ∀ x ∈ r, Utf.good x) : rn (runesBytes (r.take 4096)) = min 4096 r.length := by
  unfold rn
  rw [rs_bytes fun x hx => hg x (List.mem_of_mem_take hx), List.length_take]
theorem rs_take {r : List Int} (hg : ∀ x ∈ r, Utf.good x) : rs (tl (runesBytes (r.take 4096))) = r.take 4096 := rs_bytes fun x hx => hg x (List.mem_of_mem_take hx)
theorem chunks_seg : ∀ (f : Nat) (p : Nat) (t : ByteArray) (r : List Int), (∀ x ∈ r, Utf.good x) → chunks f (pc p t) r = seg p (cuts f r)
  | 0, _, _, _, _ => rfl
  | f + 1, p, t, r, hg => by
    unfold chunks cuts
    by_cases h : r = []
    · rw [if_pos h, if_pos h]
      rfl
    rw [if_neg h, if_neg h]
    show _ = pc p (runesBytes (r.take 4096)) :: seg (p + rn (runesBytes (r.take 4096))) (cuts f (r.drop 4096))
    congr 1
    have hp : 0 < r.length := List.length_pos_iff.2 h
    have e : ({ pc p t with id := ((pc p t).id.1, (pc p t).id.2 + min r.length 4096), l := ((pc p t).id.1, (pc p t).id.2 + min r.length 4096 - 1), tx := runesBytes (r.take 4096) } : Mo) = pc (p + rn (runesBytes (r.take 4096))) (runesBytes (r.take 4096)) := by
      unfold pc tc
      rw [rn_take hg, if_neg (show ¬ p + min 4096 r.length = 0 by omega), show 1 + (p + min 4096 r.length) = 1 + p + min r.length 4096 by omega, show (p + min 4096 r.length) = 1 + p + min r.length 4096 - 1 by omega]
    rw [e]
    exact chunks_seg f _ _ _ fun x hx => hg x (List.mem_of_mem_drop hx)
theorem cuts_runes : ∀ (f : Nat) (r : List Int), r.length ≤ f → (∀ x ∈ r, Utf.good x) → runesT (cuts f r) = r
  | 0, r, h, _ => by rw [List.eq_nil_of_length_eq_zero (Nat.le_zero.1 h)]; rfl
  | f + 1, r, h, hg => by
    unfold cuts
    by_cases h0 : r = []
    · rw [if_pos h0, h0]; rfl
    rw [if_neg h0]
    show rs (tl (runesBytes (r.take 4096))) ++ runesT (cuts f (r.drop 4096)) = r
    have hp : 0 < r.length := List.length_pos_iff.2 h0
    rw [rs_take hg, cuts_runes f _ (by rw [List.length_drop]; omega) fun x hx => hg x (List.mem_of_mem_drop hx), List.take_append_drop]
theorem tx_bytes {r : List Int} (hg : ∀ x ∈ r, Utf.good x) (h1 : 1 ≤ r.length) (h2 : r.length ≤ 4096) : Tx (runesBytes r) := by
  have h : rs (tl (runesBytes r)) = r := rs_bytes hg
  refine ⟨?_, by unfold rn; rw [h]; exact h1, by unfold rn; rw [h]; exact h2⟩
  cases hv : Lib.validD (tl (runesBytes r)) with
  | true => rfl
  | false =>
    rw [Utf.rs_none hv] at h
    rw [← h] at h1
    exact absurd h1 (by decide)
theorem cuts_tx : ∀ (f : Nat) (r : List Int), (∀ x ∈ r, Utf.good x) → ∀ t ∈ cuts f r, Tx t
  | 0, _, _, t, ht => absurd ht (by unfold cuts; exact List.not_mem_nil)
  | f + 1, r, hg, t, ht => by
    unfold cuts at ht
    by_cases h0 : r = []
    · rw [if_pos h0] at ht
      exact absurd ht List.not_mem_nil
    rw [if_neg h0] at ht
    have hp : 0 < r.length := List.length_pos_iff.2 h0
    rcases List.mem_cons.1 ht with rfl | ht
    · exact tx_bytes (fun x hx => hg x (List.mem_of_mem_take hx)) (by rw [List.length_take]; omega) (by rw [List.length_take]; omega)
    · exact cuts_tx f _ (fun x hx => hg x (List.mem_of_mem_drop hx)) t ht
theorem cuts_len : ∀ (f : Nat) (r : List Int), r.length ≤ f → (cuts f r).length = (r.length + 4095) / 4096
  | 0, r, h => by rw [Nat.le_zero.1 h]; rfl
  | f + 1, r, h => by
    unfold cuts
    by_cases h0 : r = []
    · rw [if_pos h0, h0]; rfl
    rw [if_neg h0]
    have hp : 0 < r.length := List.length_pos_iff.2 h0
    rw [List.length_cons, cuts_len f _ (by rw [List.length_drop]; omega), List.length_drop]
    omega
theorem cuts_get : ∀ (f : Nat) (r : List Int) (i : Nat) (h : i < (cuts f r).length), (cuts f r)[i] = runesBytes ((r.drop (4096 * i)).take 4096)
  | 0, _, _, h => absurd h (Nat.not_lt_zero _)
  | f + 1, r, i, h => by
    by_cases h0 : r = []
    · exact absurd h (by rw [h0, cuts_nil]; exact Nat.not_lt_zero _)
    have e : cuts (f + 1) r = runesBytes (r.take 4096) :: cuts f (r.drop 4096) := by
      conv => lhs; unfold cuts
      rw [if_neg h0]
    have h' := h
    rw [e] at h'
    have e2 : (cuts (f + 1) r)[i] = (runesBytes (r.take 4096) :: cuts f (r.drop 4096))[i] := by congr 1
    rw [e2]
    cases i with
    | zero => rfl
    | succ i =>
      rw [List.getElem_cons_succ, cuts_get f (r.drop 4096) i (Nat.lt_of_succ_lt_succ h'), List.drop_drop]
      congr 3
      omega
theorem cuts_tot {r : List Int} (hg : ∀ x ∈ r, Utf.good x) : ∀ i, i ≤ (cuts r.length r).length → tot ((cuts r.length r).take i) = min (4096 * i) r.length
  | 0, _ => by
    show 0 = _
    omega
  | i + 1, h => by
    have hl := cuts_len r.length r (Nat.le_refl _)
    rw [tot_take_succ _ i h, cuts_tot hg i (by omega), cuts_get, rn_take fun x hx => hg x (List.mem_of_mem_drop hx), List.length_drop]
    omega
/-- Bytes below 128 are runes, each one. -/
theorem asc_rs : ∀ l : List UInt8, (∀ b ∈ l, b.toNat < 128) → Lib.validD l = true ∧ (rs l).length = l.length
  | [], _ => ⟨rfl, rfl⟩
  | b :: l, h => by
    obtain ⟨h1, h2⟩ := asc_rs l fun x hx => h x (List.mem_cons_of_mem _ hx)
    have v1 : Lib.validD [b] = true := by rw [Lib.validD_cons b [] (h b List.mem_cons_self)]; rfl
    have e1 : (rs [b]).length = 1 := by
      have hs := Utf.isSome_eq [b]
      rw [v1, Utf.runesL_step [b] (List.cons_ne_nil _ _)] at hs
      have hle := Utf.rs_length [b]
      have hne : rs [b] ≠ [] := by
        unfold rs
        rw [Utf.runesL_step [b] (List.cons_ne_nil _ _)]
        intro e
        split at hs
        · cases hs
        · rename_i hb
          rw [if_neg hb] at e
          cases hr : Utf.runesL (List.drop (Lib.decodeL [b]).2 [b]) with
          | none => rw [hr] at hs; cases hs
          | some z => rw [hr] at e; cases e
      have := List.length_pos_iff.2 hne
      exact Nat.le_antisymm hle this
    obtain ⟨h3, h4⟩ := Utf.rs_append v1 h1
    exact ⟨h3, by show (rs ([b] ++ l)).length = _; rw [h4, List.length_append, e1, h2, List.length_cons]; omega⟩
theorem tot_rep (n : Nat) (T : ByteArray) : tot (List.replicate n T) = n * rn T := by
  unfold tot
  rw [List.map_replicate, List.sum_replicate_nat]
end Op
end Go.Proofs.YtifkedhbelflkaaGreatDoor
