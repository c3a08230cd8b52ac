/- A text in pieces, plainly. -/
import Derived.Test.YtifkedhbelflkaaDoorOqOpL
import Derived.Test.YtifkedhbelflkaaDoorOqOpM
namespace Go.Proofs.YtifkedhbelflkaaDoor
set_option maxRecDepth 100000
namespace Op
open Go Go.RowKit Sx Tl Val
open Utf (rs tl Tabs cutS)
/-- The pieces from a on, with these ends. -/
def pcz (o : Mo) : Nat → List Nat → List Mo
  | _, [] => []
  | a, b :: bs => cutO o a b :: pcz o b bs
def lastP : Nat → List Nat → Nat
  | a, [] => a
  | _, b :: bs => lastP b bs
def IncP (N : Nat) : Nat → List Nat → Prop
  | _, [] => True
  | a, b :: bs => a < b ∧ b ≤ N ∧ IncP N b bs
theorem pcz_len (o : Mo) : ∀ (a : Nat) (bs : List Nat), (pcz o a bs).length = bs.length
  | _, [] => rfl
  | _, b :: bs => congrArg (· + 1) (pcz_len o b bs)
theorem pcz_snoc (o : Mo) (c : Nat) : ∀ (a : Nat) (bs : List Nat), pcz o a (bs ++ [c]) = pcz o a bs ++ [cutO o (lastP a bs) c]
  | _, [] => rfl
  | a, b :: bs => congrArg (cutO o a b :: ·) (pcz_snoc o c b bs)
theorem last_snoc (c : Nat) : ∀ (a : Nat) (bs : List Nat), lastP a (bs ++ [c]) = c
  | _, [] => rfl
  | _, b :: bs => last_snoc c b bs
theorem inc_snoc {N c : Nat} (hc : c ≤ N) : ∀ {a : Nat} {bs : List Nat}, IncP N a bs → lastP a bs < c → IncP N a (bs ++ [c])
  | _, [], _, h => ⟨h, hc, trivial⟩
  | _, _ :: _, ⟨h1, h2, h3⟩, h => ⟨h1, h2, inc_snoc hc h3 h⟩
theorem last_le {N : Nat} : ∀ {a : Nat} {bs : List Nat}, IncP N a bs → a ≤ lastP a bs
  | _, [], _ => Nat.le_refl _
  | _, _ :: _, ⟨h1, _, h3⟩ => Nat.le_trans (Nat.le_of_lt h1) (last_le h3)
theorem pcz_chain {o : Mo} (h : OkT o) : ∀ {a : Nat} {bs : List Nat}, IncP (rs (tl o.tx)).length a bs → Chain (pcz o a bs)
  | _, [], _ => ⟨fun x hx => absurd hx List.not_mem_nil, fun i hi => absurd hi (by show ¬ i + 1 < 0; omega)⟩
  | a, b :: bs, ⟨h1, h2, h3⟩ => by
    have ih := pcz_chain h h3
    refine ⟨fun x hx => ?_, fun i hi => ?_⟩
    · rcases List.mem_cons.1 hx with rfl | hx
      · exact cut_ok h h1 h2
      · exact ih.ok x hx
    · cases i with
      | zero =>
        match bs, h3, hi with
        | [], _, hi => exact absurd hi (by show ¬ 0 + 1 < 1; omega)
        | c :: bs, ⟨h4, h5, _⟩, _ => exact fol_cut h h1 h4 h5
      | succ i => exact ih.fol i (Nat.lt_of_succ_lt_succ hi)
theorem take_drop_join {α : Type} (R : List α) {a b l : Nat} (hab : a ≤ b) (hbl : b ≤ l) (hb : b ≤ R.length) : (R.take b).drop a ++ (R.take l).drop b = (R.take l).drop a := by
  have e : (R.take l).take b = R.take b := by rw [List.take_take, Nat.min_eq_left hbl]
  conv => rhs; rw [← List.take_append_drop b (R.take l), e]
  rw [List.drop_append_of_le_length (by rw [List.length_take]; omega)]
theorem pcz_runes {o : Mo} : ∀ {a : Nat} {bs : List Nat}, IncP (rs (tl o.tx)).length a bs → runesS (pcz o a bs) = ((rs (tl o.tx)).take (lastP a bs)).drop a
  | a, [], _ => by
    show [] = ((rs (tl o.tx)).take a).drop a
    rw [List.drop_of_length_le (by rw [List.length_take]; omega)]
  | a, b :: bs, ⟨h1, h2, h3⟩ => by
    have ih := pcz_runes h3
    show rs (tl (cutO o a b).tx) ++ runesS (pcz o b bs) = _
    rw [ih]
    show rs (tl (cutS o.tx a b)) ++ _ = _
    rw [rs_cutN]
    exact take_drop_join _ (Nat.le_of_lt h1) (last_le h3) h2
theorem pcz_head {o : Mo} (h : OkT o) {b : Nat} : chunks (rs (tl o.tx)).length (cutO o 0 b) (rs (tl o.tx)) = [o] := by
  rw [chunks_one (fun e => by have := h.n1; rw [e] at this; exact absurd this (by decide)) h.n2, text_eq h.val]
  rfl
theorem pcz_cat {o : Mo} (h : OkT o) {bs : List Nat} (hi : IncP (rs (tl o.tx)).length 0 bs) (hl : lastP 0 bs = (rs (tl o.tx)).length) : catS (pcz o 0 bs) = o.tx ∧ runesS (pcz o 0 bs) = rs (tl o.tx) := by
  have hr : runesS (pcz o 0 bs) = rs (tl o.tx) := by rw [pcz_runes hi, hl, List.take_length, List.drop_zero]
  obtain ⟨h1, h2⟩ := cat_rs (pcz_chain h hi).ok
  exact ⟨by rw [← text_eq h1, h2, hr, text_eq h.val], hr⟩
theorem cut_size (s : ByteArray) (a b : Nat) : (cutS s (a : Int) (b : Int)).size ≤ 4 * (rs (tl s)).length := by
  have h1 := size_rn (Utf.rs_cut s (a : Int) (b : Int)).1
  have h2 : rn (cutS s (a : Int) (b : Int)) ≤ (rs (tl s)).length := by
    unfold rn
    rw [rs_cutN, List.length_drop, List.length_take]
    omega
  omega
theorem pcz_size {o : Mo} : ∀ {a : Nat} {bs : List Nat}, ∀ x ∈ pcz o a bs, x.tx.size ≤ 4 * (rs (tl o.tx)).length
  | _, [], x, hx => absurd hx List.not_mem_nil
  | a, b :: bs, x, hx => by
    rcases List.mem_cons.1 hx with rfl | hx
    · exact cut_size o.tx a b
    · exact pcz_size x hx
end Op
end Go.Proofs.YtifkedhbelflkaaDoor
