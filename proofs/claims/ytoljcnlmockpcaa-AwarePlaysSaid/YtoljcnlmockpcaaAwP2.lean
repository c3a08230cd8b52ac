/- Plain: what was written is read back; what is taken of one entry. -/
import Derived.Test.YtoljcnlmockpcaaAw7
namespace Go.Proofs.Ytoljcnlmockpcaa
set_option maxRecDepth 100000
namespace Aw
open Go Go.RowKit Sx Wire
/-- Entries that may be told, above a client. -/
def Pr.Ok (p : Pr) : Prop := p.c ≤ 9007199254740991 ∧ 0 < p.k ∧ p.k ≤ 9007199254740991 ∧ p.s.size ≤ 256 ∧ (p.g = true → p.s = ⟨#[]⟩)
def Oks : Nat → List Pr → Prop
  | _, [] => True
  | last, p :: l => last < p.c ∧ p.Ok ∧ Oks p.c l
theorem Pr.Ok.fit {p : Pr} (h : p.Ok) : p.Fit := ⟨by have := h.1; omega, by have := h.2.2.1; omega, by have := h.2.2.2.1; omega⟩
theorem Oks.all : ∀ {last : Nat} {l : List Pr}, Oks last l → ∀ p ∈ l, p.Ok
  | _, [], _, p, hp => by cases hp
  | _, q :: l, h, p, hp => by
    rcases List.mem_cons.1 hp with rfl | hp
    · exact h.2.1
    · exact Oks.all h.2.2 p hp
theorem mByte_cons (x : UInt8) (l : List UInt8) : mByte (some (x :: l)) = (x.toNat, some l) := rfl
theorem toArr (s : ByteArray) : (⟨s.data.toList.toArray⟩ : ByteArray) = s := by cases s; simp
theorem rdP_wr (last : Nat) (p : Pr) (more : List UInt8) (h : last < p.c) (hp : p.Ok) : rdP last (some (wrP p ++ more)) = some (p, some more) := by
  obtain ⟨h1, h2, h3, h4, h5⟩ := hp
  have e1 : wrP p ++ more = Lib.uvarint p.c ++ (Lib.uvarint p.k ++ ((if p.g then 1 else 0) :: (Lib.uvarint p.s.size ++ p.s.data.toList ++ more))) := by
    unfold wrP
    simp only [List.append_assoc, List.cons_append]
  have c1 := mUint_uvarint 9007199254740991 p.c (Lib.uvarint p.k ++ ((if p.g then 1 else 0) :: (Lib.uvarint p.s.size ++ p.s.data.toList ++ more))) h1 (by omega)
  have c2 := mUint_uvarint 9007199254740991 p.k ((if p.g then 1 else 0) :: (Lib.uvarint p.s.size ++ p.s.data.toList ++ more)) h3 (by omega)
  have c3 := mByte_cons (if p.g then 1 else 0) (Lib.uvarint p.s.size ++ p.s.data.toList ++ more)
  have hsz : p.s.data.toList.length = p.s.size := by rw [Array.length_toList]; rfl
  have c4 := mText_uvarint 256 p.s.data.toList more (by omega) (by omega)
  rw [hsz] at c4
  unfold rdP
  rw [e1]
  simp only [c1, c2, c3, c4]
  obtain ⟨c, k, s, g⟩ := p
  have h' : last < c := h
  have h2' : 0 < k := h2
  cases g with
  | false =>
    rw [if_neg (by simp; omega), if_neg (by simp)]
    simp only [toArr]
    rfl
  | true =>
    have hs : s = ⟨#[]⟩ := h5 rfl
    subst hs
    rw [if_neg (by simp; omega), if_neg (by simp)]
    rfl
theorem rdN_wr : ∀ (l : List Pr) (last : Nat) (more : List UInt8), Oks last l → rdN l.length last (some (wrs l ++ more)) = some (l, some more)
  | [], _, _, _ => rfl
  | p :: l, last, more, h => by
    have e : wrs (p :: l) ++ more = wrP p ++ (wrs l ++ more) := by show wrP p ++ wrs l ++ more = _; rw [List.append_assoc]
    show (match rdP last (some (wrs (p :: l) ++ more)) with
      | none => none
      | some (q, s) => match rdN l.length q.c s with
        | none => none
        | some (ps, s') => some (q :: ps, s')) = _
    rw [e, rdP_wr last p _ h.1 h.2.1]
    dsimp only
    rw [rdN_wr l p.c more h.2.2]
theorem rdL_wr (l : List Pr) (h : Oks 0 l) (hl : l.length < 18446744073709551616) : rdL (wrL l) = some l := by
  have h1 := wrs_len l
  have c1 := mUint_uvarint (wrL l).length l.length (wrs l) (by unfold wrL; rw [List.length_append]; omega) hl
  have c2 := rdN_wr l 0 [] h
  rw [List.append_nil] at c2
  unfold rdL
  rw [show Lib.uvarint l.length ++ wrs l = wrL l from rfl] at c1
  rw [c1]
  dsimp only
  rw [c2]
/-- What is taken of entries' bytes. -/
theorem take_wr (a : Awr) (l : List Pr) (h : Oks 0 l) (hl : l.length < 18446744073709551616) : a.take (wrL l) = ((a.takeL l).1, (a.takeL l).2, 0) := by
  unfold Awr.take
  rw [rdL_wr l h hl]
theorem Oks.one {p : Pr} (h : p.Ok) (hc : 0 < p.c) : Oks 0 [p] := ⟨hc, h, trivial⟩
theorem take_one (a : Awr) (p : Pr) (h : p.Ok) (hc : 0 < p.c) : a.take (wrL [p]) = ((a.take1 p).1, (a.take1 p).2, 0) := by
  rw [take_wr a [p] (Oks.one h hc) (by simp)]
  show ((a.take1 p).1, ((a.take1 p).2 || false), 0) = _
  rw [Bool.or_false]
theorem take1_old {a : Awr} {p : Pr} (h : p.k ≤ a.clock p.c) : a.take1 p = (a, false) := if_pos h
theorem take1_own {a : Awr} {p : Pr} (h : ¬ p.k ≤ a.clock p.c) (hc : p.c = a.client) : a.take1 p = ({ a with own := p.k }, true) := by
  unfold Awr.take1
  rw [if_neg h, if_pos hc]
theorem take1_new {a : Awr} {p : Pr} (h : ¬ p.k ≤ a.clock p.c) (hc : p.c ≠ a.client) : a.take1 p = ({ a with es := ins a.es ⟨p, a.now⟩ }, true) := by
  unfold Awr.take1
  rw [if_neg h, if_neg hc]
theorem wrL_one_len (p : Pr) (h : p.Ok) : (wrL [p]).length ≤ 300 := by
  have := wr1_len p h.fit
  have := h.2.2.2.1
  omega
theorem mine_ok {a : Awr} {s : ByteArray} {g : Bool} (hc : a.client ≤ 9007199254740991) (ho : a.own < 9007199254740991) (hs : s.size ≤ 256) (hg : g = true → s = ⟨#[]⟩) : (a.mine s g).Ok :=
  ⟨hc, Nat.succ_pos _, ho, hs, hg⟩
end Aw
end Go.Proofs.Ytoljcnlmockpcaa
