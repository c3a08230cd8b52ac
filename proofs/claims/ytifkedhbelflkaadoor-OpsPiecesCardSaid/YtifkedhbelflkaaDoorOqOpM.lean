/- Texts of one writer that go on, one behind the other, plainly. -/
import Derived.Test.YtifkedhbelflkaaDoorOqOpL
namespace Go.Proofs.YtifkedhbelflkaaDoor
set_option maxRecDepth 100000
namespace Op
open Go Go.RowKit Sx Tl Val
open Utf (rs tl Tabs cutS)
/-- How many runes. -/
def rn (t : ByteArray) : Nat := (rs (tl t)).length
theorem enc_le : ∀ l : List Int, (Utf.enc l).length ≤ 4 * l.length
  | [] => Nat.le_refl _
  | r :: l => by
    have h1 := enc_le l
    have h2 := (Lib.encodeRuneZ_length r).2
    show (Lib.encodeRune r ++ Utf.enc l).length ≤ 4 * (l.length + 1)
    rw [List.length_append]
    have h3 : (Lib.encodeRune r).length = (Lib.encodeRuneZ r).length := by unfold Lib.encodeRune; rw [List.length_map]
    omega
theorem size_rn {t : ByteArray} (h : Lib.validD (tl t) = true) : t.size ≤ 4 * rn t := by
  have h1 := Utf.enc_rs h
  have h2 := enc_le (rs (tl t))
  have h3 : (tl t).length = t.size := Array.length_toList
  rw [h1] at h2
  unfold rn
  omega
theorem up_dis {l : List Mo} (h : Up l) : Dis (fid l) l.length := fun p q hp hq e => by
  rw [fid_at hp, fid_at hq] at e
  rcases Nat.lt_trichotomy p q with hpq | rfl | hpq
  · have := List.pairwise_iff_getElem.1 h p q hp hq hpq
    rw [e, lt_irr] at this
    cases this
  · rfl
  · have := List.pairwise_iff_getElem.1 h q p hq hp hpq
    rw [e, lt_irr] at this
    cases this
end Op
end Go.Proofs.YtifkedhbelflkaaDoor
