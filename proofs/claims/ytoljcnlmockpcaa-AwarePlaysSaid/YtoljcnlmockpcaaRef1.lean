/- The document's bytes: quireref1.Uint, Int, Fixed, Text. -/
import Derived.Test.YtoljcnlmockpcaaWi
namespace Go.Proofs.Ytoljcnlmockpcaa
set_option maxRecDepth 100000
namespace Wire
open Go Go.RowKit Sx
/-- Bytes in a slice of one's own. -/
def Own8 (B : Nat) (w : World) (v : Value) (l : List UInt8) : Prop := w.ownsRow B 5 1 v l.length (l.map bc)
theorem Own8.nil (B : Nat) (w : World) : Own8 B w (.slice none 0 0) [] := World.ownsRow_nil _ _ _ _
theorem Own8.ints {B : Nat} {w : World} {v : Value} {l : List UInt8} (h : Own8 B w v l) : Ints w .u8 v (nums l) := by
  unfold Own8 at h
  rw [← nums_map] at h
  exact Ints.of_own h
theorem Own8.push {B : Nat} {w : World} {v : Value} {l : List UInt8} {x : Int} {m : Nat} (hx : x = ((m % 256 : Nat) : Int)) (h : w.ownsRow B 5 1 v (l.length + 1) (l.map bc ++ [.int .u8 x])) : Own8 B w v (l ++ [m.toUInt8]) := by
  unfold Own8
  have e : bc m.toUInt8 = .int .u8 x := by
    rw [hx]
    show Value.int .u8 ((m.toUInt8.toNat : Nat) : Int) = _
    congr 2
  rw [List.length_append, List.length_singleton, List.map_append, List.map_singleton, e]
  exact h
theorem Own8.sapp {B : Nat} {w : World} {v : Value} {l : List UInt8} {s : ByteArray} (h : w.ownsRow B 5 1 v (l.length + s.size) (l.map bc ++ s.data.toList.map bc)) : Own8 B w v (l ++ s.data.toList) := by
  unfold Own8
  rw [List.length_append, List.map_append]
  have e : s.data.toList.length = s.size := Array.length_toList
  rw [e]
  exact h
attribute [local irreducible] W Lst Qst Pu seqQ blkQ rndQ cutQ retQ Does Enters IntKind.wrap bits sb World.alloc World.putObj Blk
theorem r_Uint (B : Nat) (l : List UInt8) (v : Value) (n : Nat) (hn : n < 18446744073709551616) (w : World) (hB : B ≤ w.heap.size) (h : Own8 B w v l) (hlen : l.length + 20 ≤ 140737488355328) : Does Try.prog 42 #[v, .int .u64 (n : Int)] w fun v' w' => Own8 B w' v' (l ++ Lib.uvarint n) ∧ Below B w w' := by
  obtain ⟨a1, a2, a3, rfl⟩ := own_slice h
  refine Does_of (args := [.slice a1 a2 a3, .int .u64 (n : Int)]) Try.func42 (by kernel_rfl) rfl rfl rfl rfl rfl ?_
  (refine Ga ?_)
  refine W_loop (α := Nat × List UInt8 × Value) (fun x => [(0, x.2.2), (1, .int .u64 (x.1 : Int))])
    (fun x A => x.1 < 18446744073709551616 ∧ x.2.1 ++ Lib.uvarint x.1 = l ++ Lib.uvarint n ∧ Own8 B A x.2.2 x.2.1 ∧ Below B w A ∧ ∃ a m c, x.2.2 = .slice a m c) (fun x _ => x.1) (n, l, .slice a1 a2 a3) ⟨hn, rfl, h, Below.refl _ _, _, _, _, rfl⟩ ⟨rfl, rfl, trivial⟩ ?_
  clear h
  rintro J ⟨m, k, u⟩ A ⟨hm, hk, h, hb, b1, b2, b3, rfl⟩
  dsimp only at hm hk h ⊢
  have hlen2 : k.length + 1 ≤ l.length + 10 := by
    have e := congrArg List.length hk
    rw [List.length_append, List.length_append] at e
    have h1 := Lib.uvarint_length64 hn
    have h2 := Lib.uvarint_pos m
    omega
  have hs := hb.size
  by_cases hge : 128 ≤ m
  · have hw8 : IntKind.u8.wrap (m : Int) = ((m % 256 : Nat) : Int) := by
      simp [IntKind.wrap, IntKind.signed, IntKind.bits]
    have ho := or128 m
    (refine Ga ?_)
    apply Lst_push (hown := h) (bytes := 1)
    ((focus constructor); (focus rfl); (focus rfl); (focus rfl); (focus rfl); (focus rfl); (focus rfl); (focus rfl); (focus rfl); (focus rfl); (focus rfl); (focus simp [Value.oneCell']); (focus rfl); (focus rfl); (focus rfl); (focus rfl); (focus omega); (focus omega); (focus omega))
    intro v' w2 ho' hg _
    have hp := Own8.push (l := k) (m := m % 128 + 128) (by omega) ho'
    have hb2 := Below.own hb h hg (Nat.le_refl _) (by omega)
    obtain ⟨v1, v2, v3, rfl⟩ := own_slice ho'
    (refine Ga ?_)
    refine rndQ_n (m / 128, k ++ [(m % 128 + 128).toUInt8], .slice v1 v2 v3) ⟨?_, ?_, hp, hb2, _, _, _, rfl⟩ ⟨rfl, ?_, trivial⟩ ?_
    · dsimp only; omega
    · dsimp only
      rw [← hk, Lib.uvarint_big hge, List.append_assoc]
      rfl
    · show Value.int .u64 _ = _
      congr 1
    · dsimp only
      omega
  · have hw8 : IntKind.u8.wrap (m : Int) = (m : Int) := wu8 (by omega) (by omega)
    (refine Ga ?_)
    apply Lst_push (hown := h) (bytes := 1)
    ((focus constructor); (focus rfl); (focus rfl); (focus rfl); (focus rfl); (focus rfl); (focus rfl); (focus rfl); (focus rfl); (focus rfl); (focus rfl); (focus simp [Value.oneCell']); (focus rfl); (focus rfl); (focus rfl); (focus rfl); (focus omega); (focus omega); (focus omega))
    intro v' w2 ho' hg _
    have hp := Own8.push (l := k) (m := m) (by omega) ho'
    have hb2 := Below.own hb h hg (Nat.le_refl _) (by omega)
    obtain ⟨v1, v2, v3, rfl⟩ := own_slice ho'
    (refine Ga ?_)
    (apply retQ1; (focus rfl))
    rw [← hk, Lib.uvarint_small (by omega)]
    exact ⟨hp, hb2⟩
theorem r_Text1 (B : Nat) (l : List UInt8) (v : Value) (s : ByteArray) (hs : s.size < 100000000) (w : World) (hB : B ≤ w.heap.size) (h : Own8 B w v l) (hlen : l.length + 200000000 ≤ 140737488355328) : Does Try.prog 43 #[v, .string s] w fun v' w' => Own8 B w' v' (l ++ (Lib.uvarint s.size ++ s.data.toList)) ∧ Below B w w' := by
  obtain ⟨a1, a2, a3, rfl⟩ := own_slice h
  refine Does_of (args := [.slice a1 a2 a3, .string s]) Try.func43 (by kernel_rfl) rfl rfl rfl rfl rfl ?_
  have hw : IntKind.u64.wrap (s.size : Int) = ((s.size : Nat) : Int) := wu64 (by omega) (by omega)
  (refine Ga ?_)
  (apply Lst_call; (focus rfl); (focus rfl))
  refine (r_Uint B l _ s.size (by omega) _ hB h (by omega)).mono ?_
  rintro v w1 ⟨hown, hb1⟩
  have hs1 := hb1.size
  obtain ⟨v1, v2, v3, rfl⟩ := own_slice hown
  (refine Ga ?_)
  apply Lst_sappend (hown := hown)
  focus rfl
  focus rfl
  focus rfl
  focus rfl
  focus rfl
  focus rfl
  focus rfl
  focus rfl
  focus rfl
  focus (rw [List.length_append]; have := Lib.uvarint_length64 (show s.size < 18446744073709551616 by omega); omega)
  focus omega
  intro v' w2 ho' hg
  have hb2 := Below.own hb1 hown hg (Nat.le_refl _) (by omega)
  obtain ⟨v1, v2, v3, rfl⟩ := own_slice ho'
  (refine Ga ?_)
  (apply retQ1; (focus rfl))
  rw [← List.append_assoc]
  exact ⟨Own8.sapp ho', hb2⟩
end Wire
end Go.Proofs.Ytoljcnlmockpcaa
