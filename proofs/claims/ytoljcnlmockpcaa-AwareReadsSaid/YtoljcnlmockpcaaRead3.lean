/- wire.Reader: Guard, and what is read within it: Uint, Byte, Text, Fixed. -/
import Derived.Test.YtoljcnlmockpcaaRead2
namespace Go.Proofs.Ytoljcnlmockpcaa
set_option maxRecDepth 100000
namespace Wire
open Go Go.RowKit Sx
theorem N8.int {w : World} {b : Nat} {k : IntKind} {z : Int} {e : TypeId} (h : Blk w b [.int k z] e) (hk : k ≠ .u8) : N8 w b := fun off z' => by
  rw [h.cell off]
  rcases off with _ | off
  · intro e
    simp only [List.getElem?_cons_zero, Option.some.injEq, Value.int.injEq] at e
    exact hk e.1
  · simp
attribute [local irreducible] W Lst Qst Pu seqQ blkQ rndQ cutQ retQ Does Enters IntKind.wrap bits sb World.alloc World.putObj Blk
theorem c_BadB (b : Nat) (a : Option Addr) (m c : Nat) (e e' : Int) (w : World) (hb : Blk w b [.slice a m c, .int .i64 e] 109) : Does Try.prog 72 #[.pointer (some ⟨b, 0, none⟩), .int .i64 e'] w fun v w' => v = .tuple #[] ∧ Blk w' b [.slice a m c, .int .i64 (if e = 0 then e' else e)] 109 ∧ Chg [b] w w' := by
  refine Does_of (args := [.pointer (some ⟨b, 0, none⟩), .int .i64 e']) Try.func72 (by kernel_rfl) rfl rfl rfl rfl rfl ?_
  by_cases he : e = 0
  · rw [if_pos he]
    (refine Ga ?_)
    have hch : Chg [b] w (w.putObj b (.cells [.slice a m c, .int .i64 e'].toArray 109)) := (Chg.refl _ _).put (by simp) _
    exact retQ0n ⟨rfl, Blk.put_same hb.lt _ _, hch⟩
  · rw [if_neg he]
    (refine Ga ?_)
    exact retQ0n ⟨rfl, hb, Chg.refl _ _⟩
theorem c_Bad (b : Nat) (l : List UInt8) (e e' : Int) (w : World) (h : RdAt w b l e) : Does Try.prog 72 #[.pointer (some ⟨b, 0, none⟩), .int .i64 e'] w fun v w' => v = .tuple #[] ∧ RdAt w' b l (if e = 0 then e' else e) ∧ Chg [b] w w' := by
  obtain ⟨a, c, hb, hi, hc⟩ := h
  refine (c_BadB b a l.length c e e' w hb).mono ?_
  rintro v w' ⟨rfl, hb', hc'⟩
  refine ⟨rfl, ⟨a, c, hb', Ints.chg hi hc' ?_, hc⟩, hc'⟩
  intro g hg
  obtain rfl : g = b := by simpa using hg
  exact N8.rd hb
/-- Guard: what fails within a function is a failure of the reader, whose bytes are then as they were. X: what blocks besides the reader's the function may turn. -/
theorem c_Guard (b m c : Nat) (a : Option Addr) (e : Int) (g : Nat) (caps : List Value) (X : List Nat) (w : World) (hb : Blk w b [.slice a m c, .int .i64 e] 109) (hX : w.heap.size ∉ X) (R : World → Prop) (K0 : Prop)
    (hst : ∀ w1 w2, R w1 → Chg [w.heap.size] w1 w2 → Blk w1 w.heap.size [.int .i64 0] 29 → R w2)
    (hg : e = 0 → Tries Try.prog g caps.toArray (w.alloc (.cells [.int .i64 0].toArray 29)) (fun _ w' => R w' ∧ Chg (b :: X) (w.alloc (.cells [.int .i64 0].toArray 29)) w')
      (fun v w' => K0 ∧ (∃ e : Int, v = badV e ∧ e ≠ 0) ∧ Chg [b] (w.alloc (.cells [.int .i64 0].toArray 29)) w' ∧ ∃ x c y, Blk w' b [.slice x c y, .int .i64 0] 109)) :
    Does Try.prog 60 #[.pointer (some ⟨b, 0, none⟩), .func (.func g) #[] caps.toArray] w fun v w' => Chg (b :: X) w w' ∧
      ((v = .bool true ∧ e = 0 ∧ R w') ∨ (v = .bool false ∧ (e = 0 → K0) ∧ Chg [b] w w' ∧ ∃ e', e' ≠ 0 ∧ Blk w' b [.slice a m c, .int .i64 e'] 109)) := by
  refine Does_of (args := [.pointer (some ⟨b, 0, none⟩), .func (.func g) #[] caps.toArray]) Try.func60 (by kernel_rfl) rfl rfl rfl rfl rfl ?_
  have hlt := hb.lt
  by_cases he : e = 0
  · subst he
    have hg := hg rfl
    (refine Ga ?_)
    have hbox : Blk (w.alloc (.cells [.int .i64 0].toArray 29)) w.heap.size [.int .i64 0] 29 := (by (repeat (first | assumption | (apply Blk.below (hb := hb1); rotate_left; (focus ((try simp only [Sx.sizes]); omega)); rotate_right) | (apply Blk.below (hb := hb2); rotate_left; (focus ((try simp only [Sx.sizes]); omega)); rotate_right) | (apply Blk.below (hb := hb3); rotate_left; (focus ((try simp only [Sx.sizes]); omega)); rotate_right) | (apply Blk.below (hb := hb4); rotate_left; (focus ((try simp only [Sx.sizes]); omega)); rotate_right) | (apply Blk.below (hb := hb5); rotate_left; (focus ((try simp only [Sx.sizes]); omega)); rotate_right) | (apply Blk.below (hb := hb6); rotate_left; (focus ((try simp only [Sx.sizes]); omega)); rotate_right) | (apply Blk.below (hb := hb7); rotate_left; (focus ((try simp only [Sx.sizes]); omega)); rotate_right) | (apply Blk.below (hb := hb8); rotate_left; (focus ((try simp only [Sx.sizes]); omega)); rotate_right) | (apply Blk.below (hb := hb9); rotate_left; (focus ((try simp only [Sx.sizes]); omega)); rotate_right) | exact Blk.newE (by first | rfl | ((try simp only [Sx.sizes]); first | done | omega)) _ _ | exact Blk.put_same (by (try simp only [Sx.sizes]); first | done | omega) _ _ | (apply Blk.put_ne; (focus omega)) | apply Blk.alloc | apply Blk.drew)); done)
    have hnb : w.heap.size ∉ b :: X := by
      intro h
      rcases List.mem_cons.1 h with h | h
      · omega
      · exact hX h
    have hout : ∀ {Y : List Nat} {w1 w2 : World}, Chg Y (w.alloc (.cells [.int .i64 0].toArray 29)) w1 → Chg [w.heap.size] w1 w2 → Chg Y w w2 := fun {Y w1 w2} h1 h2 => by
      have h0 : Chg Y w (w.alloc (.cells [.int .i64 0].toArray 29)) := (Chg.refl _ _).alloc _
      have h3 := h0.trans h1
      exact ⟨h2.os.trans h3.os, h2.tape.trans h3.tape, h2.output.trans h3.output, Nat.le_trans h3.size h2.size, fun q hq hn => (h2.block q (Nat.lt_of_lt_of_le hq h3.size) (by simp; omega)).trans (h3.block q hq hn)⟩
    (apply Lst_call; (focus rfl); (focus rfl))
    refine (c_Try g caps w (fun w1 => R w1 ∧ Chg (b :: X) (w.alloc (.cells [.int .i64 0].toArray 29)) w1 ∧ Blk w1 w.heap.size [.int .i64 0] 29) (fun e w1 => K0 ∧ e ≠ 0 ∧ Chg [b] (w.alloc (.cells [.int .i64 0].toArray 29)) w1 ∧ ∃ x c y, Blk w1 b [.slice x c y, .int .i64 0] 109) ?_).mono ?_
    · refine hg.mono ?_ ?_
      · rintro v w1 ⟨hR, hc⟩
        have := hc.blk hbox hnb
        exact ⟨⟨hR, hc, this⟩, this⟩
      · rintro v w1 ⟨hK, ⟨e, rfl, he⟩, hc, hB⟩
        exact ⟨e, rfl, ⟨hK, he, hc, hB⟩, hc.blk hbox (by simp; omega)⟩
    · rintro v w2 ⟨w1, h12, hc2⟩
      rcases h12 with ⟨rfl, hR, hc1, hb1⟩ | ⟨e, rfl, hK, he, hc1, x, c', y, hb1⟩
      · have hR2 := hst w1 w2 hR hc2 hb1
        have hcc := hout hc1 hc2
        (refine Ga ?_)
        (apply retQ1; (focus rfl))
        exact ⟨hcc, .inl ⟨rfl, rfl, hR2⟩⟩
      · have hcc := hout hc1 hc2
        have hb2 := hc2.blk hb1 (by simp; omega)
        have hlt2 := hb2.lt
        (refine Ga ?_)
        (apply Lst_call; (focus rfl); (focus rfl))
        refine (c_BadB b a m c 0 e _ (by exact (by (repeat (first | assumption | (apply Blk.below (hb := hb1); rotate_left; (focus ((try simp only [Sx.sizes]); omega)); rotate_right) | (apply Blk.below (hb := hb2); rotate_left; (focus ((try simp only [Sx.sizes]); omega)); rotate_right) | (apply Blk.below (hb := hb3); rotate_left; (focus ((try simp only [Sx.sizes]); omega)); rotate_right) | (apply Blk.below (hb := hb4); rotate_left; (focus ((try simp only [Sx.sizes]); omega)); rotate_right) | (apply Blk.below (hb := hb5); rotate_left; (focus ((try simp only [Sx.sizes]); omega)); rotate_right) | (apply Blk.below (hb := hb6); rotate_left; (focus ((try simp only [Sx.sizes]); omega)); rotate_right) | (apply Blk.below (hb := hb7); rotate_left; (focus ((try simp only [Sx.sizes]); omega)); rotate_right) | (apply Blk.below (hb := hb8); rotate_left; (focus ((try simp only [Sx.sizes]); omega)); rotate_right) | (apply Blk.below (hb := hb9); rotate_left; (focus ((try simp only [Sx.sizes]); omega)); rotate_right) | exact Blk.newE (by first | rfl | ((try simp only [Sx.sizes]); first | done | omega)) _ _ | exact Blk.put_same (by (try simp only [Sx.sizes]); first | done | omega) _ _ | (apply Blk.put_ne; (focus omega)) | apply Blk.alloc | apply Blk.drew)); done))).mono ?_
        rw [if_pos rfl]
        rintro v w3 ⟨rfl, hb3, hc3⟩
        have hcc3 : Chg [b] w w3 := (hcc.put (.inl (by simp)) _).trans hc3
        (refine Ga ?_)
        (apply retQ1; (focus rfl))
        exact ⟨hcc3.mono (by simp), .inr ⟨rfl, fun _ => hK, hcc3, e, he, hb3⟩⟩
  · (refine Ga ?_)
    (apply retQ1; (focus rfl))
    exact ⟨Chg.refl _ _, .inr ⟨rfl, fun h => absurd h he, Chg.refl _ _, e, he, hb⟩⟩
end Wire
end Go.Proofs.Ytoljcnlmockpcaa
