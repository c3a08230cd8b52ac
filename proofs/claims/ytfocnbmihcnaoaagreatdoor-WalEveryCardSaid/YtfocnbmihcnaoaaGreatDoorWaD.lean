/- All records of bytes. -/
import Derived.Test.YtfocnbmihcnaoaaGreatDoorWaC
namespace Go.Proofs.YtfocnbmihcnaoaaGreatDoor
set_option maxRecDepth 100000
namespace Wa
open Go Go.RowKit Sx Wire
/-- Rows of bytes behind a slice, all of one's own. -/
def OwnBs (B : Nat) (w : World) (v : Value) (L : List (List UInt8)) : Prop := ∃ us, w.ownsRow B 22 1 v L.length us ∧ All2 (fun u x => OwnB B w u x) us L
theorem OwnBs.nil (B : Nat) (w : World) : OwnBs B w (.slice none 0 0) [] := ⟨[], ⟨rfl, .inl ⟨rfl, rfl⟩⟩, trivial⟩
theorem OwnBs.below {B m : Nat} {w w' : World} {v : Value} {L : List (List UInt8)} (h : OwnBs B w v L) (hb : Below m w w') (hm : w.heap.size ≤ m) : OwnBs B w' v L := by
  obtain ⟨us, h1, h2⟩ := h
  exact ⟨us, own_below h1 hb hm, All2.mono (fun _ _ h => OwnB.below h hb hm) h2⟩
theorem OwnBs.low {B B' : Nat} {w : World} {v : Value} {L : List (List UInt8)} (h : OwnBs B w v L) (hB : B' ≤ B) : OwnBs B' w v L := by
  obtain ⟨us, h1, h2⟩ := h
  exact ⟨us, own_low h1 hB, All2.mono (fun _ _ h => own_low h hB) h2⟩
theorem OwnBs.form {B : Nat} {w : World} {v : Value} {L : List (List UInt8)} (h : OwnBs B w v L) : ∃ a c, v = .slice a L.length c ∧ L.length ≤ c := by
  obtain ⟨us, h1, _⟩ := h
  exact own_form h1
theorem own_neB {w : World} {B C e e' s s' n n' : Nat} {u v : Value} {xs ys : List Value} (h : w.ownsRow B e s u n xs) (k : w.ownsRow C e' s' v n' ys) (he : e ≠ e') : ∀ g, u.ownBlock = some g → v.ownBlock ≠ some g := fun g hu hv => by
  rcases h.2 with ⟨rfl, _⟩ | ⟨g1, c1, cur1, rfl, _, h1, _⟩
  · cases hu
  · cases hu
    rcases k.2 with ⟨rfl, _⟩ | ⟨g2, c2, cur2, rfl, _, h2, _⟩
    · cases hv
    · cases hv
      rw [h1] at h2
      injection h2 with h2
      injection h2 with _ h2
      exact he h2
theorem own_keptB {w w' : World} {B C e e' s s' n n' : Nat} {u v : Value} {xs ys : List Value} (h : w.ownsRow B e s u n xs) (k : w.ownsRow C e' s' v n' ys) (he : e ≠ e') (hg : w.grownBy w' v.ownBlock) : w'.ownsRow B e s u n xs := by
  refine h.kept hg ?_
  cases hu : u.ownBlock with
  | none => exact .inl rfl
  | some g => exact .inr fun e => own_neB h k he g hu e.symm
theorem all2_snoc {β γ : Type} {r : β → γ → Prop} {x : β} {y : γ} (hxy : r x y) : ∀ {l : List β} {m : List γ}, All2 r l m → All2 r (l ++ [x]) (m ++ [y])
  | [], [], _ => ⟨hxy, trivial⟩
  | _ :: _, _ :: _, h => ⟨h.1, all2_snoc hxy h.2⟩
  | [], _ :: _, h => h.elim
  | _ :: _, [], h => h.elim
theorem OwnBs.ints {B : Nat} {w : World} {L : List (List UInt8)} {a : Option Addr} {c : Nat} (h : OwnBs B w (.slice a L.length c) L) {j : Nat} (hj : j < L.length) : ∃ g a' c', a = some ⟨g, 0, none⟩ ∧ w.cell? ⟨g, j, none⟩ = some (.slice a' L[j].length c') ∧ OwnB B w (.slice a' L[j].length c') L[j] := by
  obtain ⟨us, h1, h2⟩ := h
  have hl := All2.len h2
  have key : ∀ {l : List Value} {m : List (List UInt8)}, All2 (fun u x => OwnB B w u x) l m → ∀ (i : Nat) (h1 : i < l.length) (h2 : i < m.length), OwnB B w l[i] m[i] := by
    intro l
    induction l with
    | nil => intro m _ i h; exact absurd h (Nat.not_lt_zero _)
    | cons x l ih =>
      intro m h i h1 h2
      cases m with
      | nil => exact h.elim
      | cons y m =>
        cases i with
        | zero => exact h.1
        | succ i => exact ih h.2 i (by simpa using h1) (by simpa using h2)
  have hk := key h2 j (by omega) hj
  obtain ⟨a', c', e, _⟩ := own_form hk
  rcases h1.2 with ⟨e1, e2⟩ | ⟨g, cap, cur, e1, _, hg, h5, _, h6, h7⟩
  · omega
  · cases e1
    refine ⟨g, a', c', rfl, ?_, e ▸ hk⟩
    have hc : cur.toList[j]? = us[j]? := by
      rw [← h7, List.getElem?_take, if_pos (by omega)]
    rw [← e]
    simp only [World.cell?, hg]
    rw [← Array.getElem?_toList, hc, List.getElem?_eq_getElem (by omega)]
    rfl
/-- Records in a row, from a number on. -/
def recB : Nat → List (List UInt8) → List UInt8
  | _, [] => []
  | n, x :: L => rec1 n x ++ recB (n + 1) L
theorem recB_cons (n : Nat) (x : List UInt8) (L : List (List UInt8)) : recB n (x :: L) = rec1 n x ++ recB (n + 1) L := rfl
theorem recB_snoc : ∀ (L : List (List UInt8)) (n : Nat) (x : List UInt8), recB n (L ++ [x]) = recB n L ++ rec1 (n + L.length) x
  | [], n, x => by simp [recB]
  | y :: L, n, x => by
    rw [List.cons_append, recB_cons, recB_cons]
    rw [recB_snoc L (n + 1) x, List.append_assoc, List.length_cons, show n + 1 + L.length = n + (L.length + 1) by omega]
theorem recB_app : ∀ (L M : List (List UInt8)) (n : Nat), recB n (L ++ M) = recB n L ++ recB (n + L.length) M
  | [], M, n => by simp [recB]
  | y :: L, M, n => by
    rw [List.cons_append, recB_cons, recB_cons]
    rw [recB_app L M (n + 1), List.append_assoc, List.length_cons, show n + 1 + L.length = n + (L.length + 1) by omega]
theorem recB_len : ∀ (L : List (List UInt8)) (n : Nat), 20 * L.length ≤ (recB n L).length
  | [], _ => by simp
  | x :: L, n => by
    unfold recB
    have := recB_len L (n + 1)
    rw [List.length_append, rec_len, List.length_cons]
    omega
/-- These are all the records of these bytes, from a number on. -/
def Whole (n : Nat) (b : List UInt8) (L : List (List UInt8)) : Prop := recB n L <+: b ∧ (∀ x ∈ L, x.length ≤ 1048576) ∧ ∀ y, ¬ Rec (n + L.length) (b.drop (recB n L).length) y
theorem prefix_drop {l b x : List UInt8} (h : l <+: b) (hx : x <+: b.drop l.length) : l ++ x <+: b := by
  obtain ⟨t, rfl⟩ := h
  rw [List.drop_append_of_le_length (Nat.le_refl _), List.drop_of_length_le (Nat.le_refl _), List.nil_append] at hx
  obtain ⟨s, rfl⟩ := hx
  exact ⟨s, by rw [List.append_assoc]⟩
section
attribute [local irreducible] RnS RnT
attribute [local irreducible] W Lst Qst Pu seqQ blkQ rndQ cutQ retQ Does Enters IntKind.wrap bits sb World.alloc World.putObj Blk
theorem c_whole (n : Nat) (hn : n < 100000000) (a : Option Addr) (c : Nat) (b : List UInt8) (hl : b.length ≤ 50000000) (hc : b.length ≤ c) (w : World) (h : Ints w .u8 (.slice a b.length c) (nums b)) :
    Does Tryz.prog 40 #[.slice a b.length c, .int .i64 (n : Int)] w fun v w' => ∃ L ov, v = .tuple #[ov, .int .i64 ((recB n L).length : Int)] ∧ OwnBs w.heap.size w' ov L ∧ Whole n b L ∧ Below w.heap.size w w' := by
  refine Does_of (args := [.slice a b.length c, .int .i64 (n : Int)]) Tryz.func40 (by kernel_rfl) rfl rfl rfl rfl rfl ?_
  (refine Ga ?_)
  refine W_loop (α := List (List UInt8) × Value) (fun x => [(0, .slice a b.length c), (1, .int .i64 (n : Int)), (4, x.2), (5, .int .i64 ((recB n x.1).length : Int))])
    (fun x A => OwnBs w.heap.size A x.2 x.1 ∧ recB n x.1 <+: b ∧ (∀ y ∈ x.1, y.length ≤ 1048576) ∧ Below w.heap.size w A) (fun x _ => b.length - (recB n x.1).length) ([], .slice none 0 0) ⟨OwnBs.nil _ _, List.nil_prefix, fun _ h => absurd h List.not_mem_nil, Below.refl _ _⟩ ⟨rfl, rfl, rfl, rfl, trivial⟩ ?_
  rintro J ⟨L, ov⟩ A ⟨hov, hp, hs, bA⟩
  dsimp only at hov hp hs ⊢
  obtain ⟨oa, oc, rfl, hoc⟩ := hov.form
  have hpl := hp.length_le
  have h20 := recB_len L n
  have hw : arith .add .i64 (n : Int) (L.length : Int) = ((n + L.length : Nat) : Int) := wi64 (by omega) (by omega)
  obtain ⟨z, hz⟩ : ∃ z, (recB n L).length = z := ⟨_, rfl⟩
  rw [hz] at hpl h20 ⊢
  (refine Gf ?_)
  apply Lst_pu
  · apply P_lslice_lo (sz := 1)
    focus rfl
    focus rfl
    focus rfl
    focus rfl
    focus rfl
    focus omega
    focus omega
  focus rfl
  rw [Int.toNat_natCast]
  have hsub := Ints.sub h hc hpl (Nat.le_refl b.length)
  rw [nums_take, List.take_length, nums_drop] at hsub
  have hdl : (b.drop z).length = b.length - z := List.length_drop
  obtain ⟨a2, c2, hv, hc2⟩ : ∃ a2 c2, sliced a z b.length c 1 = .slice a2 (b.drop z).length c2 ∧ (b.drop z).length ≤ c2 := by
    rw [hdl]
    exact ⟨_, _, rfl, by omega⟩
  rw [hv] at hsub ⊢
  (refine Ga ?_)
  (apply Lst_call; (focus rfl); (focus rfl))
  refine (c_try (n + L.length) (by omega) a2 c2 (b.drop z) (by omega) hc2 A (Ints.below hsub bA (Nat.le_refl _))).mono ?_
  rintro v w1 ⟨⟨x, u, rfl, hrec, hu⟩ | ⟨rfl, hno⟩, hb1⟩
  · have bz := bA.size
    have hu' := own_low hu bz
    have hov1 := OwnBs.below hov hb1 (Nat.le_refl _)
    have b1 := Sx.Below.after (w := w) bA hb1
    have hrl := rec_size hrec.2
    have hx1 := hrec.1
    obtain ⟨ua, uc, rfl, _⟩ := own_form hu
    (refine Ga ?_)
    obtain ⟨us, hrow, hall⟩ := hov1
    have s1 := b1.size
    apply Lst_push (hown := hrow) (bytes := 24)
    ((focus constructor); (focus rfl); (focus rfl); (focus rfl); (focus rfl); (focus rfl); (focus rfl); (focus rfl); (focus rfl); (focus rfl); (focus rfl); (focus simp [Value.oneCell']); (focus rfl); (focus rfl); (focus rfl); (focus rfl); (focus omega); (focus omega); (focus omega))
    intro v' w2 ho' hg _
    have b2 : Below w.heap.size w w2 := Below.own b1 hrow hg (Nat.le_refl _) b1.size
    have hall2 : All2 (fun u x => OwnB w.heap.size w2 u x) (us ++ [.slice ua x.length uc]) (L ++ [x]) := by
      refine all2_snoc ?_ (All2.mono (fun _ _ hh => own_keptB hh hrow (by decide) hg) hall)
      exact own_keptB hu' hrow (by decide) hg
    have hrow2 : w2.ownsRow w.heap.size 22 1 v' (L ++ [x]).length (us ++ [.slice ua x.length uc]) := by
      rw [List.length_append, List.length_singleton]
      exact ho'
    obtain ⟨va, vm, vc, rfl⟩ := own_slice ho'
    have e2 : (recB n (L ++ [x])).length = z + (20 + x.length) := by
      rw [recB_snoc, List.length_append, hz, rec_len]
    (refine Ga ?_)
    refine rndQ_n (α := List (List UInt8) × Value) (L ++ [x], _) ⟨⟨_, hrow2, hall2⟩, ?_, ?_, b2⟩ ⟨rfl, rfl, rfl, ?_, trivial⟩ ?_
    · dsimp only
      rw [recB_snoc]
      refine prefix_drop hp ?_
      rw [hz]
      exact hrec.2
    · intro y hy
      rcases List.mem_append.1 hy with hy | hy
      · exact hs y hy
      · rw [List.mem_singleton.1 hy]
        exact hx1
    · dsimp only
      rw [e2]
      exact congrArg (Value.int .i64) (by omega)
    · dsimp only
      rw [e2]
      omega
  · (refine Ga ?_)
    (apply retQ2; (focus rfl); (focus rfl))
    refine ⟨L, _, by rw [hz]; rfl, OwnBs.below hov hb1 (Nat.le_refl _), ⟨hp, hs, ?_⟩, Sx.Below.after (w := w) bA hb1⟩
    rw [hz]
    exact hno
end
end Wa
end Go.Proofs.YtfocnbmihcnaoaaGreatDoor
