/- The first record of bytes; all records of bytes. -/
import Derived.Test.YtfocnbmihcnaoaaGreatDoorWaP
import Derived.Test.YtfocnbmihcnaoaaGreatDoorJReToRead7
import Derived.Test.YtfocnbmihcnaoaaGreatDoorJSxEToSxR
namespace Go.Proofs.YtfocnbmihcnaoaaGreatDoor
set_option maxRecDepth 100000
namespace Wa
open Go Go.RowKit Sx Wire Dk
/-- A way out that is no panic. -/
def calmQ (Q : Post) : Post := fun e F ds w => (∀ c, e ≠ .panic c) ∧ Q e F ds w
theorem W_calm {P : Program} {rd : Option Nat} {n : Nat} {c : Code} {Q : Post} {F : Fr} {ds : List Deferred} {w : World} (h : W P rd n c (calmQ Q) F ds w) : W P rd n c Q F ds w := fun m a hf =>
  Code.wpIn_mono (fun _ _ _ ⟨G, es, hg, hq⟩ => ⟨G, es, hg, hq.2⟩) (h m a hf)
theorem calm_no {Q : Post} : ∀ c F ds w, ¬ calmQ Q (.panic c) F ds w := fun c _ _ _ h => h.1 c rfl
theorem calm_n {Q : Post} {F : Fr} {ds : List Deferred} {w : World} (h : Q .normal F ds w) : calmQ Q .normal F ds w := ⟨fun _ e => Exit.noConfusion e, h⟩
theorem retQ2c {P : Program} {F : Fr} {w : World} {R : Value → World → Prop} {t t' : TypeId} {u u' : TypeDesc} {a b a' b' : Nat} {v v' : Value} {e e' : TypeId} (hx : F a = .pointer (some ⟨b, 0, none⟩)) (ht : P.underlying t = some u) (hu : aggT u = false) (hb : Blk w b [v] e)
    (hx' : F a' = .pointer (some ⟨b', 0, none⟩)) (ht' : P.underlying t' = some u') (hu' : aggT u' = false) (hb' : Blk w b' [v'] e') (h : R (.tuple #[v, v']) w) : retQ P [.cell a t, .cell a' t'] R .ret F [] w :=
  ⟨rfl, [v, v'], ⟨ret_cell hx ht hu hb, ret_cell hx' ht' hu' hb', trivial⟩, h⟩
theorem own_low {w : World} {B B' e sz n : Nat} {v : Value} {xs : List Value} (h : w.ownsRow B e sz v n xs) (hB : B' ≤ B) : w.ownsRow B' e sz v n xs := by
  refine ⟨h.1, ?_⟩
  rcases h.2 with h | ⟨g, cap, cur, h1, h2, h3⟩
  · exact .inl h
  · exact .inr ⟨g, cap, cur, h1, Nat.le_trans hB h2, h3⟩
def tornV : Value := .iface 118 (.agg #[])
section
attribute [local irreducible] RnS RnT
attribute [local irreducible] W Lst Qst Pu seqQ blkQ rndQ cutQ retQ Does Enters IntKind.wrap bits sb World.alloc World.putObj Blk
theorem c_one (n : Nat) (hn : n < 1000000000) (a : Option Addr) (c : Nat) (b : List UInt8) (hl : b.length ≤ 50000000) (hc : b.length ≤ c) (w : World) (h : Ints w .u8 (.slice a b.length c) (nums b)) :
    Tries Tryz.prog 78 #[.slice a b.length c, .int .i64 (n : Int)] w
      (fun v w' => ∃ x, Rec n b x ∧ OwnB w.heap.size w' v x ∧ Below w.heap.size w w')
      (fun v w' => v = tornV ∧ (∀ x, ¬ Rec n b x) ∧ Below w.heap.size w w') := by
  refine Tries_of (args := [.slice a b.length c, .int .i64 (n : Int)]) Tryz.func78 (by kernel_rfl) rfl rfl rfl rfl rfl ?_
  obtain ⟨k, hk, hkb⟩ : ∃ k : Nat, min (b.length : Int) 20 = (k : Int) ∧ k ≤ b.length ∧ k ≤ 20 ∧ (20 ≤ b.length → k = 20) := ⟨min b.length 20, by omega, by omega, by omega, by omega⟩
  obtain ⟨hkb, hk20, hk2⟩ := hkb
  have ik := Ints.sub h hc (Nat.zero_le k) hkb
  rw [List.drop_zero, nums_take] at ik
  (refine Ga ?_)
  rw [hk, Int.toNat_natCast]
  (apply Lst_call; (focus rfl); (focus rfl))
  refine (c_NewReader (sliced a 0 k c 1) (b.take k) (by rw [List.length_take]; omega) w ik).mono ?_
  rintro v w1 ⟨rb, rfl, hrb, hr1, hb1⟩
  (refine Ga ?_)
  (apply Lst_call; (focus rfl); (focus rfl))
  refine (c_RFixed rb (some (b.take k)) w1 hr1).mono ?_
  rintro v w2 ⟨rfl, hr2, hc2⟩
  (refine Ga ?_)
  (apply Lst_call; (focus rfl); (focus rfl))
  refine (c_RFixed rb _ w2 hr2).mono ?_
  rintro v w4 ⟨rfl, hr4, hc4⟩
  have b4 : Below w.heap.size w w4 := (hb1.trans (hc2.below (by simpa using hrb) hb1.size)).trans (hc4.below (by simpa using hrb) (Nat.le_trans hb1.size hc2.size))
  have e20 : 20 ≤ b.length → (mFixed (some (b.take k))).1 = numOf b ∧ (mFixed (mFixed (some (b.take k))).2).1 / 4294967296 = lenOf b := fun h20 => by
    rw [hk2 h20]
    have z1 : mFixed (some (b.take 20)) = (numOf b, some ((b.take 20).drop 8)) := by
      show (if 8 ≤ (b.take 20).length then (fold8 ((b.take 20).take 8) 0, some ((b.take 20).drop 8)) else (0, none)) = _
      rw [if_pos (by rw [List.length_take]; omega), take_take (by decide)]
      rfl
    have z2 : (mFixed (some ((b.take 20).drop 8))).1 = fold8 ((b.drop 8).take 8) 0 := by
      show (if 8 ≤ ((b.take 20).drop 8).length then (fold8 (((b.take 20).drop 8).take 8) 0, some (((b.take 20).drop 8).drop 8)) else (0, none)).1 = _
      rw [if_pos (by rw [List.length_drop, List.length_take]; omega), List.drop_take, List.take_take]
      rfl
    rw [z1, z2]
    exact ⟨rfl, rfl⟩
  generalize (mFixed (mFixed (some (b.take k))).2).1 = N2 at *
  generalize (mFixed (some (b.take k))).1 = N1 at *
  clear hr1 hr2 hr4 hc2 hc4 hb1 ik
  by_cases h20 : b.length < 20
  · have hno : ∀ x, ¬ Rec n b x := fun x hx => by
      have := rec_size hx.2
      omega
    clear e20
    (refine Ga ?_)
    apply Lst_pu
    · apply P_iface
      focus rfl
      focus exact Tryz.underlying118
      focus (intro ms; simp)
    focus rfl
    (refine Ga ?_)
    apply Lst_panic
    focus rfl
    repeat (first | apply seqQ_f | apply blkQ_f)
    exact retF_p ⟨rfl, hno, b4⟩
  have h20' : 20 ≤ b.length := by omega
  obtain ⟨rfl, e2⟩ := e20 h20'
  by_cases hN : ¬ numOf b = n
  · have hno : ∀ x, ¬ Rec n b x := fun x hx => hN (rec_num (by omega) hx.2)
    (refine Ga ?_)
    apply Lst_pu
    · apply P_iface
      focus rfl
      focus exact Tryz.underlying118
      focus (intro ms; simp)
    focus rfl
    (refine Ga ?_)
    apply Lst_panic
    focus rfl
    repeat (first | apply seqQ_f | apply blkQ_f)
    exact retF_p ⟨rfl, hno, b4⟩
  have hN : numOf b = n := Classical.not_not.1 hN
  generalize numOf b = N1 at *
  have e2' : (N2 : Int) / 4294967296 = (lenOf b : Int) := by omega
  clear e2
  by_cases hL : 1048576 < lenOf b
  · have hno : ∀ x, ¬ Rec n b x := fun x hx => by
      have := rec_lenOf (by have := hx.1; omega) hx.2
      have := hx.1
      omega
    (refine Ga ?_)
    apply Lst_pu
    · apply P_iface
      focus rfl
      focus exact Tryz.underlying118
      focus (intro ms; simp)
    focus rfl
    (refine Ga ?_)
    apply Lst_panic
    focus rfl
    repeat (first | apply seqQ_f | apply blkQ_f)
    exact retF_p ⟨rfl, hno, b4⟩
  by_cases hB : b.length - 20 < lenOf b
  · have hno : ∀ x, ¬ Rec n b x := fun x hx => by
      have := rec_lenOf (by have := hx.1; omega) hx.2
      have := rec_size hx.2
      omega
    (refine Ga ?_)
    apply Lst_pu
    · apply P_iface
      focus rfl
      focus exact Tryz.underlying118
      focus (intro ms; simp)
    focus rfl
    (refine Ga ?_)
    apply Lst_panic
    focus rfl
    repeat (first | apply seqQ_f | apply blkQ_f)
    exact retF_p ⟨rfl, hno, b4⟩
  have i12 := Ints.sub h hc (Nat.zero_le 12) (show 12 ≤ b.length by omega)
  have i16 := Ints.sub h hc (Nat.zero_le 16) (show 16 ≤ b.length by omega)
  rw [List.drop_zero, nums_take] at i12 i16
  have hrl : ∀ x, Rec n b x → x.length = lenOf b := fun x hx => (rec_lenOf (by have := hx.1; omega) hx.2).symm
  generalize lenOf b = L at *
  have hsz : 20 + (L : Int) = ((20 + L : Nat) : Int) := by omega
  (refine Ga ?_)
  rw [e2', hsz]
  refine W_calm ?_
  refine W_drawS 11 (fun A => Below w.heap.size w A) rfl rfl ?_
  have hS : Below w.heap.size w w4.drew := b4.drew
  refine S_takeV 0 10 rfl (by kernel_rfl) calm_no hS ?_
  (refine Qb ?_)
  refine S_takeV 1 9 rfl (by kernel_rfl) calm_no hS ?_
  apply Qst_pu
  · apply P_lslice_hi
    focus rfl
    focus rfl
    focus rfl
    focus rfl
    focus rfl
    focus omega
    focus omega
  focus rfl
  (refine Qb ?_)
  refine S_takeV 3 8 rfl (by kernel_rfl) calm_no hS ?_
  (refine Qb ?_)
  refine S_takeV 4 7 rfl (by kernel_rfl) calm_no hS ?_
  apply Qst_pu
  · apply P_lslice_hi
    focus rfl
    focus rfl
    focus rfl
    focus rfl
    focus rfl
    focus omega
    focus omega
  focus rfl
  (refine Qb ?_)
  refine S_takeV 7 6 rfl (by kernel_rfl) calm_no hS ?_
  (refine Qb ?_)
  refine S_takeV 8 5 rfl (by kernel_rfl) calm_no hS ?_
  apply Qst_pu
  · apply P_lslice_hi
    focus rfl
    focus rfl
    focus rfl
    focus rfl
    focus rfl
    focus omega
    focus omega
  focus rfl
  (refine Qb ?_)
  refine S_any [2] 4 rfl (by kernel_rfl) (all1 ?_)
  (apply Lst_call; (focus rfl); (focus rfl))
  refine (c_CloneO _ (b.take 12) (by rw [List.length_take]; omega) _ (Ints.below i12 hS (Nat.le_refl _))).mono ?_
  rintro u5 w5 ⟨hu5, hb5⟩
  have hS2 := Sx.Below.after (w := w) hS hb5
  have z5 : w.heap.size ≤ w4.drew.heap.size := hS.size
  have s5 := hb5.size
  apply Lst_nil
  apply rnQ_n
  refine ⟨hS2, ?_⟩
  clear hS
  have hS := hS2
  clear hS2
  refine S_any [5] 3 rfl (by kernel_rfl) (all1 ?_)
  (apply Lst_call; (focus rfl); (focus rfl))
  refine (c_Sum _ (b.take 12) (by rw [List.length_take]; omega) _ (Ints.below i12 hS (Nat.le_refl _))).mono ?_
  rintro v w6 ⟨rfl, hb6⟩
  have hS2 := Sx.Below.after (w := w) hS hb6
  have hu6 : OwnB w4.drew.heap.size w6 u5 (b.take 12) := OwnB.below hu5 hb6 (Nat.le_refl _)
  have s6 := hb6.size
  apply Lst_nil
  apply rnQ_n
  refine ⟨hS2, ?_⟩
  clear hS
  have hS := hS2
  clear hS2
  refine S_any [6] 2 rfl (by kernel_rfl) (all1 ?_)
  (apply Lst_call; (focus rfl); (focus rfl))
  refine (c_four w4.drew.heap.size _ (b.take 12) (crc (b.take 12)) (crc_lt _) (by rw [List.length_take]; omega) _ (by omega) hu6).mono ?_
  rintro u7 w7 ⟨hu7, hb7⟩
  have hS2 := hS.trans (hb7.mono z5)
  have s7 := hb7.size
  apply Lst_nil
  apply rnQ_n
  refine ⟨hS2, ?_⟩
  clear hS
  have hS := hS2
  clear hS2
  refine S_any [9] 1 rfl (by kernel_rfl) (all1 ?_)
  (apply Lst_call; (focus rfl); (focus rfl))
  refine (c_Equal _ _ _ (b.take 16) (by rw [List.length_append, fixN_length, List.length_take]; omega) _ (Ints.ofO hu7) (Ints.below i16 hS (Nat.le_refl _))).mono ?_
  rintro v w8 ⟨rfl, hb8⟩
  have hS2 := Sx.Below.after (w := w) hS hb8
  apply Lst_nil
  apply rnQ_n
  refine ⟨hS2, ?_⟩
  clear hS
  have hS := hS2
  clear hS2
  by_cases e16 : ¬ b.take 12 ++ fixN 4 (crc (b.take 12)) = b.take 16
  · rw [decide_eq_false e16]
    have hno : ∀ y, ¬ Rec n b y := fun y hy => e16 (by
      rw [rec_h2 hy.2, rec_h3 hy.2]
      rfl)
    refine S_takeV 10 0 rfl (by kernel_rfl) calm_no hS ?_
    (refine Qb ?_)
    refine S_done (by kernel_rfl) ?_
    refine calm_n ?_
    (refine Ga ?_)
    (refine Ga ?_)
    apply Lst_pu
    · apply P_iface
      focus rfl
      focus exact Tryz.underlying118
      focus (intro ms; simp)
    focus rfl
    (refine Ga ?_)
    apply Lst_panic
    focus rfl
    repeat (first | apply seqQ_f | apply blkQ_f)
    exact retF_p ⟨rfl, hno, hS⟩
  have e16' := Classical.not_not.1 e16
  rw [decide_eq_true e16']
  have ix := Ints.sub h hc (show 20 ≤ 20 + L by omega) (show 20 + L ≤ b.length by omega)
  have iz := Ints.sub h hc (Nat.zero_le (20 + L)) (show 20 + L ≤ b.length by omega)
  rw [List.drop_zero, nums_take] at iz
  rw [nums_take, nums_drop] at ix
  have hxl : ((b.take (20 + L)).drop 20).length = L := by rw [List.length_drop, List.length_take]; omega
  refine S_takeV 10 0 rfl (by kernel_rfl) calm_no hS ?_
  (refine Qb ?_)
  refine S_done (by kernel_rfl) ?_
  refine calm_n ?_
  (refine Ga ?_)
  rw [Int.toNat_natCast]
  refine W_calm ?_
  refine W_drawS 7 (fun A => Below w.heap.size w A) rfl rfl ?_
  have hS := hS.drew
  refine S_takeV 0 6 rfl (by kernel_rfl) calm_no hS ?_
  (refine Qb ?_)
  refine S_takeV 1 5 rfl (by kernel_rfl) calm_no hS ?_
  (refine Qb ?_)
  refine S_takeV 3 4 rfl (by kernel_rfl) calm_no hS ?_
  (refine Qb ?_)
  refine S_takeV 4 3 rfl (by kernel_rfl) calm_no hS ?_
  (refine Qb ?_)
  refine S_takeV 5 2 rfl (by kernel_rfl) calm_no hS ?_
  apply Qst_pu
  · apply P_lslice_hi
    focus rfl
    focus rfl
    focus rfl
    focus rfl
    focus rfl
    focus omega
    focus omega
  focus rfl
  (refine Qb ?_)
  refine S_any [2] 1 rfl (by kernel_rfl) (all1 ?_)
  (apply Lst_call; (focus rfl); (focus rfl))
  refine (c_framed n (by omega) _ ((b.take (20 + L)).drop 20) (by rw [List.length_drop, List.length_take]; omega) _ (.inl (Ints.below ix hS (Nat.le_refl _)))).mono ?_
  rintro u10 w10 ⟨hi10, ⟨a10, c10, rfl⟩, hb10⟩
  have hS2 := Sx.Below.after (w := w) hS hb10
  apply Lst_nil
  apply rnQ_n
  refine ⟨hS2, ?_⟩
  clear hS
  have hS := hS2
  clear hS2
  refine S_any [6] 0 rfl (by kernel_rfl) (all1 ?_)
  (apply Lst_call; (focus rfl); (focus rfl))
  refine (c_Equal _ _ _ (b.take (20 + L)) (by rw [rec_len, hxl]; omega) _ hi10 (Ints.below iz hS (Nat.le_refl _))).mono ?_
  rintro v w11 ⟨rfl, hb11⟩
  have hS2 := Sx.Below.after (w := w) hS hb11
  apply Lst_nil
  apply rnQ_n
  refine ⟨hS2, ?_⟩
  clear hS
  have hS := hS2
  clear hS2
  refine S_done (by kernel_rfl) ?_
  refine calm_n ?_
  by_cases ez : rec1 n ((b.take (20 + L)).drop 20) = b.take (20 + L)
  · rw [decide_eq_true ez]
    have hrec : Rec n b ((b.take (20 + L)).drop 20) := ⟨by rw [hxl]; omega, by rw [ez]; exact List.take_prefix _ _⟩
    (refine Ga ?_)
    (apply Lst_call; (focus rfl); (focus rfl))
    refine (c_CloneO _ _ (by rw [hxl]; omega) _ (Ints.below ix hS (Nat.le_refl _))).mono ?_
    rintro u12 w12 ⟨hi12, hb12⟩
    have b12 := Sx.Below.after (w := w) hS hb12
    have ho12 := own_low hi12 hS.size
    obtain ⟨a12, c12, rfl, _⟩ := own_form hi12
    (refine Ga ?_)
    apply retF_r
    (apply retQ1; (focus rfl))
    exact ⟨_, hrec, ho12, b12⟩
  · rw [decide_eq_false ez]
    have hno : ∀ y, ¬ Rec n b y := fun y hy => ez (by
      have h1 := rec_take hy.2
      have h2 := rec_body hy.2
      rw [hrl y hy] at h1 h2
      rw [h2, h1])
    (refine Ga ?_)
    apply Lst_pu
    · apply P_iface
      focus rfl
      focus exact Tryz.underlying118
      focus (intro ms; simp)
    focus rfl
    (refine Ga ?_)
    apply Lst_panic
    focus rfl
    repeat (first | apply seqQ_f | apply blkQ_f)
    exact retF_p ⟨rfl, hno, hS⟩
theorem D_okT (B B' : Nat) (w : World) : CallsDIn Fence.wide 0 Tryz.prog 77 [.pointer (some ⟨B, 0, none⟩), .pointer (some ⟨B', 0, none⟩)].toArray .returning w fun e v w' => (∃ x, e = .returned x) ∧ v = .returning ∧ w' = w := by
  refine D_recover (args := [.pointer (some ⟨B, 0, none⟩), .pointer (some ⟨B', 0, none⟩)]) (rv := .nilIface) Tryz.func77 rfl rfl rfl rfl rfl (.inr ⟨rfl, rfl, rfl⟩) ?_
  (refine Ga ?_)
  apply Lst_pu
  · apply P_ifnil (r := true)
    focus rfl
    focus rfl
    focus exact .inl ⟨rfl, rfl⟩
  focus rfl
  (refine Ga ?_)
  exact ⟨rfl, rfl⟩
theorem D_badT (B B' : Nat) (hne : B ≠ B') (x y : Value) (w : World) (hB : Blk w B [x] 22) (hB' : Blk w B' [y] 4) : CallsDIn Fence.wide 0 Tryz.prog 77 [.pointer (some ⟨B, 0, none⟩), .pointer (some ⟨B', 0, none⟩)].toArray (.panicking [{ v := tornV, recovered := false }]) w fun e v w' => (∃ y, e = .returned y) ∧ v = .panicking [{ v := tornV, recovered := true }] ∧ Blk w' B [.slice none 0 0] 22 ∧ Blk w' B' [.bool false] 4 ∧ Chg [B, B'] w w' := by
  refine D_recover (args := [.pointer (some ⟨B, 0, none⟩), .pointer (some ⟨B', 0, none⟩)]) (rv := tornV) Tryz.func77 rfl rfl rfl rfl rfl (.inl ⟨rfl, rfl⟩) ?_
  have hlt := hB.lt
  have hlt' := hB'.lt
  unfold tornV
  (refine Ga ?_)
  apply Lst_pu
  · apply P_ifnil (r := false)
    focus rfl
    focus rfl
    focus exact .inr ⟨_, _, rfl, rfl⟩
  focus rfl
  (refine Ga ?_)
  apply Lst_pu
  · apply P_assert (v := .agg #[])
    focus rfl
    focus exact Tryz.underlying118
    focus (intro ms; simp)
  focus rfl
  (refine Ga ?_)
  refine ⟨rfl, (by (repeat (first | assumption | (apply Blk.below (hb := hb1); rotate_left; (focus ((try simp only [Sx.sizes]); omega)); rotate_right) | (apply Blk.below (hb := hb2); rotate_left; (focus ((try simp only [Sx.sizes]); omega)); rotate_right) | (apply Blk.below (hb := hb3); rotate_left; (focus ((try simp only [Sx.sizes]); omega)); rotate_right) | (apply Blk.below (hb := hb4); rotate_left; (focus ((try simp only [Sx.sizes]); omega)); rotate_right) | (apply Blk.below (hb := hb5); rotate_left; (focus ((try simp only [Sx.sizes]); omega)); rotate_right) | (apply Blk.below (hb := hb6); rotate_left; (focus ((try simp only [Sx.sizes]); omega)); rotate_right) | (apply Blk.below (hb := hb7); rotate_left; (focus ((try simp only [Sx.sizes]); omega)); rotate_right) | (apply Blk.below (hb := hb8); rotate_left; (focus ((try simp only [Sx.sizes]); omega)); rotate_right) | (apply Blk.below (hb := hb9); rotate_left; (focus ((try simp only [Sx.sizes]); omega)); rotate_right) | exact Blk.newE (by first | rfl | ((try simp only [Sx.sizes]); first | done | omega)) _ _ | exact Blk.put_same (by (try simp only [Sx.sizes]); first | done | omega) _ _ | (apply Blk.put_ne; (focus omega)) | apply Blk.alloc | apply Blk.drew)); done), (by (repeat (first | assumption | (apply Blk.below (hb := hb1); rotate_left; (focus ((try simp only [Sx.sizes]); omega)); rotate_right) | (apply Blk.below (hb := hb2); rotate_left; (focus ((try simp only [Sx.sizes]); omega)); rotate_right) | (apply Blk.below (hb := hb3); rotate_left; (focus ((try simp only [Sx.sizes]); omega)); rotate_right) | (apply Blk.below (hb := hb4); rotate_left; (focus ((try simp only [Sx.sizes]); omega)); rotate_right) | (apply Blk.below (hb := hb5); rotate_left; (focus ((try simp only [Sx.sizes]); omega)); rotate_right) | (apply Blk.below (hb := hb6); rotate_left; (focus ((try simp only [Sx.sizes]); omega)); rotate_right) | (apply Blk.below (hb := hb7); rotate_left; (focus ((try simp only [Sx.sizes]); omega)); rotate_right) | (apply Blk.below (hb := hb8); rotate_left; (focus ((try simp only [Sx.sizes]); omega)); rotate_right) | (apply Blk.below (hb := hb9); rotate_left; (focus ((try simp only [Sx.sizes]); omega)); rotate_right) | exact Blk.newE (by first | rfl | ((try simp only [Sx.sizes]); first | done | omega)) _ _ | exact Blk.put_same (by (try simp only [Sx.sizes]); first | done | omega) _ _ | (apply Blk.put_ne; (focus omega)) | apply Blk.alloc | apply Blk.drew)); done), ?_⟩
  exact ((((Chg.refl [B, B'] w).alloc _).put (.inr (Nat.le_refl _)) _).put (.inl (by simp)) _).put (.inl (by simp)) _
/-- One record, or none. -/
theorem c_try (n : Nat) (hn : n < 1000000000) (a : Option Addr) (c : Nat) (b : List UInt8) (hl : b.length ≤ 50000000) (hc : b.length ≤ c) (w : World) (h : Ints w .u8 (.slice a b.length c) (nums b)) :
    Does Tryz.prog 61 #[.slice a b.length c, .int .i64 (n : Int)] w fun v w' => ((∃ x u, v = .tuple #[u, .bool true] ∧ Rec n b x ∧ OwnB w.heap.size w' u x) ∨ (v = .tuple #[.slice none 0 0, .bool false] ∧ ∀ x, ¬ Rec n b x)) ∧ Below w.heap.size w w' := by
  refine Tries.does (Tries_of_defers (args := [.slice a b.length c, .int .i64 (n : Int)]) (R := fun v w' => ((∃ x u, v = .tuple #[u, .bool true] ∧ Rec n b x ∧ OwnB w.heap.size w' u x) ∨ (v = .tuple #[.slice none 0 0, .bool false] ∧ ∀ x, ¬ Rec n b x)) ∧ Below w.heap.size w w') (K := fun _ _ => False) Tryz.func61 (by kernel_rfl) rfl rfl rfl ?_)
  have hE : Sx.Enters Tryz.prog 77 := Sx.enters_of Tryz.func77 (by kernel_rfl) rfl
  (refine Ga ?_)
  refine Lst_abs (fun W => Blk W w.heap.size [.slice none 0 0] 22 ∧ Blk W (w.heap.size + 1) [.bool false] 4 ∧ Below w.heap.size w W) ⟨(by (repeat (first | assumption | (apply Blk.below (hb := hb1); rotate_left; (focus ((try simp only [Sx.sizes]); omega)); rotate_right) | (apply Blk.below (hb := hb2); rotate_left; (focus ((try simp only [Sx.sizes]); omega)); rotate_right) | (apply Blk.below (hb := hb3); rotate_left; (focus ((try simp only [Sx.sizes]); omega)); rotate_right) | (apply Blk.below (hb := hb4); rotate_left; (focus ((try simp only [Sx.sizes]); omega)); rotate_right) | (apply Blk.below (hb := hb5); rotate_left; (focus ((try simp only [Sx.sizes]); omega)); rotate_right) | (apply Blk.below (hb := hb6); rotate_left; (focus ((try simp only [Sx.sizes]); omega)); rotate_right) | (apply Blk.below (hb := hb7); rotate_left; (focus ((try simp only [Sx.sizes]); omega)); rotate_right) | (apply Blk.below (hb := hb8); rotate_left; (focus ((try simp only [Sx.sizes]); omega)); rotate_right) | (apply Blk.below (hb := hb9); rotate_left; (focus ((try simp only [Sx.sizes]); omega)); rotate_right) | exact Blk.newE (by first | rfl | ((try simp only [Sx.sizes]); first | done | omega)) _ _ | exact Blk.put_same (by (try simp only [Sx.sizes]); first | done | omega) _ _ | (apply Blk.put_ne; (focus omega)) | apply Blk.alloc | apply Blk.drew)); done), Blk.newE (by rw [World.size_alloc]) _ _, Bel⟩ ?_
  rintro W1 ⟨k1, k2, bW⟩
  have lt2 := k2.lt
  have b0 := bW.size
  apply Lst_defer (cs := [.pointer (some ⟨w.heap.size, 0, none⟩), .pointer (some ⟨w.heap.size + 1, 0, none⟩)])
  focus rfl
  (refine Ga ?_)
  apply Lst_callF
  focus rfl
  focus rfl
  refine (c_one n hn a c b hl hc W1 (Ints.below h bW (Nat.le_refl _))).mono ?_ ?_
  · rintro v w1 ⟨x, hrec, hi, hb⟩
    obtain ⟨a1, c1, rfl, _⟩ := own_form hi
    have b1 := Sx.Below.after (w := w) bW hb
    have kk1 := k1.below hb (by omega)
    have kk2 := k2.below hb lt2
    have s1 := hb.size
    have hch : Chg [w.heap.size, w.heap.size + 1] w1 ((w1.putObj w.heap.size (.cells [.slice a1 x.length c1].toArray 22)).putObj (w.heap.size + 1) (.cells [.bool true].toArray 4)) := ((Chg.refl _ _).put (.inl (by simp)) _).put (.inl (by simp)) _
    have hi' : OwnB w.heap.size ((w1.putObj w.heap.size (.cells [.slice a1 x.length c1].toArray 22)).putObj (w.heap.size + 1) (.cells [.bool true].toArray 4)) (.slice a1 x.length c1) x := own_low (own_put (own_put hi (by omega) _) (by omega) _) b0
    have p1 : Blk ((w1.putObj w.heap.size (.cells [.slice a1 x.length c1].toArray 22)).putObj (w.heap.size + 1) (.cells [.bool true].toArray 4)) w.heap.size [.slice a1 x.length c1] 22 := Blk.put_ne (by omega) (Blk.put_same kk1.lt _ _)
    have p2 : Blk ((w1.putObj w.heap.size (.cells [.slice a1 x.length c1].toArray 22)).putObj (w.heap.size + 1) (.cells [.bool true].toArray 4)) (w.heap.size + 1) [.bool true] 4 := Blk.put_same (by rw [World.putObj_size]; exact kk2.lt) _ _
    have hbel := b1.trans (hch.below (by simp) b1.size)
    (refine Ga ?_)
    intro t ht hs
    refine leave1 (cs := [.pointer (some ⟨w.heap.size, 0, none⟩), .pointer (some ⟨w.heap.size + 1, 0, none⟩)]) (by simp) hE _ (D_okT _ _ _) ?_
    rintro w' rfl
    have hq : retQ Tryz.prog [.cell 4 22, .cell 5 4] (fun v w' => ((∃ x u, v = .tuple #[u, .bool true] ∧ Rec n b x ∧ OwnB w.heap.size w' u x) ∨ (v = .tuple #[.slice none 0 0, .bool false] ∧ ∀ x, ¬ Rec n b x)) ∧ Below w.heap.size w w') .ret _ [] _ :=
      retQ2c (F := fun i => t.getD i undef) (hs 4) Tryz.underlying22 rfl p1 (hs 5) Tryz.underlying4 rfl p2 ⟨.inl ⟨x, _, rfl, hrec, hi'⟩, hbel⟩
    unfold retQ at hq
    obtain ⟨_, vs, hv, hR'⟩ := hq
    exact ⟨_, run_results (rs := [.cell 4 22, .cell 5 4]) rfl (by decide) (⟨ht, rfl, fun _ => rfl⟩ : Fits _ _ [] ⟨t, []⟩) hv, hR'⟩
  · rintro v w1 ⟨rfl, hno, hb⟩
    have b1 := Sx.Below.after (w := w) bW hb
    have kk1 := k1.below hb (by omega)
    have kk2 := k2.below hb lt2
    repeat (first | apply seqQ_f | apply blkQ_f)
    intro t ht hs
    refine leave1 (cs := [.pointer (some ⟨w.heap.size, 0, none⟩), .pointer (some ⟨w.heap.size + 1, 0, none⟩)]) (by simp) hE _ (D_badT _ _ (by omega) _ _ _ kk1 kk2) ?_
    rintro w' ⟨hb1', hb2', hc'⟩
    have hq : retQ Tryz.prog [.cell 4 22, .cell 5 4] (fun v w' => ((∃ x u, v = .tuple #[u, .bool true] ∧ Rec n b x ∧ OwnB w.heap.size w' u x) ∨ (v = .tuple #[.slice none 0 0, .bool false] ∧ ∀ x, ¬ Rec n b x)) ∧ Below w.heap.size w w') .ret _ [] w' :=
      retQ2c (F := fun i => t.getD i undef) (hs 4) Tryz.underlying22 rfl hb1' (hs 5) Tryz.underlying4 rfl hb2' ⟨.inr ⟨rfl, hno⟩, b1.trans (hc'.below (by simp) b1.size)⟩
    unfold retQ at hq
    obtain ⟨_, vs, hv, hR'⟩ := hq
    exact ⟨_, run_results (rs := [.cell 4 22, .cell 5 4]) rfl (by decide) (⟨ht, rfl, fun _ => rfl⟩ : Fits _ _ [] ⟨t, []⟩) hv, hR'⟩
end
end Wa
end Go.Proofs.YtfocnbmihcnaoaaGreatDoor
