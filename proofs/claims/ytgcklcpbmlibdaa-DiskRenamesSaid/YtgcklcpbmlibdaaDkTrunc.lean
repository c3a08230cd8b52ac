/- DiskTruncates: the walk of the law. -/
import Derived.Test.YtgcklcpbmlibdaaDkKnown
namespace Go.Proofs.Ytgcklcpbmlibdaa
set_option maxRecDepth 100000
namespace Dk
open Go Go.RowKit Sx
def nF : ByteArray := ⟨#[102]⟩
def E0 : Dsk := ⟨[], 1048576, -1, false⟩
/-- The disk with one file. -/
def D1 (f : Fl) : Dsk := ⟨[(nF, f)], 1048576, -1, false⟩
theorem D1_file (f : Fl) : (D1 f).file nF = f := by unfold Dsk.file D1; simp [Sx.look]
theorem D1_isE (f : Fl) : (D1 f).isE nF = 0 := by unfold Dsk.isE D1; simp [Sx.look]
theorem D1_used (f : Fl) : used (D1 f).es = f.b.length := by unfold D1; simp [used]
theorem D1_put (f g : Fl) : Dsk.done { D1 f with es := Sx.put (D1 f).es nF g } = D1 g := by
  unfold D1 Dsk.done
  simp [Sx.put]
theorem D1_cut (f : Fl) : (D1 f).cut < 9223372036854775808 := by show (-1 : Int) < _; decide
theorem okF : nameOk nF = true := by decide
theorem app0 (a : List UInt8) (h : a.length ≤ 1048576) : E0.append nF a = (0, D1 ⟨a, 0⟩) := by
  unfold Dsk.append Dsk.full
  rw [okF]
  have e1 : (E0.file nF) = f0 := rfl
  have e2 : used E0.es = 0 := rfl
  have e3 : E0.dead = false := rfl
  have e4 : E0.room = 1048576 := rfl
  rw [e1, e2, e3, e4]
  rw [decide_eq_false (by simp [f0]; omega), decide_eq_false (by omega)]
  simp [f0, E0, D1, Dsk.done, Sx.put]
theorem app1 (f : Fl) (b : List UInt8) (h : f.b.length + b.length ≤ 1048576) : (D1 f).append nF b = (0, D1 ⟨f.b ++ b, f.safe⟩) := by
  unfold Dsk.append Dsk.full
  rw [okF, D1_file, D1_used]
  have e3 : (D1 f).dead = false := rfl
  have e4 : (D1 f).room = 1048576 := rfl
  rw [e3, e4]
  rw [decide_eq_false (by omega), decide_eq_false (by omega)]
  exact congrArg (Prod.mk (0 : Int)) (D1_put f ⟨f.b ++ b, f.safe⟩)
theorem sync1 (f : Fl) : (D1 f).sync nF = (0, D1 ⟨f.b, f.b.length⟩) := by
  unfold Dsk.sync
  rw [if_pos (D1_isE f), D1_file, D1_put]
theorem trunc1 (f : Fl) (n : Int) : (D1 f).truncate nF n = (0, D1 ⟨f.b.take (cutTo f n), min f.safe (cutTo f n)⟩) := by
  unfold Dsk.truncate
  rw [if_pos (D1_isE f), D1_file, D1_put]
theorem read1 (f : Fl) : (D1 f).read nF = (f.b, 0) := by
  unfold Dsk.read
  rw [if_pos (D1_isE f), D1_file]
theorem crash1 (f : Fl) : (D1 f).crash [] = D1 ⟨f.b.take f.safe, f.safe⟩ := by
  have e : keysS (D1 f).es = [[102]] := by unfold keysS keysB D1 nF; simp
  have e2 : (D1 f).crash [] = ⟨crN [] (keysS (D1 f).es) (D1 f).es 1, 1048576, -1, false⟩ := rfl
  rw [e] at e2
  rw [e2]
  have e3 : nameAt [[102]] 0 = nF := rfl
  have e4 : (crEnd [] 0 f).toNat = f.safe := by unfold crEnd; simp
  show Dsk.mk (Sx.put (D1 f).es (nameAt [[102]] 0) (crF [] 0 ((Sx.look (D1 f).es (nameAt [[102]] 0)).getD f0))) _ _ _ = _
  rw [e3]
  have e5 : (Sx.look (D1 f).es nF).getD f0 = f := D1_file f
  rw [e5]
  unfold crF
  rw [e4]
  simp [D1, Sx.put]
theorem names1 (f : Fl) : Names (D1 f) := ⟨by unfold D1; simp; decide, by unfold D1; simp⟩
theorem smallD (f : Fl) (h : f.b.length ≤ 1099511627776) : Small (D1 f).es := small1 (by unfold D1; simpa using h)
theorem cut_take (a b : List UInt8) (k : Nat) (hk : k ≤ a.length) : (a.take k ++ b).take (min a.length k) = a.take k := by
  rw [Nat.min_eq_right hk]
  have : (a.take k).length = k := by simp; omega
  rw [List.take_append_of_le_length (by omega), List.take_of_length_le (by omega)]
theorem own_nilb (w : World) : w.ownsRow w.heap.size 5 1 (.slice none 0 0) 0 (([] : List UInt8).map bc) := World.ownsRow_nil _ _ _ _
attribute [local irreducible] W Lst Qst Pu seqQ blkQ rndQ cutQ retQ Does Enters IntKind.wrap bits sb World.alloc World.putObj Blk
set_option maxHeartbeats 4000000 in
theorem law_DiskTruncates (av bv : Value) (a b : List UInt8) (n : Int) (synced : Bool) (w : World) (ha : Ints w .u8 av (nums a)) (hb : Ints w .u8 bv (nums b)) (hac : ∃ x m c, av = .slice x m c ∧ m ≤ c) (hal : a.length ≤ 281474976710656) (hbl : b.length ≤ 281474976710656) :
    Does Try.prog 4 #[av, bv, .int .i64 n, .bool synced] w fun v w' => v = .bool true ∧ Below w.heap.size w w' := by
  obtain ⟨a1, am, a2, rfl, hamc⟩ := hac
  have hla : a.length = am := by have := Ints.len ha; rw [← this]; simp [nums]
  subst hla
  obtain ⟨b1, b2, rfl⟩ := hb.form
  have hlb : (nums b).length = b.length := by simp [nums]
  rw [hlb] at hb ⊢
  refine Does_of (args := [.slice a1 a.length a2, .slice b1 b.length b2, .int .i64 n, .bool synced]) Try.func4 (by kernel_rfl) rfl rfl rfl rfl rfl ?_
  (refine Ga ?_)
  (apply Lst_call; (focus rfl); (focus rfl))
  refine (c_known _).mono ?_
  rintro v w1 ⟨rfl, hb1⟩
  have b1 := Sx.Below.after (w := w) Bel hb1
  have s1 := hb1.size
  try simp only [Sx.sizes] at s1
  by_cases hl : 3000 < a.length + b.length
  · (refine Ga ?_)
    (apply retQ1; (focus rfl))
    exact ⟨rfl, b1⟩
  (refine Ga ?_)
  (apply Lst_call; (focus rfl); (focus rfl))
  refine (c_New 1048576 _).mono ?_
  rintro v w2 ⟨p, mb, rfl, hp, hm, hd, hb2⟩
  have hd : DkAt w2 p mb E0 := hd
  have hp' : w.heap.size ≤ p := Nat.le_trans s1 hp
  have hm' : w.heap.size ≤ mb := Nat.le_trans s1 hm
  have b2 := b1.trans (hb2.mono s1)
  have ha2 := Ints.below ha b2 (Nat.le_refl _)
  (refine Ga ?_)
  have cA := c_Append p mb E0 (by decide) nF _ a (by simp [E0, used]; omega) (by simp [Dsk.file, E0, Sx.look, f0]) _ hd ha2
  rw [app0 a (by omega)] at cA
  (apply Lst_call; (focus rfl); (focus rfl))
  refine cA.mono ?_
  clear cA
  rintro v w3 ⟨rfl, hd3, hc3⟩
  have b3 := b2.trans (Chg.low hc3 hp' hm' b2.size)
  clear hd ha2 hb2 hc3 b2 hb1 b1
  have hpl : (a.length : Int) + 3 ≤ 3003 := by omega
  generalize hN : n % ((a.length : Int) + 3) = N
  have hN0 : 0 ≤ N := by rw [← hN]; exact Int.emod_nonneg _ (by omega)
  have hN1 : N < (a.length : Int) + 3 := by rw [← hN]; exact Int.emod_lt_of_pos _ (by omega)
  cases hsy : synced with
  | false =>
    (refine Ga ?_)
    have cP := fun A => c_Place n ((a.length : Int) + 3) (by omega) (by omega) A
    rw [hN] at cP
    (apply Lst_call; (focus rfl); (focus rfl))
    refine (cP _).mono ?_
    rintro v w' ⟨rfl, rfl⟩
    (refine Ga ?_)
    have cA := c_Truncate p mb (D1 ⟨a, 0⟩) (D1_cut _) nF N _ hd3
    rw [trunc1] at cA
    have hk : cutTo ⟨a, 0⟩ N = min N.toNat a.length := by unfold cutTo; dsimp only; omega
    rw [hk] at cA
    dsimp only at cA
    have hkl : min N.toNat a.length ≤ a.length := Nat.min_le_right _ _
    have hmin : min N (a.length : Int) = ((min N.toNat a.length : Nat) : Int) := by omega
    generalize min N.toNat a.length = k at cA hkl hmin
    (apply Lst_call; (focus rfl); (focus rfl))
    refine cA.mono ?_
    clear cA
    rintro v w5 ⟨rfl, hd5, hc5⟩
    have b5 := b3.trans (Chg.low hc5 hp' hm' b3.size)
    (refine Ga ?_)
    have htl : (a.take k).length = k := by simp; omega
    have cA := c_Append p mb (D1 ⟨a.take k, min 0 k⟩) (D1_cut _) nF _ b (by rw [D1_used]; dsimp only; omega) (by rw [D1_file]; dsimp only; omega) _ hd5 (Ints.below hb b5 (Nat.le_refl _))
    rw [app1 _ _ (by dsimp only; omega)] at cA
    dsimp only at cA
    (apply Lst_call; (focus rfl); (focus rfl))
    refine cA.mono ?_
    clear cA
    rintro v w6 ⟨rfl, hd6, hc6⟩
    have b6 := b5.trans (Chg.low hc6 hp' hm' b5.size)
    clear hd5 hc5 hc6 b5 hd3 b3
    (refine Ga ?_)
    rw [hmin]
    have hleft : Ints w6 .u8 (sliced a1 0 k a2 1) (nums (a.take k)) := by
      have := Ints.sub (Ints.below ha b6 (Nat.le_refl _)) hamc (Nat.zero_le k) hkl
      rw [List.drop_zero] at this
      unfold nums at this ⊢
      rwa [List.map_take]
    have cA := c_Read p mb (D1 ⟨a.take k ++ b, min 0 k⟩) nF (by rw [D1_file]; dsimp only; rw [List.length_append]; omega) _ hd6
    rw [read1] at cA
    (apply Lst_call; (focus rfl); (focus rfl))
    refine cA.mono ?_
    clear cA
    rintro v w7 ⟨⟨gv, rfl, hgv⟩, hb7⟩
    obtain ⟨g1, g2, rfl⟩ := hgv.form
    have b7 := b6.trans (hb7.mono b6.size)
    have hd7 := hd6.below hb7
    have hleft7 := Ints.below hleft hb7 (Nat.le_refl _)
    clear hd6 hleft
    (refine Ga ?_)
    apply Lst_appints (hown := own_nilb w7) (l := a.take k)
    focus exact .inl hleft7
    focus rfl
    focus rfl
    focus rfl
    focus rfl
    focus rfl
    focus rfl
    focus rfl
    focus rfl
    focus rfl
    focus omega
    focus exact Nat.le_refl _
    intro v8 w8 hown8 hg8
    have hb8 : Below w7.heap.size w7 w8 := Below.grown (Below.refl _ _) hg8 (Nat.le_refl _) (fun j hj => by cases hj)
    obtain ⟨u1, u2, u3, rfl⟩ := own_slice hown8
    have b8 := b7.trans (hb8.mono b7.size)
    (refine Ga ?_)
    apply Lst_appints (hown := hown8) (l := b)
    focus exact .inl (Ints.below hb b8 (Nat.le_refl _))
    focus rfl
    focus rfl
    focus rfl
    focus rfl
    focus rfl
    focus rfl
    focus rfl
    focus rfl
    focus rfl
    focus omega
    focus exact hb8.size
    intro v9 w9 hown9 hg9
    have hb9 : Below w7.heap.size w7 w9 := Below.grown hb8 hg9 hb8.size (fun j hj => own_ge hown8 j hj)
    obtain ⟨x1, x2, x3, rfl⟩ := own_slice hown9
    have hi9 : Ints w9 .u8 (.slice x1 x2 x3) (nums (a.take k ++ b)) := by
      have e : ([] : List UInt8).map bc ++ (a.take k).map bc ++ b.map bc = (nums (a.take k ++ b)).map (Value.int .u8) := by
        rw [nums_map, List.map_append]; rfl
      rw [e] at hown9
      exact Ints.of_own hown9
    have b9 := b7.trans (hb9.mono b7.size)
    have hgv9 := Ints.below hgv hb9 (Nat.le_refl _)
    have hd9 := hd7.below hb9
    clear hown8 hown9 hg8 hg9 hb8 hd7 hgv hb7 hb9 b7 b8
    (refine Ga ?_)
    (apply Lst_call; (focus rfl); (focus rfl))
    refine (h_Bytes _ _ (a.take k ++ b) (a.take k ++ b) _ hgv9 hi9).mono ?_
    rintro v w' ⟨rfl, rfl⟩
    rw [decide_eq_true rfl]
    (refine Ga ?_)
    have cA := c_Used p mb (D1 ⟨a.take k ++ b, min 0 k⟩) (by rw [D1_used]; dsimp only; rw [List.length_append]; omega) _ hd9
    rw [D1_used] at cA
    dsimp only at cA
    rw [List.length_append, htl] at cA
    (apply Lst_call; (focus rfl); (focus rfl))
    refine cA.mono ?_
    clear cA
    rintro v w10 ⟨rfl, hb10⟩
    have b10 := b9.trans (hb10.mono b9.size)
    have hd10 := hd9.below hb10
    clear hd9
    (refine Ga ?_)
    have cA := c_Crash p mb (D1 ⟨a.take k ++ b, min 0 k⟩) (names1 _) (smallD _ (by dsimp only; rw [List.length_append]; omega)) (.slice none 0 0) [] (by decide) (by simp) _ hd10 ⟨0, 0, 0, .inr ⟨rfl, rfl⟩, fun e => absurd rfl e, fun j hj => by simp at hj⟩
    rw [crash1] at cA
    dsimp only at cA
    (apply Lst_call; (focus rfl); (focus rfl))
    refine cA.mono ?_
    clear cA
    rintro v w11 ⟨rfl, hd11, hc11⟩
    have b11 := b10.trans (Chg.low hc11 hp' hm' b10.size)
    clear hc11 hd10
    (refine Ga ?_)
    have cA := c_Read p mb (D1 ⟨(a.take k ++ b).take (min 0 k), min 0 k⟩) nF (by rw [D1_file]; dsimp only; rw [List.length_take, List.length_append]; omega) _ hd11
    rw [read1] at cA
    (apply Lst_call; (focus rfl); (focus rfl))
    refine cA.mono ?_
    clear cA
    rintro v w12 ⟨⟨rv, rfl, hrv⟩, hb12⟩
    obtain ⟨r1, r2, rfl⟩ := hrv.form
    have b12 := b11.trans (hb12.mono b11.size)
    (refine Ga ?_)
    have hX : (a.take k ++ b).take (min 0 k) = [] := by simp
    have hnl : Ints w12 .u8 (.slice none 0 0) (nums ([] : List UInt8)) := ⟨0, 0, 0, .inr ⟨rfl, rfl⟩, fun e => absurd rfl e, fun j hj => by simp [nums] at hj⟩
    (apply Lst_call; (focus rfl); (focus rfl))
    refine (h_Bytes _ _ ((a.take k ++ b).take (min 0 k)) [] _ hrv hnl).mono ?_
    rintro v w' ⟨rfl, rfl⟩
    rw [decide_eq_true hX]
    (refine Ga ?_)
    (apply retQ1; (focus rfl))
    exact ⟨rfl, b12⟩
  | true =>
    (refine Ga ?_)
    have cA := c_Sync p mb (D1 ⟨a, 0⟩) (D1_cut _) nF _ hd3
    rw [sync1] at cA
    (apply Lst_call; (focus rfl); (focus rfl))
    refine cA.mono ?_
    clear cA
    rintro v w4 ⟨rfl, hd4, hc4⟩
    have b4 := b3.trans (Chg.low hc4 hp' hm' b3.size)
    clear hd3 hc4 b3
    (refine Ga ?_)
    have cP := fun A => c_Place n ((a.length : Int) + 3) (by omega) (by omega) A
    rw [hN] at cP
    (apply Lst_call; (focus rfl); (focus rfl))
    refine (cP _).mono ?_
    rintro v w' ⟨rfl, rfl⟩
    (refine Ga ?_)
    have cA := c_Truncate p mb (D1 ⟨a, a.length⟩) (D1_cut _) nF N _ hd4
    rw [trunc1] at cA
    have hk : cutTo ⟨a, a.length⟩ N = min N.toNat a.length := by unfold cutTo; dsimp only; omega
    rw [hk] at cA
    dsimp only at cA
    have hkl : min N.toNat a.length ≤ a.length := Nat.min_le_right _ _
    have hmin : min N (a.length : Int) = ((min N.toNat a.length : Nat) : Int) := by omega
    generalize min N.toNat a.length = k at cA hkl hmin
    (apply Lst_call; (focus rfl); (focus rfl))
    refine cA.mono ?_
    clear cA
    rintro v w5 ⟨rfl, hd5, hc5⟩
    have b5 := b4.trans (Chg.low hc5 hp' hm' b4.size)
    (refine Ga ?_)
    have htl : (a.take k).length = k := by simp; omega
    have cA := c_Append p mb (D1 ⟨a.take k, min a.length k⟩) (D1_cut _) nF _ b (by rw [D1_used]; dsimp only; omega) (by rw [D1_file]; dsimp only; omega) _ hd5 (Ints.below hb b5 (Nat.le_refl _))
    rw [app1 _ _ (by dsimp only; omega)] at cA
    dsimp only at cA
    (apply Lst_call; (focus rfl); (focus rfl))
    refine cA.mono ?_
    clear cA
    rintro v w6 ⟨rfl, hd6, hc6⟩
    have b6 := b5.trans (Chg.low hc6 hp' hm' b5.size)
    clear hd5 hc5 hc6 b5 hd4 b4
    (refine Ga ?_)
    rw [hmin]
    have hleft : Ints w6 .u8 (sliced a1 0 k a2 1) (nums (a.take k)) := by
      have := Ints.sub (Ints.below ha b6 (Nat.le_refl _)) hamc (Nat.zero_le k) hkl
      rw [List.drop_zero] at this
      unfold nums at this ⊢
      rwa [List.map_take]
    have cA := c_Read p mb (D1 ⟨a.take k ++ b, min a.length k⟩) nF (by rw [D1_file]; dsimp only; rw [List.length_append]; omega) _ hd6
    rw [read1] at cA
    (apply Lst_call; (focus rfl); (focus rfl))
    refine cA.mono ?_
    clear cA
    rintro v w7 ⟨⟨gv, rfl, hgv⟩, hb7⟩
    obtain ⟨g1, g2, rfl⟩ := hgv.form
    have b7 := b6.trans (hb7.mono b6.size)
    have hd7 := hd6.below hb7
    have hleft7 := Ints.below hleft hb7 (Nat.le_refl _)
    clear hd6 hleft
    (refine Ga ?_)
    apply Lst_appints (hown := own_nilb w7) (l := a.take k)
    focus exact .inl hleft7
    focus rfl
    focus rfl
    focus rfl
    focus rfl
    focus rfl
    focus rfl
    focus rfl
    focus rfl
    focus rfl
    focus omega
    focus exact Nat.le_refl _
    intro v8 w8 hown8 hg8
    have hb8 : Below w7.heap.size w7 w8 := Below.grown (Below.refl _ _) hg8 (Nat.le_refl _) (fun j hj => by cases hj)
    obtain ⟨u1, u2, u3, rfl⟩ := own_slice hown8
    have b8 := b7.trans (hb8.mono b7.size)
    (refine Ga ?_)
    apply Lst_appints (hown := hown8) (l := b)
    focus exact .inl (Ints.below hb b8 (Nat.le_refl _))
    focus rfl
    focus rfl
    focus rfl
    focus rfl
    focus rfl
    focus rfl
    focus rfl
    focus rfl
    focus rfl
    focus omega
    focus exact hb8.size
    intro v9 w9 hown9 hg9
    have hb9 : Below w7.heap.size w7 w9 := Below.grown hb8 hg9 hb8.size (fun j hj => own_ge hown8 j hj)
    obtain ⟨x1, x2, x3, rfl⟩ := own_slice hown9
    have hi9 : Ints w9 .u8 (.slice x1 x2 x3) (nums (a.take k ++ b)) := by
      have e : ([] : List UInt8).map bc ++ (a.take k).map bc ++ b.map bc = (nums (a.take k ++ b)).map (Value.int .u8) := by
        rw [nums_map, List.map_append]; rfl
      rw [e] at hown9
      exact Ints.of_own hown9
    have b9 := b7.trans (hb9.mono b7.size)
    have hgv9 := Ints.below hgv hb9 (Nat.le_refl _)
    have hd9 := hd7.below hb9
    clear hown8 hown9 hg8 hg9 hb8 hd7 hgv hb7 hb9 b7 b8
    (refine Ga ?_)
    (apply Lst_call; (focus rfl); (focus rfl))
    refine (h_Bytes _ _ (a.take k ++ b) (a.take k ++ b) _ hgv9 hi9).mono ?_
    rintro v w' ⟨rfl, rfl⟩
    rw [decide_eq_true rfl]
    (refine Ga ?_)
    have cA := c_Used p mb (D1 ⟨a.take k ++ b, min a.length k⟩) (by rw [D1_used]; dsimp only; rw [List.length_append]; omega) _ hd9
    rw [D1_used] at cA
    dsimp only at cA
    rw [List.length_append, htl] at cA
    (apply Lst_call; (focus rfl); (focus rfl))
    refine cA.mono ?_
    clear cA
    rintro v w10 ⟨rfl, hb10⟩
    have b10 := b9.trans (hb10.mono b9.size)
    have hd10 := hd9.below hb10
    clear hd9
    (refine Ga ?_)
    have cA := c_Crash p mb (D1 ⟨a.take k ++ b, min a.length k⟩) (names1 _) (smallD _ (by dsimp only; rw [List.length_append]; omega)) (.slice none 0 0) [] (by decide) (by simp) _ hd10 ⟨0, 0, 0, .inr ⟨rfl, rfl⟩, fun e => absurd rfl e, fun j hj => by simp at hj⟩
    rw [crash1] at cA
    dsimp only at cA
    (apply Lst_call; (focus rfl); (focus rfl))
    refine cA.mono ?_
    clear cA
    rintro v w11 ⟨rfl, hd11, hc11⟩
    have b11 := b10.trans (Chg.low hc11 hp' hm' b10.size)
    clear hc11 hd10
    (refine Ga ?_)
    have cA := c_Read p mb (D1 ⟨(a.take k ++ b).take (min a.length k), min a.length k⟩) nF (by rw [D1_file]; dsimp only; rw [List.length_take, List.length_append]; omega) _ hd11
    rw [read1] at cA
    (apply Lst_call; (focus rfl); (focus rfl))
    refine cA.mono ?_
    clear cA
    rintro v w12 ⟨⟨rv, rfl, hrv⟩, hb12⟩
    obtain ⟨r1, r2, rfl⟩ := hrv.form
    have b12 := b11.trans (hb12.mono b11.size)
    (refine Ga ?_)
    have hleft : Ints w12 .u8 (sliced a1 0 k a2 1) (nums (a.take k)) := by
      have := Ints.sub (Ints.below ha b12 (Nat.le_refl _)) hamc (Nat.zero_le k) hkl
      rw [List.drop_zero] at this
      unfold nums at this ⊢
      rwa [List.map_take]
    (apply Lst_call; (focus rfl); (focus rfl))
    refine (h_Bytes _ _ ((a.take k ++ b).take (min a.length k)) (a.take k) _ hrv hleft).mono ?_
    rintro v w' ⟨rfl, rfl⟩
    rw [decide_eq_true (cut_take a b k hkl)]
    (refine Ga ?_)
    (apply retQ1; (focus rfl))
    exact ⟨rfl, b12⟩
end Dk
end Go.Proofs.Ytgcklcpbmlibdaa

