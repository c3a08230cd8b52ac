/- The walk of quirelaw2.known: the chapter's examples hold. -/
import Derived.Test.YtpfhnapjddckfaaGreatDoorText2
namespace Go.Proofs.YtpfhnapjddckfaaGreatDoor
set_option maxRecDepth 100000
namespace Val
open Go Go.RowKit Sx Fl Hex
def fv (f : Nat) : Vl := ⟨3, 0, f, ⟨#[]⟩⟩
theorem fv_fit {f : Nat} (h : f < 18446744073709551616) : (fv f).Fit := ⟨by show (-9223372036854775808 : Int) ≤ 3; decide, by show (3 : Int) < _; decide, by show (-9223372036854775808 : Int) ≤ 0; decide, by show (0 : Int) < _; decide, h, by show 0 < 140737488355328; omega⟩
theorem x1 : cmpV (fv 9223372036854775808) (fv 0) = -1 := by decide
theorem x2 : textV (fv 4607182418800017408) = [102, 51, 102, 102, 48, 48, 48, 48, 48, 48, 48, 48, 48, 48, 48, 48, 48] := by decide
theorem x3 : addV (fv 9218868437227405312) (fv 18442240474082181120) = fv 9221120237041090560 := by kernel_rfl
theorem x4 : textV ⟨4, 0, 0, ⟨#[97, 34, 98]⟩⟩ = [34, 97, 92, 34, 98, 34] := by decide
theorem x5 : okV ⟨9, 0, 0, ⟨#[]⟩⟩ = false := by decide
theorem x6 : okV ⟨0, 0, 9223372036854775808, ⟨#[]⟩⟩ = false := by decide
theorem x7 : cmpV (fv 9221120237041090561) (fv 18444492273895866369) = 0 := by decide
theorem x8 : addV ⟨2, 2, 0, ⟨#[]⟩⟩ (fv 4602678819172646912) = fv 4612811918334230528 := by kernel_rfl
theorem x9 : negf 9218868437227405312 = 18442240474082181120 := by decide
theorem x10 : negf 9221120237041090561 = 18444492273895866369 := by decide
theorem c_fv (f : Nat) (w : World) : Does Tryz.prog 21 #[.float .f64 f] w fun v w' => v = (fv f).v ∧ Below w.heap.size w w' := c_float f w
attribute [local irreducible] W Lst Qst Pu seqQ blkQ rndQ cutQ retQ Does Enters IntKind.wrap bits sb World.alloc World.putObj Blk
theorem c_Inf (w : World) : Does Tryz.prog 19 #[.int .i64 1] w fun v w' => v = .float .f64 9218868437227405312 ∧ w = w' := by
  refine Does_of (args := [.int .i64 1]) Tryz.func19 (by kernel_rfl) rfl rfl rfl rfl rfl ?_
  (refine Ga ?_)
  (apply retQ1; (focus rfl))
  exact ⟨rfl, rfl⟩
theorem c_NaN (w : World) : Does Tryz.prog 27 #[] w fun v w' => v = .float .f64 9221120237041090561 ∧ w = w' := by
  refine Does_of (args := []) Tryz.func27 (by kernel_rfl) rfl rfl rfl rfl rfl ?_
  (refine Ga ?_)
  (apply retQ1; (focus rfl))
  exact ⟨rfl, rfl⟩
theorem c_known (w : World) (hT : VTabs w) : Does Tryz.prog 4 #[] w fun v w' => v = .bool true ∧ Below w.heap.size w w' := by
  refine Does_of (args := []) Tryz.func4 (by kernel_rfl) rfl rfl rfl rfl rfl ?_
  have e9 := x9
  have e10 := x10
  have a1 := fun A => c_Cmp (fv 9223372036854775808) (fv 0) (fv_fit (by decide)) (fv_fit (by decide)) A
  rw [x1] at a1
  have a2 := fun A h => c_Text (fv 4607182418800017408) (fv_fit (by decide)) (by decide) A h
  rw [x2] at a2
  have a3 := fun A => c_Add (fv 9218868437227405312) (fv 18442240474082181120) A
  rw [x3] at a3
  change ∀ A : World, Does Tryz.prog 20 _ A (fun v w' => v = .agg #[.int .i64 3, .int .i64 0, .float .f64 9221120237041090560, .string ⟨#[]⟩] ∧ Below A.heap.size A w') at a3
  have f4 : Vl.Fit ⟨4, 0, 0, ⟨#[97, 34, 98]⟩⟩ := ⟨by decide, by decide, by decide, by decide, by decide, by decide⟩
  have a4 := fun A h => c_Text ⟨4, 0, 0, ⟨#[97, 34, 98]⟩⟩ f4 (by decide) A h
  rw [x4] at a4
  have a5 := fun A h => c_Check ⟨9, 0, 0, ⟨#[]⟩⟩ A h (by decide)
  rw [x5, if_neg (by simp)] at a5
  have a6 := fun A h => c_Check ⟨0, 0, 9223372036854775808, ⟨#[]⟩⟩ A h (by decide)
  rw [x6, if_neg (by simp)] at a6
  have a7 := fun A => c_Same (fv 9221120237041090561) (fv 18444492273895866369) (fv_fit (by decide)) (fv_fit (by decide)) A
  rw [x7] at a7
  have a8 := fun A => c_Add ⟨2, 2, 0, ⟨#[]⟩⟩ (fv 4602678819172646912) A
  rw [x8] at a8
  change ∀ A : World, Does Tryz.prog 20 _ A (fun v w' => v = .agg #[.int .i64 3, .int .i64 0, .float .f64 4612811918334230528, .string ⟨#[]⟩] ∧ Below A.heap.size A w') at a8
  have o1 : Ieee.double.order 9221120237041090560 9221120237041090560 = none := ord_self_nan rfl
  have o2 : Ieee.double.order 4612811918334230528 4612811918334230528 = some .eq := ord_self rfl
  (refine Ga ?_)
  (apply Lst_call; (focus rfl); (focus rfl))
  refine (c_Inf _).mono ?_
  rintro v w' ⟨rfl, rfl⟩
  (refine Ga ?_)
  (apply Lst_call; (focus rfl); (focus rfl))
  refine (c_fv 9218868437227405312 _).mono ?_
  rintro v w1 ⟨rfl, hb1⟩
  have b1 := Sx.Below.after (w := w) Bel hb1
  have s1 := hb1.size
  try simp only [Sx.sizes] at s1
  (refine Ga ?_)
  (apply Lst_call; (focus rfl); (focus rfl))
  refine (c_fv 18442240474082181120 _).mono ?_
  rintro v w2 ⟨rfl, hb2⟩
  have b2 := Sx.Below.after (w := w) Bel hb2
  have s2 := hb2.size
  try simp only [Sx.sizes] at s2
  (refine Ga ?_)
  (apply Lst_call; (focus rfl); (focus rfl))
  refine (a3 _).mono ?_
  rintro v w3 ⟨rfl, hb3⟩
  have b3 := Sx.Below.after (w := w) Bel hb3
  have s3 := hb3.size
  try simp only [Sx.sizes] at s3
  (refine Ga ?_)
  (apply Lst_call; (focus rfl); (focus rfl))
  refine (c_fv 9223372036854775808 _).mono ?_
  rintro v w4 ⟨rfl, hb4⟩
  have b4 := Sx.Below.after (w := w) Bel hb4
  have s4 := hb4.size
  try simp only [Sx.sizes] at s4
  (refine Ga ?_)
  (apply Lst_call; (focus rfl); (focus rfl))
  refine (c_fv 0 _).mono ?_
  rintro v w5 ⟨rfl, hb5⟩
  have b5 := Sx.Below.after (w := w) Bel hb5
  have s5 := hb5.size
  try simp only [Sx.sizes] at s5
  (refine Ga ?_)
  (apply Lst_call; (focus rfl); (focus rfl))
  refine (a1 _).mono ?_
  rintro v w6 ⟨rfl, hb6⟩
  have b6 := Sx.Below.after (w := w) Bel hb6
  have s6 := hb6.size
  try simp only [Sx.sizes] at s6
  (refine Ga ?_)
  (apply Lst_call; (focus rfl); (focus rfl))
  refine (c_fv 4607182418800017408 _).mono ?_
  rintro v w7 ⟨rfl, hb7⟩
  have b7 := Sx.Below.after (w := w) Bel hb7
  have s7 := hb7.size
  try simp only [Sx.sizes] at s7
  (refine Ga ?_)
  (apply Lst_call; (focus rfl); (focus rfl))
  refine (a2 _ (hT.below Bel)).mono ?_
  rintro v w8 ⟨rfl, hb8⟩
  have b8 := Sx.Below.after (w := w) Bel hb8
  have s8 := hb8.size
  try simp only [Sx.sizes] at s8
  (refine Ga ?_)
  refine Lst_abs (fun A => Below w.heap.size w A) Bel ?_
  clear hb1 b1 s1 hb2 b2 s2 hb3 b3 s3 hb4 b4 s4 hb5 b5 s5 hb6 b6 s6 hb7 b7 s7 hb8 b8 s8
  intro W0 b0
  have s0 := b0.size
  (refine Ga ?_)
  (apply Lst_call; (focus rfl); (focus rfl))
  refine (a4 _ (hT.below Bel)).mono ?_
  rintro v w1 ⟨rfl, hb1⟩
  have b1 := Sx.Below.after (w := w) Bel hb1
  have s1 := hb1.size
  try simp only [Sx.sizes] at s1
  (refine Ga ?_)
  (apply Lst_call; (focus rfl); (focus rfl))
  refine (a5 _ (hT.below Bel).utf).mono ?_
  rintro v w2 ⟨rfl, hb2⟩
  have b2 := Sx.Below.after (w := w) Bel hb2
  have s2 := hb2.size
  try simp only [Sx.sizes] at s2
  (refine Ga ?_)
  (apply Lst_call; (focus rfl); (focus rfl))
  refine (a6 _ (hT.below Bel).utf).mono ?_
  rintro v w3 ⟨rfl, hb3⟩
  have b3 := Sx.Below.after (w := w) Bel hb3
  have s3 := hb3.size
  try simp only [Sx.sizes] at s3
  (refine Ga ?_)
  (apply Lst_call; (focus rfl); (focus rfl))
  refine (c_NaN _).mono ?_
  rintro v w' ⟨rfl, rfl⟩
  (refine Ga ?_)
  (apply Lst_call; (focus rfl); (focus rfl))
  refine (c_fv 9221120237041090561 _).mono ?_
  rintro v w4 ⟨rfl, hb4⟩
  have b4 := Sx.Below.after (w := w) Bel hb4
  have s4 := hb4.size
  try simp only [Sx.sizes] at s4
  (refine Ga ?_)
  (apply Lst_call; (focus rfl); (focus rfl))
  refine (c_NaN _).mono ?_
  rintro v w' ⟨rfl, rfl⟩
  (refine Ga ?_)
  (apply Lst_call; (focus rfl); (focus rfl))
  refine (c_fv 18444492273895866369 _).mono ?_
  rintro v w5 ⟨rfl, hb5⟩
  have b5 := Sx.Below.after (w := w) Bel hb5
  have s5 := hb5.size
  try simp only [Sx.sizes] at s5
  (refine Ga ?_)
  (apply Lst_call; (focus rfl); (focus rfl))
  refine (a7 _).mono ?_
  rintro v w6 ⟨rfl, hb6⟩
  have b6 := Sx.Below.after (w := w) Bel hb6
  have s6 := hb6.size
  try simp only [Sx.sizes] at s6
  (refine Ga ?_)
  (apply Lst_call; (focus rfl); (focus rfl))
  refine (c_fv 4602678819172646912 _).mono ?_
  rintro v w7 ⟨rfl, hb7⟩
  have b7 := Sx.Below.after (w := w) Bel hb7
  have s7 := hb7.size
  try simp only [Sx.sizes] at s7
  (refine Ga ?_)
  (apply Lst_call; (focus rfl); (focus rfl))
  refine (a8 _).mono ?_
  rintro v w8 ⟨rfl, hb8⟩
  have b8 := Sx.Below.after (w := w) Bel hb8
  have s8 := hb8.size
  try simp only [Sx.sizes] at s8
  (refine Ga ?_)
  (apply retQ1; (focus rfl))
  exact ⟨rfl, Bel⟩
end Val
end Go.Proofs.YtpfhnapjddckfaaGreatDoor
