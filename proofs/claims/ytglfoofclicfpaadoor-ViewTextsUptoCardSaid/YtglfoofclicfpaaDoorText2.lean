/- The walk of value.Text. -/
import Derived.Test.YtglfoofclicfpaaDoorBuild
import Derived.Lib.AppendIntMem
namespace Go.Proofs.YtglfoofclicfpaaDoor
set_option maxRecDepth 100000
namespace Val
open Go Go.RowKit Sx Fl Hex
/-- The tables that texts of values lean on. -/
structure VTabs (w : World) : Prop where
  utf : Utf.Tabs w
  deb : DeB w
  pow : Lib.TabIs Tryd.prog w "internal/strconv.uint64pow10" .u64 Lib.pow10Tab
theorem VTabs.below {w w' : World} (h : VTabs w) (hb : Below w.heap.size w w') : VTabs w' := ⟨h.utf.below hb, h.deb.below hb, Lib.tabBelow_of_tabIs h.pow w' hb⟩
theorem VTabs.alloc {w : World} (h : VTabs w) (o : Obj) : VTabs (w.alloc o) := h.below ((Below.refl _ _).alloc (Nat.le_refl _) o)
theorem c_fbool (b : Bool) (w : World) : Does Tryd.prog 51 #[.bool b] w fun v w' => v = .string ⟨(if b then [116, 114, 117, 101] else [102, 97, 108, 115, 101]).toArray⟩ ∧ w = w' := by
  unfold Does
  refine ⟨Sx.enters_of Tryd.func51 (by kernel_rfl) rfl, (Tryd.strconv_FormatBool b w).mono fun e w' h => ⟨_, h.1, ?_, h.2.symm⟩⟩
  cases b <;> rfl
theorem c_fint (n : Int) (h0 : -9223372036854775808 ≤ n) (h1 : n < 9223372036854775808) (w : World) (hT : VTabs w) : Does Tryd.prog 52 #[.int .i64 n, .int .i64 10] w fun v w' => v = .string ⟨(Lib.itoa n).toArray⟩ ∧ Below w.heap.size w w' := by
  unfold Does
  refine ⟨Sx.enters_of Tryd.func52 (by kernel_rfl) rfl, (Tryd.strconv_FormatInt_10 n h0 (by omega) w hT.pow).mono fun e w' h => ⟨_, h.1, rfl, ?_⟩⟩
  obtain ⟨k, os, rfl⟩ := h.2
  refine ⟨rfl, rfl, rfl, ?_, fun i hi => ?_⟩
  · show w.heap.size ≤ (w.heap ++ os).size
    rw [Array.size_append]
    omega
  · show (w.heap ++ os)[i]? = _
    rw [Array.getElem?_append_left hi]
attribute [local irreducible] W Lst Qst Pu seqQ blkQ rndQ cutQ retQ Does Enters IntKind.wrap bits sb World.alloc World.putObj Blk
def textV (x : Vl) : List UInt8 :=
  if x.k = 0 then [110, 117, 108, 108] else if x.k = 1 then (if x.n ≠ 0 then [116, 114, 117, 101] else [102, 97, 108, 115, 101])
  else if x.k = 2 then Lib.itoa x.n else if x.k = 3 then 102 :: hexN 16 (nbits x.f) else if x.k = 4 then quote x.s.data.toList else if x.k = 5 then [109, 97, 112] else []
theorem nbits_lt {f : Nat} (h : f < 18446744073709551616) : nbits f < 18446744073709551616 := by
  unfold nbits
  split <;> omega
theorem c_Text (x : Vl) (hx : x.Fit) (hs : x.s.size < 1000000) (w : World) (hT : VTabs w) : Does Tryd.prog 38 #[x.v] w fun v w' => v = .string ⟨(textV x).toArray⟩ ∧ Below w.heap.size w w' := by
  obtain ⟨k, n, f, s⟩ := x
  have hn0 := hx.n0
  have hn1 := hx.n1
  have hf := hx.f1
  refine Does_of (args := [.agg #[.int .i64 k, .int .i64 n, .float .f64 f, .string s]]) Tryd.func38 (by kernel_rfl) rfl rfl rfl rfl rfl ?_
  unfold textV
  dsimp only at hn0 hn1 hf hs ⊢
  clear hx
  by_cases h0 : k = 0
  · subst h0
    rw [if_pos rfl]
    (refine Ga ?_)
    (apply retQ1; (focus rfl))
    exact ⟨rfl, Bel⟩
  rw [if_neg h0]
  by_cases h1 : k = 1
  · subst h1
    rw [if_pos rfl]
    by_cases hn : n = 0
    · rw [if_neg (fun h => h hn)]
      (refine Ga ?_)
      (apply Lst_call; (focus rfl); (focus rfl))
      refine (c_fbool _ _).mono ?_
      rintro v w' ⟨rfl, rfl⟩
      (refine Ga ?_)
      (apply retQ1; (focus rfl))
      exact ⟨rfl, Bel⟩
    · rw [if_pos hn]
      (refine Ga ?_)
      (apply Lst_call; (focus rfl); (focus rfl))
      refine (c_fbool _ _).mono ?_
      rintro v w' ⟨rfl, rfl⟩
      (refine Ga ?_)
      (apply retQ1; (focus rfl))
      exact ⟨rfl, Bel⟩
  rw [if_neg h1]
  by_cases h2 : k = 2
  · subst h2
    rw [if_pos rfl]
    (refine Ga ?_)
    (apply Lst_call; (focus rfl); (focus rfl))
    refine (c_fint n hn0 hn1 _ (hT.alloc _)).mono ?_
    rintro v w1 ⟨rfl, hb1⟩
    have b1 := Sx.Below.after (w := w) Bel hb1
    have s1 := hb1.size
    try simp only [Sx.sizes] at s1
    (refine Ga ?_)
    (apply retQ1; (focus rfl))
    exact ⟨rfl, Bel⟩
  rw [if_neg h2]
  by_cases h3 : k = 3
  · subst h3
    rw [if_pos rfl]
    have hcat : (⟨#[102]⟩ : ByteArray) ++ ⟨(hexN 16 (nbits f)).toArray⟩ = ⟨(102 :: hexN 16 (nbits f)).toArray⟩ := by
      apply ByteArray.ext
      rw [ByteArray.data_append]
      simp
    have hsz1 : (⟨#[102]⟩ : ByteArray).size = 1 := rfl
    have hsz2 : (⟨(hexN 16 (nbits f)).toArray⟩ : ByteArray).size = 16 := by
      show (hexN 16 (nbits f)).toArray.size = 16
      rw [List.size_toArray, hexN_length]
    (refine Ga ?_)
    (apply Lst_call; (focus rfl); (focus rfl))
    refine (c_bitsOf f _).mono ?_
    rintro v w' ⟨rfl, rfl⟩
    (refine Ga ?_)
    (apply Lst_call; (focus rfl); (focus rfl))
    refine (c_hex (nbits f) (nbits_lt hf) _ (hT.alloc _).deb).mono ?_
    rintro v w1 ⟨rfl, hb1⟩
    have b1 := Sx.Below.after (w := w) Bel hb1
    have s1 := hb1.size
    try simp only [Sx.sizes] at s1
    (refine Ga ?_)
    (apply retQ1; (focus rfl))
    exact ⟨by rw [← hcat]; rfl, Bel⟩
  rw [if_neg h3]
  by_cases h4 : k = 4
  · subst h4
    rw [if_pos rfl]
    (refine Ga ?_)
    (apply Lst_call; (focus rfl); (focus rfl))
    refine (c_Quote s hs _).mono ?_
    rintro v w1 ⟨rfl, hb1⟩
    have b1 := Sx.Below.after (w := w) Bel hb1
    have s1 := hb1.size
    try simp only [Sx.sizes] at s1
    (refine Ga ?_)
    (apply retQ1; (focus rfl))
    exact ⟨rfl, Bel⟩
  rw [if_neg h4]
  by_cases h5 : k = 5
  · subst h5
    rw [if_pos rfl]
    (refine Ga ?_)
    (apply retQ1; (focus rfl))
    exact ⟨rfl, Bel⟩
  rw [if_neg h5]
  (refine Ga ?_)
  (apply retQ1; (focus rfl))
  exact ⟨rfl, Bel⟩
end Val
end Go.Proofs.YtglfoofclicfpaaDoor
