/- MarksShow's walk. -/
import Derived.Test.YtmgipnckojopcaaGreatPaMkS
namespace Go.Proofs.YtmgipnckojopcaaGreat
set_option maxRecDepth 100000
namespace Mk
open Go Go.RowKit Sx Tl Sq Val
section
attribute [local irreducible] RnS
attribute [local irreducible] W Lst Qst Pu seqQ blkQ rndQ cutQ retQ Does Enters IntKind.wrap bits sb World.alloc World.putObj Blk
set_option maxHeartbeats 4000000 in
theorem law_MarksShow (n : Int) (ls : List Mo) (a : Option Addr) (c : Nat) (hl : ls.length ≤ 281474976710656) (hf : ∀ o ∈ ls, o.v.Fit) (w : World) (hr : SRows w 22 (.slice a ls.length c) (ls.map ocs)) :
    Does Tryz.prog 3 #[.int .i64 n, .slice a ls.length c] w fun v w' => v = .bool true ∧ Below w.heap.size w w' := by
  refine Does_of (args := [.int .i64 n, .slice a ls.length c]) Tryz.func3 (by kernel_rfl) rfl rfl rfl rfl rfl ?_
  (refine Ga ?_)
  (apply Lst_call; (focus rfl); (focus rfl))
  refine (c_known w).mono ?_
  rintro v w1 ⟨rfl, hb1⟩
  have hr1 := SRows.below hr hb1 (Nat.le_refl _)
  (refine Ga ?_)
  (apply Lst_call; (focus rfl); (focus rfl))
  refine (c_light ls a c hl w1 hr1).mono ?_
  rintro v w2 ⟨b, rfl, hli, hb2⟩
  have bw2 := hb1.trans (hb2.mono hb1.size)
  cases b with
  | false =>
    (refine Ga ?_)
    (apply retQ1; (focus rfl))
    exact ⟨rfl, bw2⟩
  | true =>
    obtain ⟨h40, hsz⟩ := hli rfl
    (refine Ga ?_)
    (apply Lst_call; (focus rfl); (focus rfl))
    refine (Wire.h_Place n 20 w2 (by omega) (by omega)).mono ?_
    rintro v w' ⟨rfl, rfl⟩
    obtain ⟨m, hm⟩ : ∃ m : Nat, n % 20 = (m : Int) := ⟨(n % 20).toNat, by omega⟩
    rw [hm]
    (refine Ga ?_)
    (apply Lst_call; (focus rfl); (focus rfl))
    refine (c_units m (by omega) w2).mono ?_
    rintro v w3 ⟨p, q, F, G, t, rfl, hP, htz⟩
    have bw3 := bw2.trans (hP.bel.mono bw2.size)
    have hr3 := SRows.below hr bw3 (Nat.le_refl _)
    have hout : Out F (.slice a ls.length c) := fun b off sp n c e h0 => by
      cases e
      obtain ⟨b', o', e, hlt, _⟩ := hr.at (i := 0) (by rw [List.length_map]; exact h0)
      cases e
      exact fun hf => by have := hP.lowF _ hf; have := bw2.size; omega
    have hkey : ∀ o ∈ ls, o.key.size ≤ maxLen := fun o ho => Nat.le_trans (hsz o ho).2 (by decide)
    (refine Ga ?_)
    (apply Lst_call; (focus rfl); (focus rfl))
    refine (c_All ls a c (by omega) (by omega) hkey hout hr3 hP.sq).mono ?_
    rintro v w4 ⟨hall, hS4, hT4⟩
    have hFlt : ∀ g, F g → g < w3.heap.size := fun g hg => hP.sq.lt hg
    have hP4 := hP.turnF hS4 hT4
    have s34 := hT4.size
    obtain ⟨ya, yc, rfl⟩ := hall.form
    rw [allL_len] at hall ⊢
    clear hS4 hT4 hP
    (refine Ga ?_)
    (apply Lst_call; (focus rfl); (focus rfl))
    refine (r_Len hP4.ref).mono ?_
    rintro v w' ⟨rfl, rfl⟩
    (refine Ga ?_)
    refine W_loop (α := Nat) (fun k => [(1, .slice a ls.length c), (5, .pointer (some ⟨p, 0, none⟩)), (6, .pointer (some ⟨q, 0, none⟩)), (7, .slice ya t.sz yc), (8, .int .i64 ((k : Int) - 1))])
      (fun k A => k ≤ t.sz + 2 ∧ Pl w2 A p q F G t t ∧ w3.heap.size ≤ A.heap.size ∧ OwnLL w3.heap.size A (.slice ya t.sz yc) (allL t ls)) (fun k _ => t.sz + 2 - k) 0 ⟨Nat.zero_le _, hP4, s34, hall⟩ ⟨rfl, rfl, rfl, rfl, rfl, trivial⟩ ?_
    clear hP4 hall
    rintro J k A ⟨hk, hP, hsA, hall⟩
    obtain ⟨z, hz⟩ : ∃ z : Int, (k : Int) - 1 = z := ⟨_, rfl⟩
    rw [hz]
    (refine Ga ?_)
    (apply Lst_call; (focus rfl); (focus rfl))
    refine (r_Len hP.ref).mono ?_
    rintro v w' ⟨rfl, rfl⟩
    have bA := bw2.trans (hP.bel.mono bw2.size)
    by_cases hkl : z ≤ (t.sz : Int)
    · have hrA := SRows.below hr bA (Nat.le_refl _)
      (refine Ga ?_)
      (apply Lst_call; (focus rfl); (focus rfl))
      refine (r_At11 ls a c z (by omega) (by omega) hrA hP.ref).mono ?_
      rintro v B ⟨hw, hbB⟩
      have hPB := hP.below hbB
      have hallB := hall.below hbB
      have hsB := Nat.le_trans hsA hbB.size
      have bB := bA.trans (hbB.mono bA.size)
      have hrB := SRows.below hr bB (Nat.le_refl _)
      have hFA : ∀ g, F g → g < A.heap.size := fun g hg => hP.sq.lt hg
      clear hP hall hrA bA
      (refine Ga ?_)
      (apply Lst_call; (focus rfl); (focus rfl))
      refine (c_At ls a c z (by omega) (by omega) hkey hout hrB hPB.sq).mono ?_
      rintro v C ⟨hat, hSC, hTC⟩
      have hPC := hPB.turnF hSC hTC
      have hwC := hw.turn hTC hFA
      have hallC := hallB.turn hTC hFlt
      have hsC := Nat.le_trans hsB hTC.size
      clear hw hPB hallB hSC hTC hrB
      have hatr := hat.rows
      have hwr := hwC.rows
      obtain ⟨a1, c1, rfl, _⟩ := own_form hat
      obtain ⟨a2, c2, rfl, _⟩ := own_form hwC
      have hz1 := at_len t z ls
      (refine Ga ?_)
      (apply Lst_call; (focus rfl); (focus rfl))
      refine (r_Same _ _ a1 a2 c1 c2 (by omega) (at_fit hf) (rtell_fit hf) C hatr hwr).mono ?_
      rintro v D ⟨rfl, hbD⟩
      rw [at_same]
      have hPD := hPC.below hbD
      have hallD := hallC.below hbD
      have hwD := hwC.below hbD
      have hwrD := hwD.rows
      have hsD := Nat.le_trans hsC hbD.size
      clear hPC hallC hwC hwr hatr hat hbD
      by_cases h0 : 0 ≤ z
      · obtain ⟨j, rfl⟩ : ∃ j : Nat, z = (j : Int) := ⟨z.toNat, by omega⟩
        (refine Ga ?_)
        (apply Lst_call; (focus rfl); (focus rfl))
        refine (r_Len hPD.ref).mono ?_
        rintro v w' ⟨rfl, rfl⟩
        by_cases hj : j < t.sz
        · obtain ⟨g, v1, d1, rfl, hcell, hrow⟩ := hallD.at (k := j) (by rw [allL_len]; exact hj)
          have hrr := hrow.rows
          rw [allL_at] at hcell hrow hrr
          have hz2 := told_len t (j : Int) ls
          (refine Ga ?_)
          (apply Lst_call; (focus rfl); (focus rfl))
          refine (r_Same _ _ v1 a2 d1 c2 (by omega) (told_fit hf) (rtell_fit hf) D hrr hwrD).mono ?_
          rintro v E ⟨rfl, hbE⟩
          rw [show_same]
          (refine Ga ?_)
          refine rndQ_n (α := Nat) (k + 1) ⟨by omega, hPD.below hbE, Nat.le_trans hsD hbE.size, hallD.below hbE⟩ ⟨rfl, rfl, rfl, rfl, ?_, trivial⟩ (by omega)
          exact congrArg (Value.int .i64) (by omega)
        · (refine Ga ?_)
          refine rndQ_n (α := Nat) (k + 1) ⟨by omega, hPD, hsD, hallD⟩ ⟨rfl, rfl, rfl, rfl, ?_, trivial⟩ (by omega)
          exact congrArg (Value.int .i64) (by omega)
      · (refine Ga ?_)
        refine rndQ_n (α := Nat) (k + 1) ⟨by omega, hPD, hsD, hallD⟩ ⟨rfl, rfl, rfl, rfl, ?_, trivial⟩ (by omega)
        exact congrArg (Value.int .i64) (by omega)
    · (refine Ga ?_)
      (apply retQ1; (focus rfl))
      exact ⟨rfl, bA⟩
end
end Mk
end Go.Proofs.YtmgipnckojopcaaGreat
