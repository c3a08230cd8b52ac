/- quirelaw4.play: what a script does to a disk. -/
import Derived.Test.YtgcklcpbmlibdaaDkStep
namespace Go.Proofs.Ytgcklcpbmlibdaa
set_option maxRecDepth 100000
namespace Dk
open Go Go.RowKit Sx
theorem playD_step (d : Dsk) (l : List St) (i : Nat) (h : i < l.length) : playD d (l.drop i) = playD (d.step l[i]).2 (l.drop (i + 1)) := by
  rw [List.drop_eq_getElem_cons h]; rfl
theorem playN_step (d : Dsk) (l : List St) (i : Nat) (h : i < l.length) : playN d (l.drop i) = (if (d.step l[i]).1 = 0 then 1 else 0) + playN (d.step l[i]).2 (l.drop (i + 1)) := by
  rw [List.drop_eq_getElem_cons h]; rfl
attribute [local irreducible] W Lst Qst Pu seqQ blkQ rndQ cutQ retQ Does Enters IntKind.wrap bits sb World.alloc World.putObj Blk
set_option maxHeartbeats 4000000 in
theorem c_play (p mb : Nat) (d : Dsk) (u m : Nat) (hf : Fine d u m) (v : Value) (l : List St) (hu : u + weight l ≤ 1000000000) (hll : l.length ≤ 1000000) (W0 w : World) (hW : Steps W0 v l) (hb0 : Below W0.heap.size W0 w) (hp : W0.heap.size ≤ p) (hmb : W0.heap.size ≤ mb) (h : DkAt w p mb d) :
    Does Try.prog 22 #[.pointer (some ⟨p, 0, none⟩), v] w fun r w' => r = .int .i64 (playN d l : Int) ∧ DkAt w' p mb (playD d l) ∧ Chg [p, mb] w w' := by
  obtain ⟨a, c, rfl⟩ := hW.1
  refine Does_of (args := [.pointer (some ⟨p, 0, none⟩), .slice a l.length c]) Try.func22 (by kernel_rfl) rfl rfl rfl rfl rfl ?_
  (refine Ga ?_)
  refine W_loop (α := Nat × Nat × Dsk) (fun x => [(0, .pointer (some ⟨p, 0, none⟩)), (1, .slice a l.length c), (5, .int .i64 (x.2.1 : Int)), (6, .int .i64 (x.1 : Int))])
    (fun x A => x.1 ≤ l.length ∧ x.2.1 + playN x.2.2 (l.drop x.1) = playN d l ∧ playD x.2.2 (l.drop x.1) = playD d l ∧ (∃ y, y + weight (l.drop x.1) ≤ u + weight l ∧ Fine x.2.2 y (m + x.1)) ∧ DkAt A p mb x.2.2 ∧ Chg [p, mb] w A) (fun x _ => l.length - x.1) (0, 0, d)
    ⟨Nat.zero_le _, by simp, rfl, ⟨u, Nat.le_refl _, hf⟩, h, .refl _ _⟩ ⟨rfl, rfl, rfl, rfl, trivial⟩ ?_
  have hlen := playN_le l d
  clear h hf
  rintro J ⟨i, n, d2⟩ A ⟨hi, hn, hD, ⟨y, hy, hF⟩, hd, hcA⟩
  dsimp only at hi hn hD hy hF hd ⊢
  have hbA : Below W0.heap.size W0 A := hb0.trans (Chg.low hcA hp hmb hb0.size)
  have hs := hW.below hbA (Nat.le_refl _)
  have hAs := hbA.size
  by_cases hil : i < l.length
  · obtain ⟨b, off, c', hv, hst⟩ := hs.2 i hil
    have hw := weight_get l i hil
    have hpN := playN_step d2 l i hil
    have hpD := playD_step d2 l i hil
    rw [hpN] at hn
    rw [hpD] at hD
    have hF2 := hF.step l[i]
    simp only [Value.slice.injEq] at hv
    obtain ⟨rfl, _, rfl⟩ := hv
    obtain ⟨bv, hbv, hby⟩ := hst.bytes
    have hnm := hst.name
    have hto := hst.to
    have hnn := hst.n
    have hwn := hst.wn
    have hwh := hst.what
    have z3 := hst.z3
    obtain ⟨bv1, bv2, rfl⟩ := hby.form
    generalize l[i] = s at *
    have hus := hF.used
    have huf := fun n => file_used d2 n
    have hcut := hF.cut
    have hle : n ≤ l.length := by omega
    clear hs hst hF hpN hpD
    (refine Ga ?_)
    apply Lst_pu
    · apply P_idx
      focus rfl
      focus rfl
      focus rfl
      focus rfl
      focus rfl
      focus omega
      focus omega
    focus rfl
    rcases (by omega : s.what = 0 ∨ s.what = 1 ∨ s.what = 2 ∨ s.what = 3 ∨ s.what = 4 ∨ s.what = 5 ∨ s.what = 6 ∨ s.what = 7 ∨ ¬ (0 ≤ s.what ∧ s.what ≤ 7)) with hwv | hwv | hwv | hwv | hwv | hwv | hwv | hwv | hwv
    · (refine Ga ?_)
      refine W_draw 11 (Grown _) rfl (by kernel_rfl) (grown_start _) ?_
      (refine Qb ?_)
      apply Qst_pu
      · apply P_idx
        focus rfl
        focus rfl
        focus rfl
        focus rfl
        focus rfl
        focus omega
        focus omega
      focus rfl
      (refine Qb ?_)
      apply Qst_loadc
      focus rfl
      focus rfl
      focus rfl
      focus (intro A9 hb9; exact cell_below hnm hb9 (Nat.le_refl _))
      focus rfl
      (refine Qb ?_)
      apply Qst_pu
      · apply P_idx
        focus rfl
        focus rfl
        focus rfl
        focus rfl
        focus rfl
        focus omega
        focus omega
      focus rfl
      (refine Qb ?_)
      apply Qst_loadc
      focus rfl
      focus rfl
      focus rfl
      focus (intro A9 hb9; exact cell_below hbv hb9 (Nat.le_refl _))
      focus rfl
      (refine Qb ?_)
      intro w1 hb1
      have hd1 := hd.below hb1
      (refine Ga ?_)
      (apply Lst_call; (focus rfl); (focus rfl))
      refine (c_AppendBy p mb d2 hcut s.name _ s.b (by omega) (by have := huf s.name; omega) _ hd1 (hby.below hb1 (Nat.le_refl _))).mono ?_
      rintro r w2 ⟨rfl, hd2, hc2⟩
      have hc3 := (Chg.of (bs := [p, mb]) hb1).trans hc2
      (refine Ga ?_)
      have hst : d2.step s = d2.append s.name s.b := by unfold Dsk.step; simp [hwv]
      rw [hst] at hn hD hF2
      by_cases he : (d2.append s.name s.b).1 = 0
      · rw [if_pos he] at hn
        (refine Ga ?_)
        refine rndQ_n (α := Nat × Nat × Dsk) (i + 1, n + 1, (d2.append s.name s.b).2) ⟨by dsimp only; omega, by dsimp only; omega, hD, ⟨y + s.b.length, by dsimp only; omega, hF2⟩, hd2, hcA.trans hc3⟩ ⟨rfl, rfl, ?_, ?_, trivial⟩ (by dsimp only; omega)
        · show Value.int .i64 ((n : Int) + 1) = Value.int .i64 ((n + 1 : Nat) : Int)
          rw [Int.natCast_add]
          rfl
        · show Value.int .i64 ((i : Int) + 1) = Value.int .i64 ((i + 1 : Nat) : Int)
          rw [Int.natCast_add]
          rfl
      · rw [if_neg he] at hn
        (refine Ga ?_)
        refine rndQ_n (α := Nat × Nat × Dsk) (i + 1, n, (d2.append s.name s.b).2) ⟨by dsimp only; omega, by dsimp only; omega, hD, ⟨y + s.b.length, by dsimp only; omega, hF2⟩, hd2, hcA.trans hc3⟩ ⟨rfl, rfl, rfl, ?_, trivial⟩ (by dsimp only; omega)
        show Value.int .i64 ((i : Int) + 1) = Value.int .i64 ((i + 1 : Nat) : Int)
        rw [Int.natCast_add]
        rfl
    · (refine Ga ?_)
      refine W_draw 11 (Grown _) rfl (by kernel_rfl) (grown_start _) ?_
      (refine Qb ?_)
      apply Qst_pu
      · apply P_idx
        focus rfl
        focus rfl
        focus rfl
        focus rfl
        focus rfl
        focus omega
        focus omega
      focus rfl
      (refine Qb ?_)
      apply Qst_loadc
      focus rfl
      focus rfl
      focus rfl
      focus (intro A9 hb9; exact cell_below hnm hb9 (Nat.le_refl _))
      focus rfl
      (refine Qb ?_)
      apply Qst_pu
      · apply P_idx
        focus rfl
        focus rfl
        focus rfl
        focus rfl
        focus rfl
        focus omega
        focus omega
      focus rfl
      (refine Qb ?_)
      apply Qst_loadc
      focus rfl
      focus rfl
      focus rfl
      focus (intro A9 hb9; exact cell_below hbv hb9 (Nat.le_refl _))
      focus rfl
      (refine Qb ?_)
      intro w1 hb1
      have hd1 := hd.below hb1
      (refine Ga ?_)
      (apply Lst_call; (focus rfl); (focus rfl))
      refine (c_AppendBy p mb d2 hcut s.name _ s.b (by omega) (by have := huf s.name; omega) _ hd1 (hby.below hb1 (Nat.le_refl _))).mono ?_
      rintro r w2 ⟨rfl, hd2, hc2⟩
      have hc3 := (Chg.of (bs := [p, mb]) hb1).trans hc2
      (refine Ga ?_)
      have hst : d2.step s = d2.append s.name s.b := by unfold Dsk.step; simp [hwv]
      rw [hst] at hn hD hF2
      by_cases he : (d2.append s.name s.b).1 = 0
      · rw [if_pos he] at hn
        (refine Ga ?_)
        refine rndQ_n (α := Nat × Nat × Dsk) (i + 1, n + 1, (d2.append s.name s.b).2) ⟨by dsimp only; omega, by dsimp only; omega, hD, ⟨y + s.b.length, by dsimp only; omega, hF2⟩, hd2, hcA.trans hc3⟩ ⟨rfl, rfl, ?_, ?_, trivial⟩ (by dsimp only; omega)
        · show Value.int .i64 ((n : Int) + 1) = Value.int .i64 ((n + 1 : Nat) : Int)
          rw [Int.natCast_add]
          rfl
        · show Value.int .i64 ((i : Int) + 1) = Value.int .i64 ((i + 1 : Nat) : Int)
          rw [Int.natCast_add]
          rfl
      · rw [if_neg he] at hn
        (refine Ga ?_)
        refine rndQ_n (α := Nat × Nat × Dsk) (i + 1, n, (d2.append s.name s.b).2) ⟨by dsimp only; omega, by dsimp only; omega, hD, ⟨y + s.b.length, by dsimp only; omega, hF2⟩, hd2, hcA.trans hc3⟩ ⟨rfl, rfl, rfl, ?_, trivial⟩ (by dsimp only; omega)
        show Value.int .i64 ((i : Int) + 1) = Value.int .i64 ((i + 1 : Nat) : Int)
        rw [Int.natCast_add]
        rfl
    · (refine Ga ?_)
      refine W_draw 11 (Grown _) rfl (by kernel_rfl) (grown_start _) ?_
      (refine Qb ?_)
      apply Qst_pu
      · apply P_idx
        focus rfl
        focus rfl
        focus rfl
        focus rfl
        focus rfl
        focus omega
        focus omega
      focus rfl
      (refine Qb ?_)
      apply Qst_loadc
      focus rfl
      focus rfl
      focus rfl
      focus (intro A9 hb9; exact cell_below hnm hb9 (Nat.le_refl _))
      focus rfl
      (refine Qb ?_)
      apply Qst_pu
      · apply P_idx
        focus rfl
        focus rfl
        focus rfl
        focus rfl
        focus rfl
        focus omega
        focus omega
      focus rfl
      (refine Qb ?_)
      apply Qst_loadc
      focus rfl
      focus rfl
      focus rfl
      focus (intro A9 hb9; exact cell_below hbv hb9 (Nat.le_refl _))
      focus rfl
      (refine Qb ?_)
      intro w1 hb1
      have hd1 := hd.below hb1
      (refine Ga ?_)
      (apply Lst_call; (focus rfl); (focus rfl))
      refine (c_AppendBy p mb d2 hcut s.name _ s.b (by omega) (by have := huf s.name; omega) _ hd1 (hby.below hb1 (Nat.le_refl _))).mono ?_
      rintro r w2 ⟨rfl, hd2, hc2⟩
      have hc3 := (Chg.of (bs := [p, mb]) hb1).trans hc2
      (refine Ga ?_)
      have hst : d2.step s = d2.append s.name s.b := by unfold Dsk.step; simp [hwv]
      rw [hst] at hn hD hF2
      by_cases he : (d2.append s.name s.b).1 = 0
      · rw [if_pos he] at hn
        (refine Ga ?_)
        refine rndQ_n (α := Nat × Nat × Dsk) (i + 1, n + 1, (d2.append s.name s.b).2) ⟨by dsimp only; omega, by dsimp only; omega, hD, ⟨y + s.b.length, by dsimp only; omega, hF2⟩, hd2, hcA.trans hc3⟩ ⟨rfl, rfl, ?_, ?_, trivial⟩ (by dsimp only; omega)
        · show Value.int .i64 ((n : Int) + 1) = Value.int .i64 ((n + 1 : Nat) : Int)
          rw [Int.natCast_add]
          rfl
        · show Value.int .i64 ((i : Int) + 1) = Value.int .i64 ((i + 1 : Nat) : Int)
          rw [Int.natCast_add]
          rfl
      · rw [if_neg he] at hn
        (refine Ga ?_)
        refine rndQ_n (α := Nat × Nat × Dsk) (i + 1, n, (d2.append s.name s.b).2) ⟨by dsimp only; omega, by dsimp only; omega, hD, ⟨y + s.b.length, by dsimp only; omega, hF2⟩, hd2, hcA.trans hc3⟩ ⟨rfl, rfl, rfl, ?_, trivial⟩ (by dsimp only; omega)
        show Value.int .i64 ((i : Int) + 1) = Value.int .i64 ((i + 1 : Nat) : Int)
        rw [Int.natCast_add]
        rfl
    · (refine Ga ?_)
      refine W_draw 11 (Grown _) rfl (by kernel_rfl) (grown_start _) ?_
      (refine Qb ?_)
      apply Qst_pu
      · apply P_idx
        focus rfl
        focus rfl
        focus rfl
        focus rfl
        focus rfl
        focus omega
        focus omega
      focus rfl
      (refine Qb ?_)
      apply Qst_loadc
      focus rfl
      focus rfl
      focus rfl
      focus (intro A9 hb9; exact cell_below hnm hb9 (Nat.le_refl _))
      focus rfl
      (refine Qb ?_)
      apply Qst_pu
      · apply P_idx
        focus rfl
        focus rfl
        focus rfl
        focus rfl
        focus rfl
        focus omega
        focus omega
      focus rfl
      (refine Qb ?_)
      apply Qst_loadc
      focus rfl
      focus rfl
      focus rfl
      focus (intro A9 hb9; exact cell_below hbv hb9 (Nat.le_refl _))
      focus rfl
      (refine Qb ?_)
      intro w1 hb1
      have hd1 := hd.below hb1
      (refine Ga ?_)
      (apply Lst_call; (focus rfl); (focus rfl))
      refine (c_AppendBy p mb d2 hcut s.name _ s.b (by omega) (by have := huf s.name; omega) _ hd1 (hby.below hb1 (Nat.le_refl _))).mono ?_
      rintro r w2 ⟨rfl, hd2, hc2⟩
      have hc3 := (Chg.of (bs := [p, mb]) hb1).trans hc2
      (refine Ga ?_)
      have hst : d2.step s = d2.append s.name s.b := by unfold Dsk.step; simp [hwv]
      rw [hst] at hn hD hF2
      by_cases he : (d2.append s.name s.b).1 = 0
      · rw [if_pos he] at hn
        (refine Ga ?_)
        refine rndQ_n (α := Nat × Nat × Dsk) (i + 1, n + 1, (d2.append s.name s.b).2) ⟨by dsimp only; omega, by dsimp only; omega, hD, ⟨y + s.b.length, by dsimp only; omega, hF2⟩, hd2, hcA.trans hc3⟩ ⟨rfl, rfl, ?_, ?_, trivial⟩ (by dsimp only; omega)
        · show Value.int .i64 ((n : Int) + 1) = Value.int .i64 ((n + 1 : Nat) : Int)
          rw [Int.natCast_add]
          rfl
        · show Value.int .i64 ((i : Int) + 1) = Value.int .i64 ((i + 1 : Nat) : Int)
          rw [Int.natCast_add]
          rfl
      · rw [if_neg he] at hn
        (refine Ga ?_)
        refine rndQ_n (α := Nat × Nat × Dsk) (i + 1, n, (d2.append s.name s.b).2) ⟨by dsimp only; omega, by dsimp only; omega, hD, ⟨y + s.b.length, by dsimp only; omega, hF2⟩, hd2, hcA.trans hc3⟩ ⟨rfl, rfl, rfl, ?_, trivial⟩ (by dsimp only; omega)
        show Value.int .i64 ((i : Int) + 1) = Value.int .i64 ((i + 1 : Nat) : Int)
        rw [Int.natCast_add]
        rfl
    · (refine Ga ?_)
      apply Lst_pu
      · apply P_idx
        focus rfl
        focus rfl
        focus rfl
        focus rfl
        focus rfl
        focus omega
        focus omega
      focus rfl
      (refine Ga ?_)
      try (apply Lst_loadc; (focus rfl); (focus rfl); (focus rfl); (focus exact hnm); (focus rfl))
      (refine Ga ?_)
      (apply Lst_call; (focus rfl); (focus rfl))
      refine (c_Sync p mb d2 hcut s.name _ hd).mono ?_
      rintro r w2 ⟨rfl, hd2, hc2⟩
      (refine Ga ?_)
      have hst : d2.step s = d2.sync s.name := by unfold Dsk.step; simp [hwv]
      rw [hst] at hn hD hF2
      by_cases he : (d2.sync s.name).1 = 0
      · rw [if_pos he] at hn
        (refine Ga ?_)
        refine rndQ_n (α := Nat × Nat × Dsk) (i + 1, n + 1, (d2.sync s.name).2) ⟨by dsimp only; omega, by dsimp only; omega, hD, ⟨y + s.b.length, by dsimp only; omega, hF2⟩, hd2, hcA.trans hc2⟩ ⟨rfl, rfl, ?_, ?_, trivial⟩ (by dsimp only; omega)
        · show Value.int .i64 ((n : Int) + 1) = Value.int .i64 ((n + 1 : Nat) : Int)
          rw [Int.natCast_add]
          rfl
        · show Value.int .i64 ((i : Int) + 1) = Value.int .i64 ((i + 1 : Nat) : Int)
          rw [Int.natCast_add]
          rfl
      · rw [if_neg he] at hn
        (refine Ga ?_)
        refine rndQ_n (α := Nat × Nat × Dsk) (i + 1, n, (d2.sync s.name).2) ⟨by dsimp only; omega, by dsimp only; omega, hD, ⟨y + s.b.length, by dsimp only; omega, hF2⟩, hd2, hcA.trans hc2⟩ ⟨rfl, rfl, rfl, ?_, trivial⟩ (by dsimp only; omega)
        show Value.int .i64 ((i : Int) + 1) = Value.int .i64 ((i + 1 : Nat) : Int)
        rw [Int.natCast_add]
        rfl
    · (refine Ga ?_)
      refine W_draw 11 (Grown _) rfl (by kernel_rfl) (grown_start _) ?_
      (refine Qb ?_)
      apply Qst_pu
      · apply P_idx
        focus rfl
        focus rfl
        focus rfl
        focus rfl
        focus rfl
        focus omega
        focus omega
      focus rfl
      (refine Qb ?_)
      apply Qst_loadc
      focus rfl
      focus rfl
      focus rfl
      focus (intro A9 hb9; exact cell_below hnm hb9 (Nat.le_refl _))
      focus rfl
      (refine Qb ?_)
      apply Qst_pu
      · apply P_idx
        focus rfl
        focus rfl
        focus rfl
        focus rfl
        focus rfl
        focus omega
        focus omega
      focus rfl
      (refine Qb ?_)
      apply Qst_loadc
      focus rfl
      focus rfl
      focus rfl
      focus (intro A9 hb9; exact cell_below hto hb9 (Nat.le_refl _))
      focus rfl
      (refine Qb ?_)
      intro w1 hb1
      have hd1 := hd.below hb1
      (refine Ga ?_)
      (apply Lst_call; (focus rfl); (focus rfl))
      refine (c_Rename p mb d2 hcut s.name s.to _ hd1).mono ?_
      rintro r w2 ⟨rfl, hd2, hc2⟩
      have hc3 := (Chg.of (bs := [p, mb]) hb1).trans hc2
      (refine Ga ?_)
      have hst : d2.step s = d2.rename s.name s.to := by unfold Dsk.step; simp [hwv]
      rw [hst] at hn hD hF2
      by_cases he : (d2.rename s.name s.to).1 = 0
      · rw [if_pos he] at hn
        (refine Ga ?_)
        refine rndQ_n (α := Nat × Nat × Dsk) (i + 1, n + 1, (d2.rename s.name s.to).2) ⟨by dsimp only; omega, by dsimp only; omega, hD, ⟨y + s.b.length, by dsimp only; omega, hF2⟩, hd2, hcA.trans hc3⟩ ⟨rfl, rfl, ?_, ?_, trivial⟩ (by dsimp only; omega)
        · show Value.int .i64 ((n : Int) + 1) = Value.int .i64 ((n + 1 : Nat) : Int)
          rw [Int.natCast_add]
          rfl
        · show Value.int .i64 ((i : Int) + 1) = Value.int .i64 ((i + 1 : Nat) : Int)
          rw [Int.natCast_add]
          rfl
      · rw [if_neg he] at hn
        (refine Ga ?_)
        refine rndQ_n (α := Nat × Nat × Dsk) (i + 1, n, (d2.rename s.name s.to).2) ⟨by dsimp only; omega, by dsimp only; omega, hD, ⟨y + s.b.length, by dsimp only; omega, hF2⟩, hd2, hcA.trans hc3⟩ ⟨rfl, rfl, rfl, ?_, trivial⟩ (by dsimp only; omega)
        show Value.int .i64 ((i : Int) + 1) = Value.int .i64 ((i + 1 : Nat) : Int)
        rw [Int.natCast_add]
        rfl
    · (refine Ga ?_)
      refine W_draw 11 (Grown _) rfl (by kernel_rfl) (grown_start _) ?_
      (refine Qb ?_)
      apply Qst_pu
      · apply P_idx
        focus rfl
        focus rfl
        focus rfl
        focus rfl
        focus rfl
        focus omega
        focus omega
      focus rfl
      (refine Qb ?_)
      apply Qst_loadc
      focus rfl
      focus rfl
      focus rfl
      focus (intro A9 hb9; exact cell_below hnm hb9 (Nat.le_refl _))
      focus rfl
      (refine Qb ?_)
      apply Qst_pu
      · apply P_idx
        focus rfl
        focus rfl
        focus rfl
        focus rfl
        focus rfl
        focus omega
        focus omega
      focus rfl
      (refine Qb ?_)
      apply Qst_loadc
      focus rfl
      focus rfl
      focus rfl
      focus (intro A9 hb9; exact cell_below hnn hb9 (Nat.le_refl _))
      focus rfl
      (refine Qb ?_)
      intro w1 hb1
      have hd1 := hd.below hb1
      (refine Ga ?_)
      (apply Lst_call; (focus rfl); (focus rfl))
      refine (c_Truncate p mb d2 hcut s.name s.n _ hd1).mono ?_
      rintro r w2 ⟨rfl, hd2, hc2⟩
      have hc3 := (Chg.of (bs := [p, mb]) hb1).trans hc2
      (refine Ga ?_)
      have hst : d2.step s = d2.truncate s.name s.n := by unfold Dsk.step; simp [hwv]
      rw [hst] at hn hD hF2
      by_cases he : (d2.truncate s.name s.n).1 = 0
      · rw [if_pos he] at hn
        (refine Ga ?_)
        refine rndQ_n (α := Nat × Nat × Dsk) (i + 1, n + 1, (d2.truncate s.name s.n).2) ⟨by dsimp only; omega, by dsimp only; omega, hD, ⟨y + s.b.length, by dsimp only; omega, hF2⟩, hd2, hcA.trans hc3⟩ ⟨rfl, rfl, ?_, ?_, trivial⟩ (by dsimp only; omega)
        · show Value.int .i64 ((n : Int) + 1) = Value.int .i64 ((n + 1 : Nat) : Int)
          rw [Int.natCast_add]
          rfl
        · show Value.int .i64 ((i : Int) + 1) = Value.int .i64 ((i + 1 : Nat) : Int)
          rw [Int.natCast_add]
          rfl
      · rw [if_neg he] at hn
        (refine Ga ?_)
        refine rndQ_n (α := Nat × Nat × Dsk) (i + 1, n, (d2.truncate s.name s.n).2) ⟨by dsimp only; omega, by dsimp only; omega, hD, ⟨y + s.b.length, by dsimp only; omega, hF2⟩, hd2, hcA.trans hc3⟩ ⟨rfl, rfl, rfl, ?_, trivial⟩ (by dsimp only; omega)
        show Value.int .i64 ((i : Int) + 1) = Value.int .i64 ((i + 1 : Nat) : Int)
        rw [Int.natCast_add]
        rfl
    · (refine Ga ?_)
      apply Lst_pu
      · apply P_idx
        focus rfl
        focus rfl
        focus rfl
        focus rfl
        focus rfl
        focus omega
        focus omega
      focus rfl
      (refine Ga ?_)
      try (apply Lst_loadc; (focus rfl); (focus rfl); (focus rfl); (focus exact hnm); (focus rfl))
      (refine Ga ?_)
      (apply Lst_call; (focus rfl); (focus rfl))
      refine (c_Delete p mb d2 hcut s.name _ hd).mono ?_
      rintro r w2 ⟨rfl, hd2, hc2⟩
      (refine Ga ?_)
      have hst : d2.step s = d2.delete s.name := by unfold Dsk.step; simp [hwv]
      rw [hst] at hn hD hF2
      by_cases he : (d2.delete s.name).1 = 0
      · rw [if_pos he] at hn
        (refine Ga ?_)
        refine rndQ_n (α := Nat × Nat × Dsk) (i + 1, n + 1, (d2.delete s.name).2) ⟨by dsimp only; omega, by dsimp only; omega, hD, ⟨y + s.b.length, by dsimp only; omega, hF2⟩, hd2, hcA.trans hc2⟩ ⟨rfl, rfl, ?_, ?_, trivial⟩ (by dsimp only; omega)
        · show Value.int .i64 ((n : Int) + 1) = Value.int .i64 ((n + 1 : Nat) : Int)
          rw [Int.natCast_add]
          rfl
        · show Value.int .i64 ((i : Int) + 1) = Value.int .i64 ((i + 1 : Nat) : Int)
          rw [Int.natCast_add]
          rfl
      · rw [if_neg he] at hn
        (refine Ga ?_)
        refine rndQ_n (α := Nat × Nat × Dsk) (i + 1, n, (d2.delete s.name).2) ⟨by dsimp only; omega, by dsimp only; omega, hD, ⟨y + s.b.length, by dsimp only; omega, hF2⟩, hd2, hcA.trans hc2⟩ ⟨rfl, rfl, rfl, ?_, trivial⟩ (by dsimp only; omega)
        show Value.int .i64 ((i : Int) + 1) = Value.int .i64 ((i + 1 : Nat) : Int)
        rw [Int.natCast_add]
        rfl
    · have hst : d2.step s = (1, d2) := by
        unfold Dsk.step
        rw [if_neg (by omega), if_neg (by omega), if_neg (by omega), if_neg (by omega), if_neg (by omega)]
      rw [hst] at hn hD hF2
      rw [if_neg (fun h => absurd (show (1 : Int) = 0 from h) (by decide))] at hn
      dsimp only at hn hD hF2
      (refine Ga ?_)
      refine rndQ_n (α := Nat × Nat × Dsk) (i + 1, n, d2) ⟨by dsimp only; omega, by dsimp only; omega, hD, ⟨y + s.b.length, by dsimp only; omega, hF2⟩, hd, hcA⟩ ⟨rfl, rfl, rfl, ?_, trivial⟩ (by dsimp only; omega)
      show Value.int .i64 ((i : Int) + 1) = Value.int .i64 ((i + 1 : Nat) : Int)
      rw [Int.natCast_add]
      rfl
  · have hie : i = l.length := by omega
    subst hie
    rw [List.drop_length] at hn hD
    simp only [playN, playD, Nat.add_zero] at hn hD
    subst hn hD
    (refine Ga ?_)
    (apply retQ1; (focus rfl))
    exact ⟨rfl, hd, hcA⟩
end Dk
end Go.Proofs.Ytgcklcpbmlibdaa

