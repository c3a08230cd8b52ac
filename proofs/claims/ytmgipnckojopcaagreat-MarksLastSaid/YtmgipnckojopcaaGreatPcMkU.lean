/- Marks: the units that the laws are about; program and reference in step. -/
import Derived.Test.YtmgipnckojopcaaGreatPcMkE
import Derived.Test.YtmgipnckojopcaaGreatPcJSqRunsPToSqAnP
namespace Go.Proofs.YtmgipnckojopcaaGreat
set_option maxRecDepth 100000
namespace Mk
open Go Go.RowKit Sx Tl Sq Val
theorem insert_sz {t : Fo} {u : Un} (h : t.ids.Nodup) : (Fo.insert t u).1.sz ≤ t.sz + 1 := by
  unfold Fo.insert
  split
  · have := Fo.put_sz (u := u) h
    dsimp only
    omega
  · dsimp only
    omega
theorem runR_sz {t : Fo} {u : Un} {n : Int} (hg : Fo.Good t) (hF : ∃ ρ, Fo.Fits ρ none t) : (runR t u n).sz ≤ t.sz + n.toNat := by
  cases h : runOk t u n with
  | false =>
    unfold runR
    rw [h]
    rw [if_neg (by simp)]
    omega
  | true =>
    rw [runR_trun h]
    unfold runOk at h
    simp only [Bool.and_eq_true, decide_eq_true_eq] at h
    obtain ⟨h1, h2, h3, h4, h5⟩ := h
    have := (trun_may hg hF (Fo.may_iff.1 h4) (free_iff.1 h5) (by omega) n.toNat (Nat.le_refl _)).2.2.1
    omega
theorem insert_lo {t : Fo} {u : Un} (h : t.ids.Nodup) : t.sz ≤ (Fo.insert t u).1.sz := by
  unfold Fo.insert
  split
  · have := Fo.put_sz (u := u) h
    dsimp only
    omega
  · exact Nat.le_refl _
theorem kU_ok : ∀ n : Nat, n < 21 → 1 ≤ n → runOk .nil kU (n : Int) = true := by decide
theorem kU_sz (n : Nat) (hn : n ≤ 20) : n ≤ (runR .nil kU (n : Int)).sz := by
  rcases Nat.eq_zero_or_pos n with rfl | h0
  · exact Nat.zero_le _
  have h := kU_ok n (by omega) h0
  rw [runR_trun h]
  have h' := h
  unfold runOk at h'
  simp only [Bool.and_eq_true, decide_eq_true_eq] at h'
  obtain ⟨h1, h2, h3, h4, h5⟩ := h'
  have := (trun_may Fo.Good.nil ⟨fun _ => ⟨default, none, [], [], 0⟩, trivial⟩ (Fo.may_iff.1 h4) (free_iff.1 h5) (by omega) n (by rw [Int.toNat_natCast]; exact Nat.le_refl _)).2.2.1
  rw [Int.toNat_natCast, this]
  omega
variable {w : World} {p q : Nat} {F G : Nat → Prop} {t : Fo}
/-- Program and reference in step. -/
structure Pl (w0 A : World) (p q : Nat) (F G : Nat → Prop) (t r : Fo) : Prop where
  sq : SqAt A p F t
  ref : RefAt A q G r
  apart : ∀ g, F g → ¬ G g
  lowF : ∀ g, F g → w0.heap.size ≤ g
  lowG : ∀ g, G g → w0.heap.size ≤ g
  bel : Below w0.heap.size w0 A
theorem Pl.below {w0 A A' : World} {r : Fo} (h : Pl w0 A p q F G t r) (hb : Below A.heap.size A A') : Pl w0 A' p q F G t r :=
  ⟨h.sq.below hb, h.ref.below hb, h.apart, h.lowF, h.lowG, h.bel.trans (hb.mono h.bel.size)⟩
theorem Pl.turnF {w0 A A' : World} {t' r : Fo} {F' : Nat → Prop} (h : Pl w0 A p q F G t r) (hS : SqAt A' p F' t') (hT : Turn F F' A A') : Pl w0 A' p q F' G t' r := by
  have hl := hT.low h.lowF h.bel.size
  refine ⟨hS, h.ref.other hT fun g hg hf => h.apart g hf hg, fun g hf hg => ?_, hl.1, h.lowG, h.bel.trans hl.2⟩
  exact Turn.apart hT (fun g hg => h.ref.lt hg) (fun g hg hf => h.apart g hf hg) g hg hf
theorem Pl.turnG {w0 A A' : World} {r r' : Fo} {G' : Nat → Prop} (h : Pl w0 A p q F G t r) (hS : RefAt A' q G' r') (hT : Turn G G' A A') : Pl w0 A' p q F G' t r' := by
  have hl := hT.low h.lowG h.bel.size
  exact ⟨h.sq.other hT h.apart, hS, Turn.apart hT (fun g hg => h.sq.lt hg) h.apart, h.lowF, hl.1, h.bel.trans hl.2⟩
section
attribute [local irreducible] RnS
attribute [local irreducible] W Lst Qst Pu seqQ blkQ rndQ cutQ retQ Does Enters IntKind.wrap bits sb World.alloc World.putObj Blk
set_option maxHeartbeats 4000000 in
theorem c_units (n : Nat) (hn : n ≤ 20) (w : World) : Does Tryz.prog 8 #[.int .i64 (n : Int)] w fun v w' => ∃ p q F G t, v = .tuple #[.pointer (some ⟨p, 0, none⟩), .pointer (some ⟨q, 0, none⟩)] ∧ Pl w w' p q F G t t ∧ t.sz ≤ 40 ∧ n ≤ t.sz := by
  refine Does_of (args := [.int .i64 (n : Int)]) Tryz.func8 (by kernel_rfl) rfl rfl rfl rfl rfl ?_
  (refine Ga ?_)
  (apply Lst_call; (focus rfl); (focus rfl))
  refine (c_New w).mono ?_
  rintro v w1 ⟨p, F0, rfl, hS0, hlow0, hb1⟩
  have hbq : Below w1.heap.size w1 (w1.alloc (.cells [.slice none 0 0, .slice none 0 0, .slice none 0 0].toArray 69)) := Bel
  have kq : Blk (w1.alloc (.cells [.slice none 0 0, .slice none 0 0, .slice none 0 0].toArray 69)) w1.heap.size [.slice none 0 0, .slice none 0 0, .slice none 0 0] 69 := (by (repeat (first | assumption | (apply Blk.below (hb := hb1); rotate_left; (focus ((try simp only [Sx.sizes]); omega)); rotate_right) | (apply Blk.below (hb := hb2); rotate_left; (focus ((try simp only [Sx.sizes]); omega)); rotate_right) | (apply Blk.below (hb := hb3); rotate_left; (focus ((try simp only [Sx.sizes]); omega)); rotate_right) | (apply Blk.below (hb := hb4); rotate_left; (focus ((try simp only [Sx.sizes]); omega)); rotate_right) | (apply Blk.below (hb := hb5); rotate_left; (focus ((try simp only [Sx.sizes]); omega)); rotate_right) | (apply Blk.below (hb := hb6); rotate_left; (focus ((try simp only [Sx.sizes]); omega)); rotate_right) | (apply Blk.below (hb := hb7); rotate_left; (focus ((try simp only [Sx.sizes]); omega)); rotate_right) | (apply Blk.below (hb := hb8); rotate_left; (focus ((try simp only [Sx.sizes]); omega)); rotate_right) | (apply Blk.below (hb := hb9); rotate_left; (focus ((try simp only [Sx.sizes]); omega)); rotate_right) | exact Blk.newE (by first | rfl | ((try simp only [Sx.sizes]); first | done | omega)) _ _ | exact Blk.put_same (by (try simp only [Sx.sizes]); first | done | omega) _ _ | (apply Blk.put_ne; (focus omega)) | apply Blk.alloc | apply Blk.drew)); done)
  (refine Ga ?_)
  have hP0 : Pl w (w1.alloc (.cells [.slice none 0 0, .slice none 0 0, .slice none 0 0].toArray 69)) p w1.heap.size F0 (fun g => g = w1.heap.size) .nil .nil :=
    ⟨hS0.below hbq, RefAt.new kq, fun g hg e => by have := hS0.lt hg; omega, hlow0, fun g e => by rw [e]; exact hb1.size, hb1.trans (hbq.mono hb1.size)⟩
  refine Lst_abs (fun A => Pl w A p w1.heap.size F0 (fun g => g = w1.heap.size) .nil .nil ∧ w1.heap.size < A.heap.size ∧ Blk A (w1.heap.size + 1) (ucs kU) 52) ⟨?_, ?_, ?_⟩ ?_
  · exact hP0.below Bel
  · simp only [Sx.sizes]
    omega
  · exact (by (repeat (first | assumption | (apply Blk.below (hb := hb1); rotate_left; (focus ((try simp only [Sx.sizes]); omega)); rotate_right) | (apply Blk.below (hb := hb2); rotate_left; (focus ((try simp only [Sx.sizes]); omega)); rotate_right) | (apply Blk.below (hb := hb3); rotate_left; (focus ((try simp only [Sx.sizes]); omega)); rotate_right) | (apply Blk.below (hb := hb4); rotate_left; (focus ((try simp only [Sx.sizes]); omega)); rotate_right) | (apply Blk.below (hb := hb5); rotate_left; (focus ((try simp only [Sx.sizes]); omega)); rotate_right) | (apply Blk.below (hb := hb6); rotate_left; (focus ((try simp only [Sx.sizes]); omega)); rotate_right) | (apply Blk.below (hb := hb7); rotate_left; (focus ((try simp only [Sx.sizes]); omega)); rotate_right) | (apply Blk.below (hb := hb8); rotate_left; (focus ((try simp only [Sx.sizes]); omega)); rotate_right) | (apply Blk.below (hb := hb9); rotate_left; (focus ((try simp only [Sx.sizes]); omega)); rotate_right) | exact Blk.newE (by first | rfl | ((try simp only [Sx.sizes]); first | done | omega)) _ _ | exact Blk.put_same (by (try simp only [Sx.sizes]); first | done | omega) _ _ | (apply Blk.put_ne; (focus omega)) | apply Blk.alloc | apply Blk.drew)); done)
  rintro A0 ⟨hP, hzA, kU0⟩
  have hu1 : ¬ F0 (w1.heap.size + 1) := fun hf => by have := hS0.lt hf; omega
  have hu2 : w1.heap.size + 1 ≠ w1.heap.size := by omega
  have hlw := hb1.size
  generalize w1.heap.size = q at *
  have lU := kU0.lt
  have kU0' := kU0
  unfold ucs kU at kU0
  (refine Ga ?_)
  (apply Lst_call; (focus rfl); (focus rfl))
  refine (c_Run kU (n : Int) p F0 .nil A0 (by rw [nil_sz]; omega) (by omega) hP.sq).mono ?_
  rintro v A1 ⟨rfl, F1, hS1, hT1⟩
  have hP1 := hP.turnF hS1 hT1
  have kU1 := hT1.blk kU0' hu1
  have hu11 : ¬ F1 (q + 1) := fun hf => hu1 ((hT1.own _ lU).1 hf)
  have lU1 := kU1.lt
  have kU1' := kU1
  unfold ucs kU at kU1
  (refine Ga ?_)
  (apply Lst_call; (focus rfl); (focus rfl))
  refine (c_rRun kU (n : Int) (by rw [nil_sz]; omega) (by omega) (by omega) hP1.ref).mono ?_
  rintro v A2 ⟨rfl, G2, hS2, hT2⟩
  have hP2 := hP1.turnG hS2 hT2
  have hsz := runR_sz (t := .nil) (u := kU) (n := (n : Int)) Fo.Good.nil ⟨fun _ => ⟨default, none, [], [], 0⟩, trivial⟩
  rw [nil_sz, Int.toNat_natCast] at hsz
  have hlo := kU_sz n hn
  generalize runR .nil kU (n : Int) = t0 at *
  clear hP hP1 hT1 hT2 hS1 hS2 kU0 kU0' kU1 kU1' hP0 hbq kq hS0 hlow0
  (refine Ga ?_)
  refine W_loop (α := Nat × Nat × (Nat → Prop) × (Nat → Prop) × Fo) (fun x => [(0, .int .i64 (n : Int)), (4, .pointer (some ⟨p, 0, none⟩)), (5, .pointer (some ⟨q, 0, none⟩)), (7, .int .i64 ((x.1 : Nat) : Int))])
    (fun x A => x.2.1 * 3 + 1 = x.1 ∧ x.1 ≤ n + 3 ∧ Pl w A p q x.2.2.1 x.2.2.2.1 x.2.2.2.2 x.2.2.2.2 ∧ x.2.2.2.2.sz ≤ n + x.2.1 ∧ n ≤ x.2.2.2.2.sz) (fun x _ => n + 3 - x.1) (1, 0, F1, G2, t0) ⟨rfl, by dsimp only; omega, hP2, by dsimp only; omega, by dsimp only; exact hlo⟩ ⟨rfl, rfl, rfl, rfl, trivial⟩ ?_
  clear hP2
  rintro J ⟨i, m, F, G, t⟩ A ⟨him, hin, hP, hts⟩
  dsimp only at him hin hP hts ⊢
  by_cases hil : i < n
  · (refine Ga ?_)
    refine Lst_abs (fun B => Below A.heap.size A B ∧ Blk B A.heap.size (ucs ⟨(2, i), (1, i), (1, i + 1)⟩) 52) ⟨Bel, (by (repeat (first | assumption | (apply Blk.below (hb := hb1); rotate_left; (focus ((try simp only [Sx.sizes]); omega)); rotate_right) | (apply Blk.below (hb := hb2); rotate_left; (focus ((try simp only [Sx.sizes]); omega)); rotate_right) | (apply Blk.below (hb := hb3); rotate_left; (focus ((try simp only [Sx.sizes]); omega)); rotate_right) | (apply Blk.below (hb := hb4); rotate_left; (focus ((try simp only [Sx.sizes]); omega)); rotate_right) | (apply Blk.below (hb := hb5); rotate_left; (focus ((try simp only [Sx.sizes]); omega)); rotate_right) | (apply Blk.below (hb := hb6); rotate_left; (focus ((try simp only [Sx.sizes]); omega)); rotate_right) | (apply Blk.below (hb := hb7); rotate_left; (focus ((try simp only [Sx.sizes]); omega)); rotate_right) | (apply Blk.below (hb := hb8); rotate_left; (focus ((try simp only [Sx.sizes]); omega)); rotate_right) | (apply Blk.below (hb := hb9); rotate_left; (focus ((try simp only [Sx.sizes]); omega)); rotate_right) | exact Blk.newE (by first | rfl | ((try simp only [Sx.sizes]); first | done | omega)) _ _ | exact Blk.put_same (by (try simp only [Sx.sizes]); first | done | omega) _ _ | (apply Blk.put_ne; (focus omega)) | apply Blk.alloc | apply Blk.drew)); done)⟩ ?_
    rintro B ⟨hbB, kB⟩
    have hB := hP.below hbB
    have n8 : ¬ F A.heap.size := fun hf => by have := hP.sq.lt hf; omega
    have n9 : ¬ G A.heap.size := fun hf => by have := hP.ref.lt hf; omega
    have hgd := hP.sq.good
    (apply Lst_call; (focus rfl); (focus rfl))
    refine (c_Insert ⟨(2, i), (1, i), (1, i + 1)⟩ p F t B (by omega) hB.sq).mono ?_
    rintro v C ⟨rfl, F', hSC, hTC⟩
    have hC := hB.turnF hSC hTC
    have kC := hTC.blk kB n8
    have lC := kC.lt
    unfold ucs at kC
    (refine Ga ?_)
    (apply Lst_call; (focus rfl); (focus rfl))
    refine (c_rInsert ⟨(2, i), (1, i), (1, i + 1)⟩ t (by omega) hC.ref).mono ?_
    rintro v D ⟨rfl, G', hSD, hTD⟩
    have hD := hC.turnG hSD hTD
    have hz := insert_sz (t := t) (u := ⟨(2, i), (1, i), (1, i + 1)⟩) hgd.nd
    have hz2 := insert_lo (t := t) (u := ⟨(2, i), (1, i), (1, i + 1)⟩) hgd.nd
    (refine Ga ?_)
    refine rndQ_n (α := Nat × Nat × (Nat → Prop) × (Nat → Prop) × Fo) (i + 3, m + 1, F', G', (Fo.insert t ⟨(2, i), (1, i), (1, i + 1)⟩).1) ⟨by dsimp only; omega, by dsimp only; omega, hD, by dsimp only; omega, by dsimp only; omega⟩ ⟨rfl, rfl, rfl, ?_, trivial⟩ (by dsimp only; omega)
    exact congrArg (Value.int .i64) (by dsimp only; omega)
  · (refine Ga ?_)
    (apply retQ2; (focus rfl); (focus rfl))
    exact ⟨p, q, F, G, t, rfl, hP, by omega, by omega⟩
end
end Mk
end Go.Proofs.YtmgipnckojopcaaGreat
