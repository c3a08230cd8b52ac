/- SeqPlays' walk. -/
import Derived.Test.YtmammcgdjjldbaaSqPlS
import Derived.Test.YtmammcgdjjldbaaSqCpC
namespace Go.Proofs.Ytmammcgdjjldbaa
set_option maxRecDepth 100000
namespace Sq
open Go Go.RowKit Sx Tl
/-- A step of a script. -/
structure Sp where
  what : Int
  n : Int
  u : Un
def scs (s : Sp) : List Value := [.int .i64 s.what, .int .i64 s.n, .int .u64 (s.u.id.1 : Int), .int .u64 (s.u.id.2 : Int), .int .u64 (s.u.l.1 : Int), .int .u64 (s.u.l.2 : Int), .int .u64 (s.u.r.1 : Int), .int .u64 (s.u.r.2 : Int)]
def SpOk (s : Sp) : Prop := -9223372036854775808 ≤ s.what ∧ s.what < 9223372036854775808 ∧ -9223372036854775808 ≤ s.n ∧ s.n < 9223372036854775808
/-- A script in memory. -/
def Sps (w : World) (v : Value) (l : List Sp) : Prop := SRows w 8 v (l.map scs) ∧ ∀ s ∈ l, SpOk s
theorem step_at {w : World} {v1 : Option Addr} {n c : Nat} {us : List Sp} (h : SRows w 8 (.slice v1 n c) (us.map scs)) {k : Nat} (hk : k < us.length) : ∃ g off, v1 = some ⟨g, off, none⟩ ∧ ∀ j u, (scs us[k])[j]? = some u → w.cell? ⟨g, off + k * 8 + j, none⟩ = some u := by
  obtain ⟨b, off, rfl, _, hc⟩ := h.at (i := k) (by rw [List.length_map]; exact hk)
  refine ⟨b, off, rfl, fun j u hu => hc j u ?_⟩
  rw [List.getElem_map]
  exact hu
theorem insert_sz {t : Fo} {u : Un} (h : t.ids.Nodup) : (Fo.insert t u).1.sz ≤ t.sz + 1 := by
  unfold Fo.insert
  split
  · have := Fo.put_sz (u := u) h
    dsimp only
    omega
  · dsimp only
    omega
theorem runR_sz {t : Fo} {u : Un} {n : Int} (hg : Fo.Good t) (hF : ∃ ρ, Fo.Fits ρ none t) : (runR t u n).sz ≤ t.sz + n.toNat := by
  cases h : runOk t u n with
  | false =>
    unfold runR
    rw [h]
    rw [if_neg (by simp)]
    omega
  | true =>
    rw [runR_trun h]
    unfold runOk at h
    simp only [Bool.and_eq_true, decide_eq_true_eq] at h
    obtain ⟨h1, h2, h3, h4, h5⟩ := h
    have := (trun_may hg hF (Fo.may_iff.1 h4) (free_iff.1 h5) (by omega) n.toNat (Nat.le_refl _)).2.2.1
    omega
variable {w : World} {p q : Nat} {F G : Nat → Prop} {t : Fo}
/-- Program and reference in step. -/
structure Pl (w0 A : World) (p q : Nat) (F G : Nat → Prop) (t r : Fo) : Prop where
  sq : SqAt A p F t
  ref : RefAt A q G r
  apart : ∀ g, F g → ¬ G g
  lowF : ∀ g, F g → w0.heap.size ≤ g
  lowG : ∀ g, G g → w0.heap.size ≤ g
  bel : Below w0.heap.size w0 A
theorem Pl.below {w0 A A' : World} {r : Fo} (h : Pl w0 A p q F G t r) (hb : Below A.heap.size A A') : Pl w0 A' p q F G t r :=
  ⟨h.sq.below hb, h.ref.below hb, h.apart, h.lowF, h.lowG, h.bel.trans (hb.mono h.bel.size)⟩
theorem Pl.turnF {w0 A A' : World} {t' r : Fo} {F' : Nat → Prop} (h : Pl w0 A p q F G t r) (hS : SqAt A' p F' t') (hT : Turn F F' A A') : Pl w0 A' p q F' G t' r := by
  have hl := hT.low h.lowF h.bel.size
  refine ⟨hS, h.ref.other hT fun g hg hf => h.apart g hf hg, fun g hf hg => ?_, hl.1, h.lowG, h.bel.trans hl.2⟩
  exact Turn.apart hT (fun g hg => h.ref.lt hg) (fun g hg hf => h.apart g hf hg) g hg hf
theorem Pl.turnG {w0 A A' : World} {r r' : Fo} {G' : Nat → Prop} (h : Pl w0 A p q F G t r) (hS : RefAt A' q G' r') (hT : Turn G G' A A') : Pl w0 A' p q F G' t r' := by
  have hl := hT.low h.lowG h.bel.size
  exact ⟨h.sq.other hT h.apart, hS, Turn.apart hT (fun g hg => h.sq.lt hg) h.apart, h.lowF, hl.1, h.bel.trans hl.2⟩
section
attribute [local irreducible] RnS
attribute [local irreducible] W Lst Qst Pu seqQ blkQ rndQ cutQ retQ Does Enters IntKind.wrap bits sb World.alloc World.putObj Blk
set_option maxHeartbeats 4000000 in
theorem law_SeqPlays (l : List Sp) (v : Value) (w : World) (h : Sps w v l) :
    Does Try.prog 10 #[v] w fun v w' => v = .bool true ∧ Below w.heap.size w w' := by
  obtain ⟨a, c, rfl⟩ := h.1.form
  obtain ⟨hrow, hok⟩ := h
  rw [List.length_map] at hrow ⊢
  refine Does_of (args := [.slice a l.length c]) Try.func10 (by kernel_rfl) rfl rfl rfl rfl rfl ?_
  (refine Ga ?_)
  (apply Lst_call; (focus rfl); (focus rfl))
  refine (c_known w).mono ?_
  rintro v w1 ⟨rfl, hb1⟩
  by_cases hl : l.length ≤ 80
  · have h1 := hrow.below hb1 (Nat.le_refl _)
    (refine Ga ?_)
    (apply Lst_call; (focus rfl); (focus rfl))
    refine (c_New w1).mono ?_
    rintro v w2 ⟨p, F0, rfl, hS0, hlow0, hb2⟩
    have hbq : Below w2.heap.size w2 (w2.alloc (.cells [.slice none 0 0, .slice none 0 0, .slice none 0 0].toArray 59)) := Bel
    have kq : Blk (w2.alloc (.cells [.slice none 0 0, .slice none 0 0, .slice none 0 0].toArray 59)) w2.heap.size [.slice none 0 0, .slice none 0 0, .slice none 0 0] 59 := (by (repeat (first | assumption | (apply Blk.below (hb := hb1); rotate_left; (focus ((try simp only [Sx.sizes]); omega)); rotate_right) | (apply Blk.below (hb := hb2); rotate_left; (focus ((try simp only [Sx.sizes]); omega)); rotate_right) | (apply Blk.below (hb := hb3); rotate_left; (focus ((try simp only [Sx.sizes]); omega)); rotate_right) | (apply Blk.below (hb := hb4); rotate_left; (focus ((try simp only [Sx.sizes]); omega)); rotate_right) | (apply Blk.below (hb := hb5); rotate_left; (focus ((try simp only [Sx.sizes]); omega)); rotate_right) | (apply Blk.below (hb := hb6); rotate_left; (focus ((try simp only [Sx.sizes]); omega)); rotate_right) | (apply Blk.below (hb := hb7); rotate_left; (focus ((try simp only [Sx.sizes]); omega)); rotate_right) | (apply Blk.below (hb := hb8); rotate_left; (focus ((try simp only [Sx.sizes]); omega)); rotate_right) | (apply Blk.below (hb := hb9); rotate_left; (focus ((try simp only [Sx.sizes]); omega)); rotate_right) | exact Blk.newE (by first | rfl | ((try simp only [Sx.sizes]); first | done | omega)) _ _ | exact Blk.put_same (by (try simp only [Sx.sizes]); first | done | omega) _ _ | (apply Blk.put_ne; (focus omega)) | apply Blk.alloc | apply Blk.drew)); done)
    (refine Ga ?_)
    have hP0 : Pl w1 (w2.alloc (.cells [.slice none 0 0, .slice none 0 0, .slice none 0 0].toArray 59)) p w2.heap.size F0 (fun g => g = w2.heap.size) .nil .nil :=
      ⟨hS0.below hbq, RefAt.new kq, fun g hg e => by have := hS0.lt hg; omega, hlow0, fun g e => by rw [e]; exact hb2.size, hb2.trans (hbq.mono hb2.size)⟩
    generalize w2.alloc (.cells [.slice none 0 0, .slice none 0 0, .slice none 0 0].toArray 59) = w3 at *
    generalize w2.heap.size = q at *
    refine W_loop (α := Nat × Nat × (Nat → Prop) × (Nat → Prop) × Fo) (fun x => [(0, .slice a l.length c), (3, .pointer (some ⟨x.2.1, 0, none⟩)), (4, .pointer (some ⟨q, 0, none⟩)), (5, .int .i64 (x.1 : Int))])
      (fun x A => x.1 ≤ l.length ∧ Pl w1 A x.2.1 q x.2.2.1 x.2.2.2.1 x.2.2.2.2 x.2.2.2.2 ∧ x.2.2.2.2.sz ≤ 21 * x.1) (fun x _ => l.length - x.1) (0, p, F0, (fun g => g = q), .nil) ⟨Nat.zero_le _, hP0, Nat.le_refl _⟩ ⟨rfl, rfl, rfl, rfl, trivial⟩ ?_
    clear hP0 kq hbq hS0 hlow0 hb2 p F0
    rintro J ⟨i, p, F, G, t⟩ A ⟨hi, hP, hsz⟩
    dsimp only at hi hP hsz ⊢
    by_cases hil : i < l.length
    · have hA := h1.below hP.bel (Nat.le_refl _)
      obtain ⟨g, off, rfl, hc⟩ := step_at hA hil
      have hs := hok _ (List.getElem_mem hil)
      generalize l[i] = s at *
      (refine Ga ?_)
      apply Lst_pu
      · apply P_idxm (j := i)
        focus rfl
        focus rfl
        focus rfl
        focus rfl
        focus rfl
        focus exact hil
      focus rfl
      (refine Ga ?_)
      apply Lst_loadS' (cs := scs s)
      focus rfl
      focus rfl
      focus rfl
      focus rfl
      focus rfl
      focus exact hc
      focus rfl
      unfold scs
      have hbA : Below A.heap.size A ((A.alloc (.cells #[.int .i64 0, .int .i64 0, .int .u64 0, .int .u64 0, .int .u64 0, .int .u64 0, .int .u64 0, .int .u64 0] 61)).putObj A.heap.size (.cells #[.int .i64 s.what, .int .i64 s.n, .int .u64 (s.u.id.1 : Int), .int .u64 (s.u.id.2 : Int), .int .u64 (s.u.l.1 : Int), .int .u64 (s.u.l.2 : Int), .int .u64 (s.u.r.1 : Int), .int .u64 (s.u.r.2 : Int)] 61)) := Bel
      have k6 : Blk ((A.alloc (.cells #[.int .i64 0, .int .i64 0, .int .u64 0, .int .u64 0, .int .u64 0, .int .u64 0, .int .u64 0, .int .u64 0] 61)).putObj A.heap.size (.cells #[.int .i64 s.what, .int .i64 s.n, .int .u64 (s.u.id.1 : Int), .int .u64 (s.u.id.2 : Int), .int .u64 (s.u.l.1 : Int), .int .u64 (s.u.l.2 : Int), .int .u64 (s.u.r.1 : Int), .int .u64 (s.u.r.2 : Int)] 61)) A.heap.size [.int .i64 s.what, .int .i64 s.n, .int .u64 (s.u.id.1 : Int), .int .u64 (s.u.id.2 : Int), .int .u64 (s.u.l.1 : Int), .int .u64 (s.u.l.2 : Int), .int .u64 (s.u.r.1 : Int), .int .u64 (s.u.r.2 : Int)] 61 := (by (repeat (first | assumption | (apply Blk.below (hb := hb1); rotate_left; (focus ((try simp only [Sx.sizes]); omega)); rotate_right) | (apply Blk.below (hb := hb2); rotate_left; (focus ((try simp only [Sx.sizes]); omega)); rotate_right) | (apply Blk.below (hb := hb3); rotate_left; (focus ((try simp only [Sx.sizes]); omega)); rotate_right) | (apply Blk.below (hb := hb4); rotate_left; (focus ((try simp only [Sx.sizes]); omega)); rotate_right) | (apply Blk.below (hb := hb5); rotate_left; (focus ((try simp only [Sx.sizes]); omega)); rotate_right) | (apply Blk.below (hb := hb6); rotate_left; (focus ((try simp only [Sx.sizes]); omega)); rotate_right) | (apply Blk.below (hb := hb7); rotate_left; (focus ((try simp only [Sx.sizes]); omega)); rotate_right) | (apply Blk.below (hb := hb8); rotate_left; (focus ((try simp only [Sx.sizes]); omega)); rotate_right) | (apply Blk.below (hb := hb9); rotate_left; (focus ((try simp only [Sx.sizes]); omega)); rotate_right) | exact Blk.newE (by first | rfl | ((try simp only [Sx.sizes]); first | done | omega)) _ _ | exact Blk.put_same (by (try simp only [Sx.sizes]); first | done | omega) _ _ | (apply Blk.put_ne; (focus omega)) | apply Blk.alloc | apply Blk.drew)); done)
      have hP2 := hP.below hbA
      (refine Ga ?_)
      generalize ((A.alloc (.cells #[.int .i64 0, .int .i64 0, .int .u64 0, .int .u64 0, .int .u64 0, .int .u64 0, .int .u64 0, .int .u64 0] 61)).putObj A.heap.size (.cells #[.int .i64 s.what, .int .i64 s.n, .int .u64 (s.u.id.1 : Int), .int .u64 (s.u.id.2 : Int), .int .u64 (s.u.l.1 : Int), .int .u64 (s.u.l.2 : Int), .int .u64 (s.u.r.1 : Int), .int .u64 (s.u.r.2 : Int)] 61)) = A2 at *
      have h6 : ¬ F A.heap.size := fun hf => by have := hP.sq.lt hf; omega
      have g6 : ¬ G A.heap.size := fun hf => by have := hP.ref.lt hf; omega
      have hng : Fo.Good t := hP.sq.good
      have hnf := hP.sq.fits
      generalize A.heap.size = b6 at *
      clear hP hA hc hbA
      have l6 := k6.lt
      obtain ⟨hw1, hw2, hn1, hn2⟩ := hs
      by_cases h3 : s.what = 3
      · by_cases hn : s.n > 20
        · (refine Ga ?_)
          have hPd := hP2.below (Below.drew (Below.refl _ _))
          refine W_drawS 11 (fun A' => Blk A' b6 [.int .i64 s.what, .int .i64 s.n, .int .u64 (s.u.id.1 : Int), .int .u64 (s.u.id.2 : Int), .int .u64 (s.u.l.1 : Int), .int .u64 (s.u.l.2 : Int), .int .u64 (s.u.r.1 : Int), .int .u64 (s.u.r.2 : Int)] 61) rfl rfl ?_
          refine S_takeV 0 10 rfl (by kernel_rfl) (by repeat (first | exact retQ_p | apply seqQ_p | apply blkQ_p | apply rndQ_p | apply cutQ_p)) (Blk.drew k6) ?_
          (refine Qb ?_)
          refine S_takeV 1 9 rfl (by kernel_rfl) (by repeat (first | exact retQ_p | apply seqQ_p | apply blkQ_p | apply rndQ_p | apply cutQ_p)) (Blk.drew k6) ?_
          (refine Qb ?_)
          refine S_takeV 2 8 rfl (by kernel_rfl) (by repeat (first | exact retQ_p | apply seqQ_p | apply blkQ_p | apply rndQ_p | apply cutQ_p)) (Blk.drew k6) ?_
          (refine Qb ?_)
          refine S_takeV 3 7 rfl (by kernel_rfl) (by repeat (first | exact retQ_p | apply seqQ_p | apply blkQ_p | apply rndQ_p | apply cutQ_p)) (Blk.drew k6) ?_
          (refine Qb ?_)
          refine S_takeV 5 6 rfl (by kernel_rfl) (by repeat (first | exact retQ_p | apply seqQ_p | apply blkQ_p | apply rndQ_p | apply cutQ_p)) (Blk.drew k6) ?_
          (refine Qb ?_)
          refine S_takeV 6 5 rfl (by kernel_rfl) (by repeat (first | exact retQ_p | apply seqQ_p | apply blkQ_p | apply rndQ_p | apply cutQ_p)) (Blk.drew k6) ?_
          (refine Qb ?_)
          refine S_takeV 7 4 rfl (by kernel_rfl) (by repeat (first | exact retQ_p | apply seqQ_p | apply blkQ_p | apply rndQ_p | apply cutQ_p)) (Blk.drew k6) ?_
          (refine Qb ?_)
          refine S_takeV 8 3 rfl (by kernel_rfl) (by repeat (first | exact retQ_p | apply seqQ_p | apply blkQ_p | apply rndQ_p | apply cutQ_p)) (Blk.drew k6) ?_
          (refine Qb ?_)
          refine S_any [4] 2 rfl (by kernel_rfl) (all1 ?_)
          (apply Lst_call; (focus rfl); (focus rfl))
          refine (c_Run s.u 20 p F t _ (by omega) (by omega) hPd.sq).mono ?_
          rintro v A3 ⟨rfl, F3, hS3, hT3⟩
          have hP3 := hPd.turnF hS3 hT3
          have k63 := hT3.blk (Blk.drew k6) h6
          apply Lst_nil
          apply rnQ_n
          refine ⟨k63, ?_⟩
          refine S_any [9] 1 rfl (by kernel_rfl) (all1 ?_)
          (apply Lst_call; (focus rfl); (focus rfl))
          refine (c_rRun s.u 20 (by omega) (by omega) (by omega) hP3.ref).mono ?_
          rintro v A4 ⟨rfl, G4, hS4, hT4⟩
          have hP4 := hP3.turnG hS4 hT4
          have k64 := hT4.blk k63 g6
          apply Lst_nil
          apply rnQ_n
          refine ⟨k64, ?_⟩
          refine S_takeV 10 0 rfl (by kernel_rfl) (by repeat (first | exact retQ_p | apply seqQ_p | apply blkQ_p | apply rndQ_p | apply cutQ_p)) k64 ?_
          (refine Qb ?_)
          refine S_done (by kernel_rfl) ?_
          have hsz4 := runR_sz (t := t) (u := s.u) (n := 20) hng hnf
          (refine Ga ?_)
          (apply Lst_call; (focus rfl); (focus rfl))
          refine (c_same (t := runR t s.u 20) (by omega) hP4.sq hP4.ref hP4.apart).mono ?_
          rintro v A9 ⟨rfl, hS9, hT9⟩
          have hP9 := hP4.turnF hS9 hT9
          (refine Ga ?_)
          refine rndQ_n (α := Nat × Nat × (Nat → Prop) × (Nat → Prop) × Fo) (i + 1, p, F3, G4, runR t s.u 20) ⟨hil, hP9, by dsimp only; omega⟩ ⟨rfl, rfl, rfl, ?_, trivial⟩ (by dsimp only; omega)
          exact congrArg (Value.int .i64) (by dsimp only; omega)
          
        · (refine Ga ?_)
          have hPd := hP2.below (Below.drew (Below.refl _ _))
          refine W_drawS 11 (fun A' => Blk A' b6 [.int .i64 s.what, .int .i64 s.n, .int .u64 (s.u.id.1 : Int), .int .u64 (s.u.id.2 : Int), .int .u64 (s.u.l.1 : Int), .int .u64 (s.u.l.2 : Int), .int .u64 (s.u.r.1 : Int), .int .u64 (s.u.r.2 : Int)] 61) rfl rfl ?_
          refine S_takeV 0 10 rfl (by kernel_rfl) (by repeat (first | exact retQ_p | apply seqQ_p | apply blkQ_p | apply rndQ_p | apply cutQ_p)) (Blk.drew k6) ?_
          (refine Qb ?_)
          refine S_takeV 1 9 rfl (by kernel_rfl) (by repeat (first | exact retQ_p | apply seqQ_p | apply blkQ_p | apply rndQ_p | apply cutQ_p)) (Blk.drew k6) ?_
          (refine Qb ?_)
          refine S_takeV 2 8 rfl (by kernel_rfl) (by repeat (first | exact retQ_p | apply seqQ_p | apply blkQ_p | apply rndQ_p | apply cutQ_p)) (Blk.drew k6) ?_
          (refine Qb ?_)
          refine S_takeV 3 7 rfl (by kernel_rfl) (by repeat (first | exact retQ_p | apply seqQ_p | apply blkQ_p | apply rndQ_p | apply cutQ_p)) (Blk.drew k6) ?_
          (refine Qb ?_)
          refine S_takeV 5 6 rfl (by kernel_rfl) (by repeat (first | exact retQ_p | apply seqQ_p | apply blkQ_p | apply rndQ_p | apply cutQ_p)) (Blk.drew k6) ?_
          (refine Qb ?_)
          refine S_takeV 6 5 rfl (by kernel_rfl) (by repeat (first | exact retQ_p | apply seqQ_p | apply blkQ_p | apply rndQ_p | apply cutQ_p)) (Blk.drew k6) ?_
          (refine Qb ?_)
          refine S_takeV 7 4 rfl (by kernel_rfl) (by repeat (first | exact retQ_p | apply seqQ_p | apply blkQ_p | apply rndQ_p | apply cutQ_p)) (Blk.drew k6) ?_
          (refine Qb ?_)
          refine S_takeV 8 3 rfl (by kernel_rfl) (by repeat (first | exact retQ_p | apply seqQ_p | apply blkQ_p | apply rndQ_p | apply cutQ_p)) (Blk.drew k6) ?_
          (refine Qb ?_)
          refine S_any [4] 2 rfl (by kernel_rfl) (all1 ?_)
          (apply Lst_call; (focus rfl); (focus rfl))
          refine (c_Run s.u s.n p F t _ (by omega) (by omega) hPd.sq).mono ?_
          rintro v A3 ⟨rfl, F3, hS3, hT3⟩
          have hP3 := hPd.turnF hS3 hT3
          have k63 := hT3.blk (Blk.drew k6) h6
          apply Lst_nil
          apply rnQ_n
          refine ⟨k63, ?_⟩
          refine S_any [9] 1 rfl (by kernel_rfl) (all1 ?_)
          (apply Lst_call; (focus rfl); (focus rfl))
          refine (c_rRun s.u s.n (by omega) (by omega) (by omega) hP3.ref).mono ?_
          rintro v A4 ⟨rfl, G4, hS4, hT4⟩
          have hP4 := hP3.turnG hS4 hT4
          have k64 := hT4.blk k63 g6
          apply Lst_nil
          apply rnQ_n
          refine ⟨k64, ?_⟩
          refine S_takeV 10 0 rfl (by kernel_rfl) (by repeat (first | exact retQ_p | apply seqQ_p | apply blkQ_p | apply rndQ_p | apply cutQ_p)) k64 ?_
          (refine Qb ?_)
          refine S_done (by kernel_rfl) ?_
          have hsz4 := runR_sz (t := t) (u := s.u) (n := s.n) hng hnf
          (refine Ga ?_)
          (apply Lst_call; (focus rfl); (focus rfl))
          refine (c_same (t := runR t s.u s.n) (by omega) hP4.sq hP4.ref hP4.apart).mono ?_
          rintro v A9 ⟨rfl, hS9, hT9⟩
          have hP9 := hP4.turnF hS9 hT9
          (refine Ga ?_)
          refine rndQ_n (α := Nat × Nat × (Nat → Prop) × (Nat → Prop) × Fo) (i + 1, p, F3, G4, runR t s.u s.n) ⟨hil, hP9, by dsimp only; omega⟩ ⟨rfl, rfl, rfl, ?_, trivial⟩ (by dsimp only; omega)
          exact congrArg (Value.int .i64) (by dsimp only; omega)
          
      · by_cases h4 : s.what = 4
        · (refine Ga ?_)
          (apply Lst_call; (focus rfl); (focus rfl))
          refine (c_Copy hP2.sq (by omega)).mono ?_
          rintro v A3 ⟨p3, F3, rfl, hS3, hlow3, hb3⟩
          have hP3 := hP2.below hb3
          (refine Ga ?_)
          (apply Lst_call; (focus rfl); (focus rfl))
          refine (c_id 77 77 A3).mono ?_
          rintro v A4 ⟨rfl, hb4⟩
          have hP4 := hP3.below hb4
          have hS4 := hS3.below hb4
          unfold idv
          (refine Ga ?_)
          (apply Lst_call; (focus rfl); (focus rfl))
          refine (c_Insert ⟨(77, 77), (0, 0), (0, 0)⟩ p F t A4 (by omega) hP4.sq).mono ?_
          rintro v A5 ⟨rfl, F5, hS5, hT5⟩
          have hFF : ∀ g, F3 g → ¬ F g := fun g hg hf => by
            have h1 := hlow3 g hg
            have h2 := hP2.sq.lt hf
            omega
          have hGF : ∀ g, F3 g → ¬ G g := fun g hg hf => by
            have h1 := hlow3 g hg
            have h2 := hP2.ref.lt hf
            omega
          have hl5 := hT5.low hP4.lowF hP4.bel.size
          have hP5 : Pl w1 A5 p3 q F3 G t t := ⟨hS4.other hT5 hFF, hP4.ref.other hT5 fun g hg hf => hP4.apart g hf hg, hGF, fun g hg => Nat.le_trans hP2.bel.size (hlow3 g hg), hP4.lowG, hP4.bel.trans hl5.2⟩
          (refine Ga ?_)
          (apply Lst_call; (focus rfl); (focus rfl))
          refine (c_same (t := t) (by omega) hP5.sq hP5.ref hP5.apart).mono ?_
          rintro v A9 ⟨rfl, hS9, hT9⟩
          have hP9 := hP5.turnF hS9 hT9
          (refine Ga ?_)
          refine rndQ_n (α := Nat × Nat × (Nat → Prop) × (Nat → Prop) × Fo) (i + 1, p3, F3, G, t) ⟨hil, hP9, by dsimp only; omega⟩ ⟨rfl, rfl, rfl, ?_, trivial⟩ (by dsimp only; omega)
          exact congrArg (Value.int .i64) (by dsimp only; omega)
        · (refine Ga ?_)
          have hPd := hP2.below (Below.drew (Below.refl _ _))
          refine W_drawS 9 (fun A' => Blk A' b6 [.int .i64 s.what, .int .i64 s.n, .int .u64 (s.u.id.1 : Int), .int .u64 (s.u.id.2 : Int), .int .u64 (s.u.l.1 : Int), .int .u64 (s.u.l.2 : Int), .int .u64 (s.u.r.1 : Int), .int .u64 (s.u.r.2 : Int)] 61) rfl rfl ?_
          refine S_takeV 0 8 rfl (by kernel_rfl) (by repeat (first | exact retQ_p | apply seqQ_p | apply blkQ_p | apply rndQ_p | apply cutQ_p)) (Blk.drew k6) ?_
          (refine Qb ?_)
          refine S_takeV 1 7 rfl (by kernel_rfl) (by repeat (first | exact retQ_p | apply seqQ_p | apply blkQ_p | apply rndQ_p | apply cutQ_p)) (Blk.drew k6) ?_
          (refine Qb ?_)
          refine S_takeV 2 6 rfl (by kernel_rfl) (by repeat (first | exact retQ_p | apply seqQ_p | apply blkQ_p | apply rndQ_p | apply cutQ_p)) (Blk.drew k6) ?_
          (refine Qb ?_)
          refine S_takeV 4 5 rfl (by kernel_rfl) (by repeat (first | exact retQ_p | apply seqQ_p | apply blkQ_p | apply rndQ_p | apply cutQ_p)) (Blk.drew k6) ?_
          (refine Qb ?_)
          refine S_takeV 5 4 rfl (by kernel_rfl) (by repeat (first | exact retQ_p | apply seqQ_p | apply blkQ_p | apply rndQ_p | apply cutQ_p)) (Blk.drew k6) ?_
          (refine Qb ?_)
          refine S_takeV 6 3 rfl (by kernel_rfl) (by repeat (first | exact retQ_p | apply seqQ_p | apply blkQ_p | apply rndQ_p | apply cutQ_p)) (Blk.drew k6) ?_
          (refine Qb ?_)
          refine S_any [3] 2 rfl (by kernel_rfl) (all1 ?_)
          (apply Lst_call; (focus rfl); (focus rfl))
          refine (c_Insert s.u p F t _ (by omega) hPd.sq).mono ?_
          rintro v A3 ⟨rfl, F3, hS3, hT3⟩
          have hP3 := hPd.turnF hS3 hT3
          have k63 := hT3.blk (Blk.drew k6) h6
          apply Lst_nil
          apply rnQ_n
          refine ⟨k63, ?_⟩
          refine S_any [7] 1 rfl (by kernel_rfl) (all1 ?_)
          (apply Lst_call; (focus rfl); (focus rfl))
          refine (c_rInsert s.u t (by omega) hP3.ref).mono ?_
          rintro v A4 ⟨rfl, G4, hS4, hT4⟩
          have hP4 := hP3.turnG hS4 hT4
          have k64 := hT4.blk k63 g6
          apply Lst_nil
          apply rnQ_n
          refine ⟨k64, ?_⟩
          refine S_takeV 8 0 rfl (by kernel_rfl) (by repeat (first | exact retQ_p | apply seqQ_p | apply blkQ_p | apply rndQ_p | apply cutQ_p)) k64 ?_
          (refine Qb ?_)
          refine S_done (by kernel_rfl) ?_
          have hsz4 := insert_sz (t := t) (u := s.u) hng.nd
          (refine Ga ?_)
          (apply Lst_call; (focus rfl); (focus rfl))
          refine (c_same (t := (Fo.insert t s.u).1) (by omega) hP4.sq hP4.ref hP4.apart).mono ?_
          rintro v A9 ⟨rfl, hS9, hT9⟩
          have hP9 := hP4.turnF hS9 hT9
          (refine Ga ?_)
          refine rndQ_n (α := Nat × Nat × (Nat → Prop) × (Nat → Prop) × Fo) (i + 1, p, F3, G4, (Fo.insert t s.u).1) ⟨hil, hP9, by dsimp only; omega⟩ ⟨rfl, rfl, rfl, ?_, trivial⟩ (by dsimp only; omega)
          exact congrArg (Value.int .i64) (by dsimp only; omega)
          
    · obtain rfl : i = l.length := by omega
      (refine Ga ?_)
      (apply Lst_call; (focus rfl); (focus rfl))
      refine (c_same (t := t) (by omega) hP.sq hP.ref hP.apart).mono ?_
      rintro v A9 ⟨rfl, hS9, hT9⟩
      have hP9 := hP.turnF hS9 hT9
      (refine Ga ?_)
      (apply retQ1; (focus rfl))
      exact ⟨rfl, hb1.trans (hP9.bel.mono hb1.size)⟩
  · (refine Ga ?_)
    (apply retQ1; (focus rfl))
    exact ⟨rfl, hb1⟩
end
end Sq
end Go.Proofs.Ytmammcgdjjldbaa
