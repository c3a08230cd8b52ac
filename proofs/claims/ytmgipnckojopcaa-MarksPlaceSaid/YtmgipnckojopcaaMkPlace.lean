/- MarksPlace's walk. -/
import Derived.Test.YtmgipnckojopcaaMkU
namespace Go.Proofs.Ytmgipnckojopcaa
set_option maxRecDepth 100000
namespace Mk
open Go Go.RowKit Sx Tl Sq Val
theorem SqAt.putM {w : World} {p : Nat} {F : Nat → Prop} {t : Fo} {b : Nat} (h : SqAt w p F t) (hb : ¬ F b) (o : Obj) : SqAt (w.putObj b o) p F t :=
  h.kept rfl rfl rfl (by rw [World.putObj_size]; exact Nat.le_refl _) fun g hg => World.putObj_heap_other fun e => hb (e ▸ hg)
section
attribute [local irreducible] RnS
attribute [local irreducible] W Lst Qst Pu seqQ blkQ rndQ cutQ retQ Does Enters IntKind.wrap bits sb World.alloc World.putObj Blk
set_option maxHeartbeats 4000000 in
theorem law_MarksPlace (n : Int) (a b : Anc) (o : Mo) (w : World) :
    Does Try.prog 4 #[.int .i64 n, .agg (acs a).toArray, .agg (acs b).toArray, .agg (ocs o).toArray] w fun v w' => v = .bool true ∧ Below w.heap.size w w' := by
  refine Does_of (args := [.int .i64 n, .agg (acs a).toArray, .agg (acs b).toArray, .agg (ocs o).toArray]) Try.func4 (by kernel_rfl) rfl rfl rfl rfl rfl ?_
  (refine Ga ?_)
  refine Lst_abs (fun A => Below w.heap.size w A ∧ Blk A w.heap.size (acs a) 30 ∧ Blk A (w.heap.size + 1) (acs b) 30 ∧ Blk A (w.heap.size + 2) (ocs o) 32) ⟨Bel, (by (repeat (first | assumption | (apply Blk.below (hb := hb1); rotate_left; (focus ((try simp only [Sx.sizes]); omega)); rotate_right) | (apply Blk.below (hb := hb2); rotate_left; (focus ((try simp only [Sx.sizes]); omega)); rotate_right) | (apply Blk.below (hb := hb3); rotate_left; (focus ((try simp only [Sx.sizes]); omega)); rotate_right) | (apply Blk.below (hb := hb4); rotate_left; (focus ((try simp only [Sx.sizes]); omega)); rotate_right) | (apply Blk.below (hb := hb5); rotate_left; (focus ((try simp only [Sx.sizes]); omega)); rotate_right) | (apply Blk.below (hb := hb6); rotate_left; (focus ((try simp only [Sx.sizes]); omega)); rotate_right) | (apply Blk.below (hb := hb7); rotate_left; (focus ((try simp only [Sx.sizes]); omega)); rotate_right) | (apply Blk.below (hb := hb8); rotate_left; (focus ((try simp only [Sx.sizes]); omega)); rotate_right) | (apply Blk.below (hb := hb9); rotate_left; (focus ((try simp only [Sx.sizes]); omega)); rotate_right) | exact Blk.newE (by first | rfl | ((try simp only [Sx.sizes]); first | done | omega)) _ _ | exact Blk.put_same (by (try simp only [Sx.sizes]); first | done | omega) _ _ | (apply Blk.put_ne; (focus omega)) | apply Blk.alloc | apply Blk.drew)); done), (by (repeat (first | assumption | (apply Blk.below (hb := hb1); rotate_left; (focus ((try simp only [Sx.sizes]); omega)); rotate_right) | (apply Blk.below (hb := hb2); rotate_left; (focus ((try simp only [Sx.sizes]); omega)); rotate_right) | (apply Blk.below (hb := hb3); rotate_left; (focus ((try simp only [Sx.sizes]); omega)); rotate_right) | (apply Blk.below (hb := hb4); rotate_left; (focus ((try simp only [Sx.sizes]); omega)); rotate_right) | (apply Blk.below (hb := hb5); rotate_left; (focus ((try simp only [Sx.sizes]); omega)); rotate_right) | (apply Blk.below (hb := hb6); rotate_left; (focus ((try simp only [Sx.sizes]); omega)); rotate_right) | (apply Blk.below (hb := hb7); rotate_left; (focus ((try simp only [Sx.sizes]); omega)); rotate_right) | (apply Blk.below (hb := hb8); rotate_left; (focus ((try simp only [Sx.sizes]); omega)); rotate_right) | (apply Blk.below (hb := hb9); rotate_left; (focus ((try simp only [Sx.sizes]); omega)); rotate_right) | exact Blk.newE (by first | rfl | ((try simp only [Sx.sizes]); first | done | omega)) _ _ | exact Blk.put_same (by (try simp only [Sx.sizes]); first | done | omega) _ _ | (apply Blk.put_ne; (focus omega)) | apply Blk.alloc | apply Blk.drew)); done), (by (repeat (first | assumption | (apply Blk.below (hb := hb1); rotate_left; (focus ((try simp only [Sx.sizes]); omega)); rotate_right) | (apply Blk.below (hb := hb2); rotate_left; (focus ((try simp only [Sx.sizes]); omega)); rotate_right) | (apply Blk.below (hb := hb3); rotate_left; (focus ((try simp only [Sx.sizes]); omega)); rotate_right) | (apply Blk.below (hb := hb4); rotate_left; (focus ((try simp only [Sx.sizes]); omega)); rotate_right) | (apply Blk.below (hb := hb5); rotate_left; (focus ((try simp only [Sx.sizes]); omega)); rotate_right) | (apply Blk.below (hb := hb6); rotate_left; (focus ((try simp only [Sx.sizes]); omega)); rotate_right) | (apply Blk.below (hb := hb7); rotate_left; (focus ((try simp only [Sx.sizes]); omega)); rotate_right) | (apply Blk.below (hb := hb8); rotate_left; (focus ((try simp only [Sx.sizes]); omega)); rotate_right) | (apply Blk.below (hb := hb9); rotate_left; (focus ((try simp only [Sx.sizes]); omega)); rotate_right) | exact Blk.newE (by first | rfl | ((try simp only [Sx.sizes]); first | done | omega)) _ _ | exact Blk.put_same (by (try simp only [Sx.sizes]); first | done | omega) _ _ | (apply Blk.put_ne; (focus omega)) | apply Blk.alloc | apply Blk.drew)); done)⟩ ?_
  rintro w1 ⟨hb1, ka, kb, ko⟩
  (apply Lst_call; (focus rfl); (focus rfl))
  refine (c_known w1).mono ?_
  rintro v w2 ⟨rfl, hb2⟩
  have ka := ka.below hb2 ka.lt
  have kb := kb.below hb2 kb.lt
  have ko := ko.below hb2 ko.lt
  have bw2 := hb1.trans (hb2.mono hb1.size)
  (refine Ga ?_)
  (apply Lst_call; (focus rfl); (focus rfl))
  refine (Wire.h_Place n 20 w2 (by omega) (by omega)).mono ?_
  rintro v w' ⟨rfl, rfl⟩
  obtain ⟨m, hm⟩ : ∃ m : Nat, n % 20 = (m : Int) := ⟨(n % 20).toNat, by omega⟩
  rw [hm]
  (refine Ga ?_)
  (apply Lst_call; (focus rfl); (focus rfl))
  refine (c_units m (by omega) w2).mono ?_
  rintro v w3 ⟨p, q, F, G, t, rfl, hP, hsz⟩
  have la := ka.lt
  have lb := kb.lt
  have lo := ko.lt
  have hF : ∀ x, x < w2.heap.size → ¬ F x := fun x hx hf => by have := hP.lowF x hf; omega
  have ka := ka.below hP.bel la
  have kb := kb.below hP.bel lb
  have ko := ko.below hP.bel lo
  have ka' := ka
  have kb' := kb
  have la3 := ka.lt
  have lb3 := kb.lt
  unfold acs at ka kb
  (refine Ga ?_)
  (apply Lst_call; (focus rfl); (focus rfl))
  refine (c_Gap a (by omega) hP.sq).mono ?_
  rintro v w4 ⟨rfl, hS4, hT4⟩
  have hP4 := hP.turnF hS4 hT4
  have ka4' := hT4.blk ka' (hF _ la)
  have kb4' := hT4.blk kb' (hF _ lb)
  have ko4 := hT4.blk ko (hF _ lo)
  have ka4 := ka4'
  have kb4 := kb4'
  have la4 := ka4.lt
  unfold acs at ka4 kb4
  (refine Ga ?_)
  (apply Lst_call; (focus rfl); (focus rfl))
  refine (r_Gap a (by omega) hP4.ref).mono ?_
  rintro v w5 ⟨rfl, hb5⟩
  have hP5 := hP4.below hb5
  have ka5 := ka4'.below hb5 ka4'.lt
  have kb5 := kb4'.below hb5 kb4'.lt
  have ko5 := ko4.below hb5 ko4.lt
  have bw5 := bw2.trans (hP5.bel.mono bw2.size)
  clear ka ka' ka4 ka4' kb kb' kb4 kb4' ko ko4 hP4 hS4 hT4 hP la3 lb3 la4
  have la5 := ka5.lt
  have lb5 := kb5.lt
  have lo5 := ko5.lt
  have ko5' := ko5
  unfold ocs at ko5
  (refine Ga ?_)
  rw [show w.heap.size + 1 + 1 = w.heap.size + 2 from rfl]
  have hAB : w.heap.size ≠ w.heap.size + 2 := by omega
  have hBB : w.heap.size + 1 ≠ w.heap.size + 2 := by omega
  have ho5 : ¬ F w.heap.size.succ.succ := hF _ lo
  have go5 : ¬ G (w.heap.size + 2) := fun hg => by have := hP5.lowG _ hg; omega
  generalize hbe : w.heap.size = b0 at *
  refine W_drawS 6 (fun A => Blk A b0 [.int .u64 (a.id.1 : Int), .int .u64 (a.id.2 : Int), .bool a.after] 30 ∧ Blk A (b0 + 1) [.int .u64 (b.id.1 : Int), .int .u64 (b.id.2 : Int), .bool b.after] 30) rfl rfl ?_
  refine S_takeV 0 5 rfl (by kernel_rfl) (by repeat (first | exact retQ_p | apply seqQ_p | apply blkQ_p | apply rndQ_p | apply cutQ_p)) ⟨Blk.drew ka5, Blk.drew kb5⟩ ?_
  apply Qst_loadA
  focus rfl
  focus rfl
  focus rfl
  focus rfl
  focus rfl
  focus exact fun A9 hA9 => hA9.1
  focus (repeat constructor)
  focus rfl
  (refine Qb ?_)
  refine S_takeV 1 4 rfl (by kernel_rfl) (by repeat (first | exact retQ_p | apply seqQ_p | apply blkQ_p | apply rndQ_p | apply cutQ_p)) ⟨Blk.drew ka5, Blk.drew kb5⟩ ?_
  apply Qst_loadA
  focus rfl
  focus rfl
  focus rfl
  focus rfl
  focus rfl
  focus exact fun A9 hA9 => hA9.2
  focus (repeat constructor)
  focus rfl
  (refine Qb ?_)
  refine S_takeV 2 3 rfl (by kernel_rfl) (by repeat (first | exact retQ_p | apply seqQ_p | apply blkQ_p | apply rndQ_p | apply cutQ_p)) ⟨Blk.drew ka5, Blk.drew kb5⟩ ?_
  (refine Qb ?_)
  have kod := Blk.drew ko5
  have lod := kod.lt
  refine S_any [3] 2 rfl (by kernel_rfl) (all1 ?_)
  have hSd := hP5.sq.below (Below.drew (Below.refl _ _))
  have hRd := hP5.ref.below (Below.drew (Below.refl _ _))
  have hsw := bw5.size
  have bwd : Below b0 w w5.drew := Below.drew bw5
  rw [hbe] at hsw
  (refine Ga ?_)
  apply rnQ_n
  refine ⟨⟨Blk.put_ne hAB (Blk.drew ka5), Blk.put_ne hBB (Blk.drew kb5)⟩, ?_⟩
  refine S_takeV 4 1 rfl (by kernel_rfl) (by repeat (first | exact retQ_p | apply seqQ_p | apply blkQ_p | apply rndQ_p | apply cutQ_p)) ⟨Blk.put_ne hAB (Blk.drew ka5), Blk.put_ne hBB (Blk.drew kb5)⟩ ?_
  (refine Qb ?_)
  refine S_any [5] 0 rfl (by kernel_rfl) (all1 ?_)
  (refine Ga ?_)
  apply rnQ_n
  refine ⟨⟨Blk.put_ne hAB (Blk.put_ne hAB (Blk.drew ka5)), Blk.put_ne hBB (Blk.put_ne hBB (Blk.drew kb5))⟩, ?_⟩
  refine S_done (by kernel_rfl) ?_
  apply seqQ_n
  refine W_abs (fun A => Blk A (b0 + 2) (ocs { o with fr := a, to := b }) 32 ∧ SqAt A p F t ∧ RefAt A q G t ∧ Below b0 w A) ⟨(by (repeat (first | assumption | (apply Blk.below (hb := hb1); rotate_left; (focus ((try simp only [Sx.sizes]); omega)); rotate_right) | (apply Blk.below (hb := hb2); rotate_left; (focus ((try simp only [Sx.sizes]); omega)); rotate_right) | (apply Blk.below (hb := hb3); rotate_left; (focus ((try simp only [Sx.sizes]); omega)); rotate_right) | (apply Blk.below (hb := hb4); rotate_left; (focus ((try simp only [Sx.sizes]); omega)); rotate_right) | (apply Blk.below (hb := hb5); rotate_left; (focus ((try simp only [Sx.sizes]); omega)); rotate_right) | (apply Blk.below (hb := hb6); rotate_left; (focus ((try simp only [Sx.sizes]); omega)); rotate_right) | (apply Blk.below (hb := hb7); rotate_left; (focus ((try simp only [Sx.sizes]); omega)); rotate_right) | (apply Blk.below (hb := hb8); rotate_left; (focus ((try simp only [Sx.sizes]); omega)); rotate_right) | (apply Blk.below (hb := hb9); rotate_left; (focus ((try simp only [Sx.sizes]); omega)); rotate_right) | exact Blk.newE (by first | rfl | ((try simp only [Sx.sizes]); first | done | omega)) _ _ | exact Blk.put_same (by (try simp only [Sx.sizes]); first | done | omega) _ _ | (apply Blk.put_ne; (focus omega)) | apply Blk.alloc | apply Blk.drew)); done), SqAt.putM (SqAt.putM hSd ho5 _) ho5 _, RefAt.put (RefAt.put hRd go5 _) go5 _, Sx.Below.put (Sx.Below.put bwd (by omega) _) (by omega) _⟩ ?_
  rintro A ⟨kA, hSA, hRA, bA⟩
  have lA := kA.lt
  have kA' := kA
  unfold ocs at kA
  (refine Ga ?_)
  (apply Lst_call; (focus rfl); (focus rfl))
  refine (c_Over { o with fr := a, to := b } (by omega) hSA).mono ?_
  rintro v B ⟨rfl, hSB, hTB⟩
  have kB := hTB.blk kA' ho5
  have hRB := hRA.kept hTB.size fun g hg => hTB.block g (hRA.lt hg) fun hf => hP5.apart g hf hg
  have bB := hTB.low (N := b0) (fun g hf => by have := hP5.lowF g hf; omega) (by have := bA.size; omega)
  have bwB := bA.trans bB.2
  have lB := kB.lt
  unfold ocs at kB
  (refine Ga ?_)
  (apply Lst_call; (focus rfl); (focus rfl))
  refine (r_Over { o with fr := a, to := b } (by omega) hRB).mono ?_
  rintro v C ⟨rfl, hbC⟩
  dsimp only
  obtain ⟨g1, hg1⟩ : ∃ g, gapV t a = g := ⟨_, rfl⟩
  obtain ⟨o1, ho1⟩ : ∃ g, overV t a b = g := ⟨_, rfl⟩
  rw [hg1, ho1]
  (refine Ga ?_)
  (apply retQ1; (focus rfl))
  exact ⟨rfl, bwB.trans (hbC.mono (by have := bwB.size; omega))⟩
end
end Mk
end Go.Proofs.Ytmgipnckojopcaa
