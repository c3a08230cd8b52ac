/- The laws' known of package ops. -/
import Derived.Test.YtifkedhbelflkaaDoorOqOpK
namespace Go.Proofs.YtifkedhbelflkaaDoor
set_option maxRecDepth 100000
namespace Op
open Go Go.RowKit Sx Tl Val
open Utf (rs tl Tabs cutS)
def tA : ByteArray := ⟨#[97]⟩
def tBC : ByteArray := ⟨#[98, 99]⟩
def tABC : ByteArray := ⟨#[97, 98, 99]⟩
def kO : Mo := tc (1, 5) (0, 0) (0, 0) tABC
def kC : Mo := tc (1, 6) (1, 5) (0, 0) tBC
def kA : Mo := tc (1, 5) (0, 0) (0, 0) tA
theorem k_rs : rs (tl tABC) = [97, 98, 99] := by kernel_rfl
theorem k_ok : OkT kO := by
  have e : rs (tl kO.tx) = [97, 98, 99] := k_rs
  exact ⟨rfl, rfl, rfl, rfl, by kernel_rfl, by rw [e]; decide, by rw [e]; decide, by rw [e]; decide, rfl, rfl, rfl, rfl, rfl, rfl, by rw [e]; decide, by rw [e]; decide⟩
theorem k_c : cutO kO 1 3 = kC := by
  have e : cutS tABC ((1 : Nat) : Int) ((3 : Nat) : Int) = tBC := by kernel_rfl
  unfold cutO
  rw [show kO.tx = tABC from rfl, e]
  rfl
theorem k_a : cutO kO 0 1 = kA := by
  have e : cutS tABC ((0 : Nat) : Int) ((1 : Nat) : Int) = tA := by kernel_rfl
  unfold cutO
  rw [show kO.tx = tABC from rfl, e]
  rfl
theorem k_two : Chain [kA, kC] ∧ runesS [kA, kC] = [97, 98, 99] ∧ chunks 3 kA [97, 98, 99] = [kO] := by
  have h := two_ok k_ok (at' := 1) (by decide) (by rw [show rs (tl kO.tx) = [97, 98, 99] from k_rs]; decide)
  rw [show rs (tl kO.tx) = [97, 98, 99] from k_rs] at h
  rw [k_a, show cutO kO 1 [(97 : Int), 98, 99].length = kC from k_c] at h
  exact h
theorem k_len : len kO = 3 := by unfold len; rw [if_pos (show kO.k = 1 from rfl), show rs (tl kO.tx) = [97, 98, 99] from k_rs]; rfl
theorem k_lenA : len kA = 1 := by unfold len; rw [if_pos (show kA.k = 1 from rfl), show rs (tl kA.tx) = [97] from by kernel_rfl]; rfl
theorem k_lenC : len kC = 2 := by unfold len; rw [if_pos (show kC.k = 1 from rfl), show rs (tl kC.tx) = [98, 99] from by kernel_rfl]; rfl
theorem k_dis : Dis (fid [kC, kA]) [kC, kA].length := fun p q hp hq e => by
  have hp : p = 0 ∨ p = 1 := by simp at hp; omega
  have hq : q = 0 ∨ q = 1 := by simp at hq; omega
  rcases hp with rfl | rfl <;> rcases hq with rfl | rfl
  · rfl
  · exact absurd e (by decide)
  · exact absurd e (by decide)
  · rfl
theorem two_row {w : World} {b : Nat} {o p : Mo} (h : Blk w b (ocs o ++ ocs p) 31) : SRows w 22 (.slice (some ⟨b, 0, none⟩) 2 2) ([o, p].map ocs) := by
  refine SRows.of_own (base := 0) (e := 31) (nn := 2) ⟨rfl, .inr ⟨b, 2, (ocs o ++ ocs p).toArray, rfl, Nat.zero_le _, h, Nat.le_refl _, by decide, rfl, rfl⟩⟩ (ocs_len [o, p]) (by decide)
section
attribute [local irreducible] RnS
attribute [local irreducible] W Lst Qst Pu seqQ blkQ rndQ cutQ retQ Does Enters IntKind.wrap bits sb World.alloc World.putObj Blk
set_option maxHeartbeats 4000000 in
theorem c_known8 (w : World) (hT : Tabs w) : Does Tryd.prog 4 #[] w fun v w' => v = .bool true ∧ Below w.heap.size w w' := by
  refine Does_of (args := []) Tryd.func4 (by kernel_rfl) rfl rfl rfl rfl rfl ?_
  have hsz : kO.tx.size ≤ 1000000 := by decide
  (refine Ga ?_)
  refine Lst_abs (fun A => Below w.heap.size w A ∧ Blk A w.heap.size (ocs kO) 31) ⟨Bel, (by (repeat (first | assumption | (apply Blk.below (hb := hb1); rotate_left; (focus ((try simp only [Sx.sizes]); omega)); rotate_right) | (apply Blk.below (hb := hb2); rotate_left; (focus ((try simp only [Sx.sizes]); omega)); rotate_right) | (apply Blk.below (hb := hb3); rotate_left; (focus ((try simp only [Sx.sizes]); omega)); rotate_right) | (apply Blk.below (hb := hb4); rotate_left; (focus ((try simp only [Sx.sizes]); omega)); rotate_right) | (apply Blk.below (hb := hb5); rotate_left; (focus ((try simp only [Sx.sizes]); omega)); rotate_right) | (apply Blk.below (hb := hb6); rotate_left; (focus ((try simp only [Sx.sizes]); omega)); rotate_right) | (apply Blk.below (hb := hb7); rotate_left; (focus ((try simp only [Sx.sizes]); omega)); rotate_right) | (apply Blk.below (hb := hb8); rotate_left; (focus ((try simp only [Sx.sizes]); omega)); rotate_right) | (apply Blk.below (hb := hb9); rotate_left; (focus ((try simp only [Sx.sizes]); omega)); rotate_right) | exact Blk.newE (by first | rfl | ((try simp only [Sx.sizes]); first | done | omega)) _ _ | exact Blk.put_same (by (try simp only [Sx.sizes]); first | done | omega) _ _ | (apply Blk.put_ne; (focus omega)) | apply Blk.alloc | apply Blk.drew)); done)⟩ ?_
  rintro A ⟨bA, k1⟩
  have sA := bA.size
  (apply Lst_call; (focus rfl); (focus rfl))
  refine (c_OCut kO (fun _ => k_ok) hsz 1 3 (by omega) A (hT.below bA)).mono ?_
  rintro v B ⟨rfl, hB⟩
  have e1 : cutR kO 1 3 (cleanV kO.v) = .tuple #[.agg (ocs kC).toArray, .bool true] := by
    unfold cutR
    rw [k_len, if_pos (by decide), if_pos (show kO.k = 1 from rfl)]
    rw [show cutO kO (1 : Int).toNat (3 : Int).toNat = kC from k_c]
  rw [e1]
  have bB := bA.trans (hB.mono sA)
  have k1B := k1.below hB k1.lt
  have sB := Nat.le_trans sA hB.size
  have l1B := k1B.lt
  have u1 := k1B
  unfold ocs kO tc tABC at u1
  dsimp only at u1
  unfold ocs kC tc tBC
  dsimp only
  (refine Ga ?_)
  refine Lst_abs (fun X => Below B.heap.size B X ∧ Blk X B.heap.size (ocs kC) 31) ⟨Bel, (by (repeat (first | assumption | (apply Blk.below (hb := hb1); rotate_left; (focus ((try simp only [Sx.sizes]); omega)); rotate_right) | (apply Blk.below (hb := hb2); rotate_left; (focus ((try simp only [Sx.sizes]); omega)); rotate_right) | (apply Blk.below (hb := hb3); rotate_left; (focus ((try simp only [Sx.sizes]); omega)); rotate_right) | (apply Blk.below (hb := hb4); rotate_left; (focus ((try simp only [Sx.sizes]); omega)); rotate_right) | (apply Blk.below (hb := hb5); rotate_left; (focus ((try simp only [Sx.sizes]); omega)); rotate_right) | (apply Blk.below (hb := hb6); rotate_left; (focus ((try simp only [Sx.sizes]); omega)); rotate_right) | (apply Blk.below (hb := hb7); rotate_left; (focus ((try simp only [Sx.sizes]); omega)); rotate_right) | (apply Blk.below (hb := hb8); rotate_left; (focus ((try simp only [Sx.sizes]); omega)); rotate_right) | (apply Blk.below (hb := hb9); rotate_left; (focus ((try simp only [Sx.sizes]); omega)); rotate_right) | exact Blk.newE (by first | rfl | ((try simp only [Sx.sizes]); first | done | omega)) _ _ | exact Blk.put_same (by (try simp only [Sx.sizes]); first | done | omega) _ _ | (apply Blk.put_ne; (focus omega)) | apply Blk.alloc | apply Blk.drew)); done)⟩ ?_
  rintro C ⟨hC, k2⟩
  have bC := bB.trans (hC.mono sB)
  have k1C := k1B.below hC l1B
  have sC := Nat.le_trans sB hC.size
  have l2 := k2.lt
  clear u1 k1B k1 hB bA
  obtain ⟨b2, hb2⟩ : ∃ b, B.heap.size = b := ⟨_, rfl⟩
  rw [hb2] at k2 l2 ⊢
  (apply Lst_call; (focus rfl); (focus rfl))
  refine (c_OCut kO (fun _ => k_ok) hsz 0 1 (by omega) C (hT.below bC)).mono ?_
  rintro v D ⟨rfl, hD⟩
  have e2 : cutR kO 0 1 (cleanV kO.v) = .tuple #[.agg (ocs kA).toArray, .bool true] := by
    unfold cutR
    rw [k_len, if_pos (by decide), if_pos (show kO.k = 1 from rfl)]
    rw [show cutO kO (0 : Int).toNat (1 : Int).toNat = kA from k_a]
  rw [e2]
  have bD := bC.trans (hD.mono sC)
  have k1D := k1C.below hD k1C.lt
  have k2D := k2.below hD l2
  have sD := Nat.le_trans sC hD.size
  have l2D := k2D.lt
  have l1D := k1D.lt
  unfold ocs kA tc tA
  dsimp only
  have u2 := k2D
  unfold ocs kC tc tBC at u2
  dsimp only at u2
  (refine Ga ?_)
  refine Lst_abs (fun X => Below D.heap.size D X ∧ Blk X D.heap.size (ocs kA) 31) ⟨Bel, (by (repeat (first | assumption | (apply Blk.below (hb := hb1); rotate_left; (focus ((try simp only [Sx.sizes]); omega)); rotate_right) | (apply Blk.below (hb := hb2); rotate_left; (focus ((try simp only [Sx.sizes]); omega)); rotate_right) | (apply Blk.below (hb := hb3); rotate_left; (focus ((try simp only [Sx.sizes]); omega)); rotate_right) | (apply Blk.below (hb := hb4); rotate_left; (focus ((try simp only [Sx.sizes]); omega)); rotate_right) | (apply Blk.below (hb := hb5); rotate_left; (focus ((try simp only [Sx.sizes]); omega)); rotate_right) | (apply Blk.below (hb := hb6); rotate_left; (focus ((try simp only [Sx.sizes]); omega)); rotate_right) | (apply Blk.below (hb := hb7); rotate_left; (focus ((try simp only [Sx.sizes]); omega)); rotate_right) | (apply Blk.below (hb := hb8); rotate_left; (focus ((try simp only [Sx.sizes]); omega)); rotate_right) | (apply Blk.below (hb := hb9); rotate_left; (focus ((try simp only [Sx.sizes]); omega)); rotate_right) | exact Blk.newE (by first | rfl | ((try simp only [Sx.sizes]); first | done | omega)) _ _ | exact Blk.put_same (by (try simp only [Sx.sizes]); first | done | omega) _ _ | (apply Blk.put_ne; (focus omega)) | apply Blk.alloc | apply Blk.drew)); done)⟩ ?_
  rintro E ⟨hE, k4⟩
  (apply Lst_slit; (focus rfl); (focus rfl); (focus rfl); (focus rfl); (focus rfl); (focus rfl); (focus rfl); (focus rfl); (focus rfl); (focus (repeat (first | apply FillO.nil | (apply FillO.cons; (focus constructor); (focus rfl); (focus rfl); (focus (repeat constructor)))))); (focus ((try simp only [Sx.sizes]); first | done | rfl)); (focus rfl))
  refine Lst_abs (fun X => Below E.heap.size E X ∧ Blk X E.heap.size (ocs kC ++ ocs kA) 31) ⟨Bel, (by (repeat (first | assumption | (apply Blk.below (hb := hb1); rotate_left; (focus ((try simp only [Sx.sizes]); omega)); rotate_right) | (apply Blk.below (hb := hb2); rotate_left; (focus ((try simp only [Sx.sizes]); omega)); rotate_right) | (apply Blk.below (hb := hb3); rotate_left; (focus ((try simp only [Sx.sizes]); omega)); rotate_right) | (apply Blk.below (hb := hb4); rotate_left; (focus ((try simp only [Sx.sizes]); omega)); rotate_right) | (apply Blk.below (hb := hb5); rotate_left; (focus ((try simp only [Sx.sizes]); omega)); rotate_right) | (apply Blk.below (hb := hb6); rotate_left; (focus ((try simp only [Sx.sizes]); omega)); rotate_right) | (apply Blk.below (hb := hb7); rotate_left; (focus ((try simp only [Sx.sizes]); omega)); rotate_right) | (apply Blk.below (hb := hb8); rotate_left; (focus ((try simp only [Sx.sizes]); omega)); rotate_right) | (apply Blk.below (hb := hb9); rotate_left; (focus ((try simp only [Sx.sizes]); omega)); rotate_right) | exact Blk.newE (by first | rfl | ((try simp only [Sx.sizes]); first | done | omega)) _ _ | exact Blk.put_same (by (try simp only [Sx.sizes]); first | done | omega) _ _ | (apply Blk.put_ne; (focus omega)) | apply Blk.alloc | apply Blk.drew)); done)⟩ ?_
  rintro G ⟨hG, kL⟩
  have bE := bD.trans (hE.mono sD)
  have bG := bE.trans (hG.mono bE.size)
  have sG := bG.size
  have k1G := (k1D.below hE l1D).below hG (Nat.lt_of_lt_of_le l1D hE.size)
  have k2G := (k2D.below hE l2D).below hG (Nat.lt_of_lt_of_le l2D hE.size)
  have k4G := k4.below hG k4.lt
  have l1G := k1G.lt
  have l2G := k2G.lt
  have l4G := k4G.lt
  clear u2 k1D k2D k4 k1C k2 hD hC hE
  obtain ⟨b4, hb4⟩ : ∃ b, D.heap.size = b := ⟨_, rfl⟩
  rw [hb4] at k4G l4G ⊢
  obtain ⟨hch, hrs, hcs⟩ := k_two
  (apply Lst_call; (focus rfl); (focus rfl))
  refine (c_Join [kC, kA] [kA, kC] (some ⟨E.heap.size, 0, none⟩) 2 (by decide) (by decide) rfl (fun o => by simp [or_comm]) k_dis hch (fun o ho => by simp at ho; rcases ho with rfl | rfl <;> decide) (of_decide_eq_true (by kernel_rfl)) (by rw [hrs]; decide) G (hT.below bG) (two_row kL)).mono ?_
  rintro v H ⟨hov, hH⟩
  have hov2 : OwnO G.heap.size H v [kO] := by
    rw [hrs] at hov
    change OwnO _ _ _ (chunks 3 kA [97, 98, 99]) at hov
    rw [hcs] at hov
    exact hov
  obtain ⟨va, vc, hv0, _⟩ := own_form hov2
  have hv0 : v = .slice va 1 vc := hv0
  subst hv0
  have bH := bG.trans (hH.mono sG)
  have sH := bH.size
  have k1H := k1G.below hH l1G
  have k2H := k2G.below hH l2G
  have k4H := k4G.below hH l4G
  have l1H := k1H.lt
  have l2H := k2H.lt
  have l4H := k4H.lt
  have u1 := k1H
  unfold ocs kO tc tABC at u1
  dsimp only at u1
  (refine Ga ?_)
  (apply Lst_call; (focus rfl); (focus rfl))
  refine (c_OCut kO (fun _ => k_ok) hsz 2 2 (by omega) H (hT.below bH)).mono ?_
  rintro v I ⟨rfl, hI⟩
  have e3 : cutR kO 2 2 (cleanV kO.v) = .tuple #[.agg (ocs oz).toArray, .bool false] := by
    unfold cutR
    rw [if_neg (by decide)]
  rw [e3]
  have bI := bH.trans (hI.mono sH)
  have sI := bI.size
  have k1I := k1H.below hI l1H
  have k2I := k2H.below hI l2H
  have k4I := k4H.below hI l4H
  have l1I := k1I.lt
  have l2I := k2I.lt
  have l4I := k4I.lt
  have hoI : OwnO G.heap.size I (.slice va 1 vc) [kO] := own_below hov2 hI (Nat.le_refl _)
  clear u1 k1H k2H k4H k1G k2G k4G hH hG
  have u1 := k1I
  unfold ocs kO tc tABC at u1
  dsimp only at u1
  have u2 := k2I
  unfold ocs kC tc tBC at u2
  dsimp only at u2
  have u4 := k4I
  unfold ocs kA tc tA at u4
  dsimp only at u4
  unfold ocs oz
  dsimp only
  (refine Ga ?_)
  refine Lst_abs (fun X => Below I.heap.size I X) Bel ?_
  rintro X0 hX0
  have bX0 := bI.trans (hX0.mono sI)
  have sX0 := bX0.size
  have k1X0 := k1I.below hX0 l1I
  have k2X0 := k2I.below hX0 l2I
  have k4X0 := k4I.below hX0 l4I
  have l1X0 := k1X0.lt
  have l2X0 := k2X0.lt
  have l4X0 := k4X0.lt
  have hoX0 : OwnO G.heap.size X0 (.slice va 1 vc) [kO] := own_below hoI hX0 (Nat.le_refl _)
  (apply Lst_call; (focus rfl); (focus rfl))
  refine (c_OCheck kO k_ok hsz X0 (hT.below bX0)).mono ?_
  rintro v X1 ⟨rfl, hX1⟩
  have bX1 := bX0.trans (hX1.mono sX0)
  have sX1 := bX1.size
  have k1X1 := k1X0.below hX1 l1X0
  have k2X1 := k2X0.below hX1 l2X0
  have k4X1 := k4X0.below hX1 l4X0
  have l1X1 := k1X1.lt
  have l2X1 := k2X1.lt
  have l4X1 := k4X1.lt
  have hoX1 : OwnO G.heap.size X1 (.slice va 1 vc) [kO] := own_below hoX0 hX1 (Nat.le_refl _)
  clear u1 u2 u4
  have u1 := k1X1
  unfold ocs kO tc tABC at u1
  dsimp only at u1
  have u2 := k2X1
  unfold ocs kC tc tBC at u2
  dsimp only at u2
  have u4 := k4X1
  unfold ocs kA tc tA at u4
  dsimp only at u4
  clear k1X0 k2X0 k4X0 hX1 hoX0 l1X0 l2X0 l4X0
  obtain ⟨g, off, rfl, _, hc⟩ := hoX1.rows.at (i := 0) (by simp)
  have hctx : X1.cell? ⟨g, off + 0 * 22 + 8, none⟩ = some (.string tABC) := hc 8 _ rfl
  unfold tABC at hctx
  (refine Ga ?_)
  apply Lst_pu
  · apply P_idxm (j := 0) (sz := 22)
    focus rfl
    focus rfl
    focus rfl
    focus rfl
    focus rfl
    focus omega
  focus rfl
  (refine Ga ?_)
  (apply Lst_call; (focus rfl); (focus rfl))
  refine (c_Len kO hsz X1 (hT.below bX1)).mono ?_
  rintro v X2 ⟨rfl, hX2⟩
  have bX2 := bX1.trans (hX2.mono sX1)
  have sX2 := bX2.size
  have k1X2 := k1X1.below hX2 l1X1
  have k2X2 := k2X1.below hX2 l2X1
  have k4X2 := k4X1.below hX2 l4X1
  have l1X2 := k1X2.lt
  have l2X2 := k2X2.lt
  have l4X2 := k4X2.lt
  have hoX2 : OwnO G.heap.size X2 (.slice (some ⟨g, off, none⟩) 1 vc) [kO] := own_below hoX1 hX2 (Nat.le_refl _)
  clear u1 u2 u4
  have u1 := k1X2
  unfold ocs kO tc tABC at u1
  dsimp only at u1
  have u2 := k2X2
  unfold ocs kC tc tBC at u2
  dsimp only at u2
  have u4 := k4X2
  unfold ocs kA tc tA at u4
  dsimp only at u4
  clear k1X1 k2X1 k4X1 hX2 hoX1 l1X1 l2X1 l4X1
  rw [k_len]
  (refine Ga ?_)
  (apply Lst_call; (focus rfl); (focus rfl))
  refine (c_OCheck0 X2).mono ?_
  rintro v X3 ⟨rfl, hX3⟩
  have bX3 := bX2.trans (hX3.mono sX2)
  have sX3 := bX3.size
  have k1X3 := k1X2.below hX3 l1X2
  have k2X3 := k2X2.below hX3 l2X2
  have k4X3 := k4X2.below hX3 l4X2
  have l1X3 := k1X3.lt
  have l2X3 := k2X3.lt
  have l4X3 := k4X3.lt
  have hoX3 : OwnO G.heap.size X3 (.slice (some ⟨g, off, none⟩) 1 vc) [kO] := own_below hoX2 hX3 (Nat.le_refl _)
  clear u1 u2 u4
  have u1 := k1X3
  unfold ocs kO tc tABC at u1
  dsimp only at u1
  have u2 := k2X3
  unfold ocs kC tc tBC at u2
  dsimp only at u2
  have u4 := k4X3
  unfold ocs kA tc tA at u4
  dsimp only at u4
  clear k1X2 k2X2 k4X2 hX3 hoX2 l1X2 l2X2 l4X2
  (refine Ga ?_)
  (apply Lst_call; (focus rfl); (focus rfl))
  refine (c_Fits kA kC (by decide) (by decide) (by decide) (by rw [k_lenA]; decide) X3 (hT.below bX3)).mono ?_
  rintro v X4 ⟨rfl, hX4⟩
  have bX4 := bX3.trans (hX4.mono sX3)
  have sX4 := bX4.size
  have k1X4 := k1X3.below hX4 l1X3
  have k2X4 := k2X3.below hX4 l2X3
  have k4X4 := k4X3.below hX4 l4X3
  have l1X4 := k1X4.lt
  have l2X4 := k2X4.lt
  have l4X4 := k4X4.lt
  have hoX4 : OwnO G.heap.size X4 (.slice (some ⟨g, off, none⟩) 1 vc) [kO] := own_below hoX3 hX4 (Nat.le_refl _)
  clear u1 u2 u4
  have u1 := k1X4
  unfold ocs kO tc tABC at u1
  dsimp only at u1
  have u2 := k2X4
  unfold ocs kC tc tBC at u2
  dsimp only at u2
  have u4 := k4X4
  unfold ocs kA tc tA at u4
  dsimp only at u4
  clear k1X3 k2X3 k4X3 hX4 hoX3 l1X3 l2X3 l4X3
  rw [show folO kA kC = true from hch.fol 0 (by decide), k_lenA, k_lenC]
  (refine Ga ?_)
  (apply Lst_call; (focus rfl); (focus rfl))
  refine (c_Fits kC kA (by decide) (by decide) (by decide) (by rw [k_lenC]; decide) X4 (hT.below bX4)).mono ?_
  rintro v X5 ⟨rfl, hX5⟩
  have bX5 := bX4.trans (hX5.mono sX4)
  have sX5 := bX5.size
  have k1X5 := k1X4.below hX5 l1X4
  have k2X5 := k2X4.below hX5 l2X4
  have k4X5 := k4X4.below hX5 l4X4
  have l1X5 := k1X5.lt
  have l2X5 := k2X5.lt
  have l4X5 := k4X5.lt
  have hoX5 : OwnO G.heap.size X5 (.slice (some ⟨g, off, none⟩) 1 vc) [kO] := own_below hoX4 hX5 (Nat.le_refl _)
  clear u1 u2 u4
  have u1 := k1X5
  unfold ocs kO tc tABC at u1
  dsimp only at u1
  have u2 := k2X5
  unfold ocs kC tc tBC at u2
  dsimp only at u2
  have u4 := k4X5
  unfold ocs kA tc tA at u4
  dsimp only at u4
  clear k1X4 k2X4 k4X4 hX5 hoX4 l1X4 l2X4 l4X4
  have hf2 : folO kC kA = false := by
    unfold folO
    rw [k_lenC]
    decide
  rw [hf2, Bool.false_and]
  (refine Ga ?_)
  (apply Lst_call; (focus rfl); (focus rfl))
  refine (c_Range kO hsz (by rw [k_len]; decide) X5 (hT.below bX5)).mono ?_
  rintro v X6 ⟨rfl, hX6⟩
  have bX6 := bX5.trans (hX6.mono sX5)
  have sX6 := bX6.size
  have k1X6 := k1X5.below hX6 l1X5
  have k2X6 := k2X5.below hX6 l2X5
  have k4X6 := k4X5.below hX6 l4X5
  have l1X6 := k1X6.lt
  have l2X6 := k2X6.lt
  have l4X6 := k4X6.lt
  have hoX6 : OwnO G.heap.size X6 (.slice (some ⟨g, off, none⟩) 1 vc) [kO] := own_below hoX5 hX6 (Nat.le_refl _)
  clear u1 u2 u4
  have u1 := k1X6
  unfold ocs kO tc tABC at u1
  dsimp only at u1
  have u2 := k2X6
  unfold ocs kC tc tBC at u2
  dsimp only at u2
  have u4 := k4X6
  unfold ocs kA tc tA at u4
  dsimp only at u4
  clear k1X5 k2X5 k4X5 hX6 hoX5 l1X5 l2X5 l4X5
  have hrg : rngO kO = (1, 5, 8) := by
    unfold rngO
    rw [k_len]
    rfl
  rw [hrg]
  unfold rcs
  dsimp only
  (refine Ga ?_)
  (apply retQ1; (focus rfl))
  exact ⟨rfl, bX6⟩
end
end Op
end Go.Proofs.YtifkedhbelflkaaDoor
