/- quirelaw5: a world begins. -/
import Derived.Test.YtfocnbmihcnaoaaGreatDoorWaX
namespace Go.Proofs.YtfocnbmihcnaoaaGreatDoor
set_option maxRecDepth 100000
namespace Wa
open Go Go.RowKit Sx Wire Dk
def logN : List UInt8 := [108, 111, 103]
theorem nice_log : Nice logN := ⟨by decide, by decide⟩
theorem fresh_sg (d : Dsk) (h : d.es = []) {m : List UInt8} : Sg d m 0 0 [] 0 := ⟨.nil, fun n _ _ => by rw [h]; rfl, fun _ => rfl⟩
theorem fresh_gd (d : Dsk) (hf : Free d) (h : d.es = []) : Gd d 0 0 := by
  refine ⟨⟨by have := hf.cut; omega, by rw [h]; exact Nat.le_refl _, by rw [h]; exact Nat.le_refl _, fun p hp => ?_⟩, hf.nodup, fun n hn => ?_⟩
  · rw [h] at hp
    exact absurd hp List.not_mem_nil
  · rw [h] at hn
    exact absurd hn List.not_mem_nil
/-- A world's cells. -/
def wcs (p : Nat) (l : Option Addr) (seg : Int) (a : Value) : List Value := [.pointer (some ⟨p, 0, none⟩), .pointer l, .int .i64 seg, a, .int .i64 0, .slice none 0 0, .bool false, .bool false, .bool true]
theorem n8_cells {w : World} {b : Nat} {cs : List Value} {e : TypeId} (h : Blk w b cs e) (hc : ∀ u ∈ cs, ∀ z, u ≠ .int .u8 z) : Dk.N8 w b := fun off z hz => by
  rw [h.cell] at hz
  exact hc _ (List.mem_of_getElem? hz) z rfl
theorem LogM.chg {W0 w w' : World} {lb p mb : Nat} {fv dv : Value} {g : Lg} {d : Dsk} {bs : List Nat} (h : LogM W0 w lb p mb fv dv g d) (hc : Chg bs w w') (hb : ∀ b ∈ bs, b ∉ foot lb p mb fv dv) (h8 : ∀ b ∈ bs, Dk.N8 w b) (hl : ∀ b ∈ bs, W0.heap.size ≤ b) : LogM W0 w' lb p mb fv dv g d :=
  ⟨h.base.chg hc hl, h.log.chg hc (fun e => hb _ e (foot_mem.2 (.inl rfl))) (fun _ hk e => hb _ e (foot_mem.2 (.inr (.inr (.inr hk))))), h.dk.chg hc (fun e => hb _ e (foot_mem.2 (.inr (.inl rfl)))) (fun e => hb _ e (foot_mem.2 (.inr (.inr (.inl rfl))))) h8, h.low⟩
theorem Lv.chg {W0 w w' : World} {lb p mb : Nat} {fv dv : Value} {g : Lg} {d : Dsk} {k : Nat} {L : List (List UInt8)} {u c : Nat} {bs : List Nat} (h : Lv W0 w lb p mb fv dv g d k L u c) (hc : Chg bs w w') (hb : ∀ b ∈ bs, b ∉ foot lb p mb fv dv) (h8 : ∀ b ∈ bs, Dk.N8 w b) (hl : ∀ b ∈ bs, W0.heap.size ≤ b) : Lv W0 w' lb p mb fv dv g d k L u c := ⟨h.mem.chg hc hb h8 hl, h.ok, h.free, h.gd⟩
section
attribute [local irreducible] RnS RnT
attribute [local irreducible] W Lst Qst Pu seqQ blkQ rndQ cutQ retQ Does Enters IntKind.wrap bits sb World.alloc World.putObj Blk
theorem c_wopen (wb p mb : Nat) (seg : Int) (d : Dsk) (hf : Free d) (hdr : d.es = []) (W0 w : World) (hE : Base W0 w) (hp : W0.heap.size ≤ p) (hmb : W0.heap.size ≤ mb) (hne : ¬ wb = p ∧ ¬ wb = mb) (hw : W0.heap.size ≤ wb) (hd : DkAt w p mb d) (hb : Blk w wb (wcs p none seg (.slice none 0 0)) 46) :
    Does Tryz.prog 36 #[.pointer (some ⟨wb, 0, none⟩)] w fun v w' => v = .tuple #[] ∧ ∃ lb fv ov g' d', Blk w' wb (wcs p (some ⟨lb, 0, none⟩) seg ov) 46 ∧ Lv W0 w' lb p mb fv (.slice none 0 0) g' d' 0 [] 0 0 ∧ g'.name = logN ∧ g'.age = 0 ∧ g'.dirty = [] ∧ g'.seg = max seg 64 ∧ d'.room = d.room ∧ used d'.es = 0 ∧ wb ∉ foot lb p mb fv (.slice none 0 0) := by
  refine Does_of (args := [.pointer (some ⟨wb, 0, none⟩)]) Tryz.func36 (by kernel_rfl) rfl rfl rfl rfl rfl ?_
  unfold wcs at hb
  have hlt := hb.lt
  have hsz := hE.low.size
  (refine Ga ?_)
  refine W_calm ?_
  refine W_drawS 16 (fun A => A.cell? ⟨wb, 0, none⟩ = some (.pointer (some ⟨p, 0, none⟩)) ∧ A.cell? ⟨wb, 2, none⟩ = some (.int .i64 seg)) rfl rfl ?_
  have hS : w.drew.cell? ⟨wb, 0, none⟩ = some (.pointer (some ⟨p, 0, none⟩)) ∧ w.drew.cell? ⟨wb, 2, none⟩ = some (.int .i64 seg) := ⟨hb.cell 0, hb.cell 2⟩
  refine S_takeV 0 15 rfl (by kernel_rfl) calm_no hS ?_
  (refine Qb ?_)
  refine S_takeV 1 14 rfl (by kernel_rfl) calm_no hS ?_
  (refine Qb ?_)
  refine S_takeV 2 13 rfl (by kernel_rfl) calm_no hS ?_
  (refine Qb ?_)
  refine S_takeV 3 12 rfl (by kernel_rfl) calm_no hS ?_
  apply Qst_loadc
  focus rfl
  focus rfl
  focus rfl
  focus exact fun A9 hA9 => hA9.1
  focus rfl
  (refine Qb ?_)
  refine S_takeV 4 11 rfl (by kernel_rfl) calm_no hS ?_
  (refine Qb ?_)
  refine S_takeV 5 10 rfl (by kernel_rfl) calm_no hS ?_
  (refine Qb ?_)
  refine S_takeV 6 9 rfl (by kernel_rfl) calm_no hS ?_
  (refine Qb ?_)
  refine S_takeV 7 8 rfl (by kernel_rfl) calm_no hS ?_
  apply Qst_loadc
  focus rfl
  focus rfl
  focus rfl
  focus exact fun A9 hA9 => hA9.2
  focus rfl
  (refine Qb ?_)
  refine S_any [8] 7 rfl (by kernel_rfl) (all1 ?_)
  (apply Lst_call; (focus rfl); (focus rfl))
  refine (s_Open seg (fresh_sg d hdr) (by omega) (by simp) nice_log hf (fresh_gd d hf hdr) (by omega) (by omega) W0 _ (hE.below Bel) hp hmb (hd.below Bel)).mono ?_
  rintro v w1 ⟨lb, fv, ov, g', d', rfl, hlv, hn1, hn2, hn3, hsg, hrm, huse, hoth, hob, hch, hlb, hfv⟩
  have hlb : w.heap.size ≤ lb := hlb
  have hfv : ∀ j, fv.ownBlock = some j → w.heap.size ≤ j := hfv
  have hbs : BsS w1 ov [] := hob.reads
  obtain ⟨oa, oc, rfl⟩ : ∃ oa oc, ov = .slice oa 0 oc := by
    obtain ⟨a, c, e, _⟩ := hob.form
    exact ⟨a, c, e⟩
  have hch : Chg [p, mb] w w1 := (Chg.of Bel).trans hch
  have hB1 : Blk w1 wb [.pointer (some ⟨p, 0, none⟩), .pointer none, .int .i64 seg, .slice none 0 0, .int .i64 0, .slice none 0 0, .bool false, .bool false, .bool true] 46 := hch.blk hb (by simp only [List.mem_cons, List.not_mem_nil, or_false, not_or]; exact hne)
  have hS2 : w1.cell? ⟨wb, 0, none⟩ = some (.pointer (some ⟨p, 0, none⟩)) ∧ w1.cell? ⟨wb, 2, none⟩ = some (.int .i64 seg) := ⟨hB1.cell 0, hB1.cell 2⟩
  try apply Lst_nil
  apply rnQ_n
  refine ⟨hS2, ?_⟩
  clear hS
  have hS := hS2
  clear hS2
  refine S_takeV 9 6 rfl (by kernel_rfl) calm_no hS ?_
  (refine Qb ?_)
  refine S_takeV 10 5 rfl (by kernel_rfl) calm_no hS ?_
  (refine Qb ?_)
  refine S_takeV 11 4 rfl (by kernel_rfl) calm_no hS ?_
  (refine Qb ?_)
  refine S_takeV 12 3 rfl (by kernel_rfl) calm_no hS ?_
  (refine Qb ?_)
  refine S_takeV 13 2 rfl (by kernel_rfl) calm_no hS ?_
  (refine Qb ?_)
  refine S_takeV 14 1 rfl (by kernel_rfl) calm_no hS ?_
  (refine Qb ?_)
  refine S_takeV 15 0 rfl (by kernel_rfl) calm_no hS ?_
  (refine Qb ?_)
  refine S_done (by kernel_rfl) ?_
  refine calm_n ?_
  (refine Ga ?_)
  have hlw : wb < w1.heap.size := hB1.lt
  have hnl : BsS w1 (sliced none 0 (((0 : Nat) : Int)).toNat 0 1) [] := ⟨none, 0, by unfold sliced; split <;> rfl, fun j h => absurd h (Nat.not_lt_zero _)⟩
  (apply Lst_call; (focus rfl); (focus rfl))
  refine (c_same _ _ [] [] (by simp) w1 hbs hnl).mono ?_
  rintro v w2 ⟨rfl, hb2⟩
  have hB2 := hB1.below hb2 hB1.lt
  have hlv2 := hlv.below hb2
  have hlt2 := hB2.lt
  rw [decide_eq_true rfl]
  (refine Ga ?_)
  (apply Lst_call; (focus rfl); (focus rfl))
  refine (c_Records lb p fv _ g' w2 hlv2.mem.log).mono ?_
  rintro v w3 ⟨rfl, rfl⟩
  have hrec : g'.recs = 0 := hlv2.ok.recs
  rw [hrec]
  have hwf : wb ∉ foot lb p mb fv (.slice none 0 0) := fun h9 => by
    rcases foot_mem.1 h9 with e | e | e | e
    · omega
    · exact hne.1 e
    · exact hne.2 e
    · unfold rowsOf at e
      rcases List.mem_append.1 e with e | e
      · have := hfv wb (by simpa using e)
        omega
      · cases e
  have hus : used d'.es = 0 := by
    have : used d.es = 0 := by rw [hdr]; rfl
    omega
  have fin : ∀ w', Chg [wb] w2 w' → Blk w' wb [.pointer (some ⟨p, 0, none⟩), .pointer (some ⟨lb, 0, none⟩), .int .i64 seg, .slice oa 0 oc, .int .i64 0, .slice none 0 0, .bool false, .bool false, .bool true] 46 → Blk w' wb (wcs p (some ⟨lb, 0, none⟩) seg (.slice oa 0 oc)) 46 ∧ Lv W0 w' lb p mb fv (.slice none 0 0) g' d' 0 [] 0 0 ∧ g'.name = logN ∧ g'.age = 0 ∧ g'.dirty = [] ∧ g'.seg = max seg 64 ∧ d'.room = d.room ∧ used d'.es = 0 ∧ wb ∉ foot lb p mb fv (.slice none 0 0) := fun w' h1 h2 =>
    ⟨h2, hlv2.chg h1 (fun b hb9 => by rw [List.mem_singleton.1 hb9]; exact hwf) (fun b hb9 => by rw [List.mem_singleton.1 hb9]; exact n8_cells hB2 (by simp)) (fun b hb9 => by rw [List.mem_singleton.1 hb9]; exact hw), hn1, hn2, hn3, hsg, hrm, hus, hwf⟩
  (refine Ga ?_)
  apply retQ0n
  exact ⟨rfl, lb, fv, _, g', d', fin _ ((((((Chg.refl _ _).put (by simp) _).put (by simp) _).put (by simp) _).put (by simp) _).put (by simp) _) (by (repeat (first | assumption | (apply Blk.below (hb := hb1); rotate_left; (focus ((try simp only [Sx.sizes]); omega)); rotate_right) | (apply Blk.below (hb := hb2); rotate_left; (focus ((try simp only [Sx.sizes]); omega)); rotate_right) | (apply Blk.below (hb := hb3); rotate_left; (focus ((try simp only [Sx.sizes]); omega)); rotate_right) | (apply Blk.below (hb := hb4); rotate_left; (focus ((try simp only [Sx.sizes]); omega)); rotate_right) | (apply Blk.below (hb := hb5); rotate_left; (focus ((try simp only [Sx.sizes]); omega)); rotate_right) | (apply Blk.below (hb := hb6); rotate_left; (focus ((try simp only [Sx.sizes]); omega)); rotate_right) | (apply Blk.below (hb := hb7); rotate_left; (focus ((try simp only [Sx.sizes]); omega)); rotate_right) | (apply Blk.below (hb := hb8); rotate_left; (focus ((try simp only [Sx.sizes]); omega)); rotate_right) | (apply Blk.below (hb := hb9); rotate_left; (focus ((try simp only [Sx.sizes]); omega)); rotate_right) | exact Blk.newE (by first | rfl | ((try simp only [Sx.sizes]); first | done | omega)) _ _ | exact Blk.put_same (by (try simp only [Sx.sizes]); first | done | omega) _ _ | (apply Blk.put_ne; (focus omega)) | apply Blk.alloc | apply Blk.drew)); done)⟩
theorem c_begun (seg : Int) (W0 w : World) (hE : Base W0 w) :
    Does Tryz.prog 19 #[.int .i64 seg] w fun v w' => ∃ wb lb p mb fv ov g' d', v = .pointer (some ⟨wb, 0, none⟩) ∧ Blk w' wb (wcs p (some ⟨lb, 0, none⟩) seg ov) 46 ∧ Lv W0 w' lb p mb fv (.slice none 0 0) g' d' 0 [] 0 0 ∧ g'.name = logN ∧ g'.age = 0 ∧ g'.dirty = [] ∧ g'.seg = max seg 64 ∧ d'.room = 1048576 ∧ used d'.es = 0 ∧ wb ∉ foot lb p mb fv (.slice none 0 0) ∧ W0.heap.size ≤ wb := by
  refine Does_of (args := [.int .i64 seg]) Tryz.func19 (by kernel_rfl) rfl rfl rfl rfl rfl ?_
  have hsz := hE.low.size
  (refine Ga ?_)
  (apply Lst_call; (focus rfl); (focus rfl))
  refine (c_New 1048576 _).mono ?_
  rintro v w1 ⟨p, mb, rfl, hp, hmb, hd, hb1⟩
  have hs1 := hb1.size
  have hpl := hd.1.lt
  have hml := hd.2.lt
  (refine Ga ?_)
  (apply Lst_call; (focus rfl); (focus rfl))
  refine (c_wopen w1.heap.size p mb seg ⟨[], max 1048576 0, -1, false⟩ ⟨rfl, by show (-1 : Int) ≤ 0; decide, List.nodup_nil⟩ rfl W0 _ (hE.below (hb1.trans Bel)) (by omega) (by omega) ⟨by omega, by omega⟩ (by omega) (hd.below Bel) (by (repeat (first | assumption | (apply Blk.below (hb := hb1); rotate_left; (focus ((try simp only [Sx.sizes]); omega)); rotate_right) | (apply Blk.below (hb := hb2); rotate_left; (focus ((try simp only [Sx.sizes]); omega)); rotate_right) | (apply Blk.below (hb := hb3); rotate_left; (focus ((try simp only [Sx.sizes]); omega)); rotate_right) | (apply Blk.below (hb := hb4); rotate_left; (focus ((try simp only [Sx.sizes]); omega)); rotate_right) | (apply Blk.below (hb := hb5); rotate_left; (focus ((try simp only [Sx.sizes]); omega)); rotate_right) | (apply Blk.below (hb := hb6); rotate_left; (focus ((try simp only [Sx.sizes]); omega)); rotate_right) | (apply Blk.below (hb := hb7); rotate_left; (focus ((try simp only [Sx.sizes]); omega)); rotate_right) | (apply Blk.below (hb := hb8); rotate_left; (focus ((try simp only [Sx.sizes]); omega)); rotate_right) | (apply Blk.below (hb := hb9); rotate_left; (focus ((try simp only [Sx.sizes]); omega)); rotate_right) | exact Blk.newE (by first | rfl | ((try simp only [Sx.sizes]); first | done | omega)) _ _ | exact Blk.put_same (by (try simp only [Sx.sizes]); first | done | omega) _ _ | (apply Blk.put_ne; (focus omega)) | apply Blk.alloc | apply Blk.drew)); done)).mono ?_
  rintro v w2 ⟨rfl, lb, fv, ov, g', d', k1, k2, k3, k4, k5, k6, k7, k8, k9⟩
  (refine Ga ?_)
  (apply retQ1; (focus rfl))
  exact ⟨_, lb, p, mb, fv, ov, g', d', rfl, k1, k2, k3, k4, k5, k6, k7, k8, k9, by omega⟩
end
end Wa
end Go.Proofs.YtfocnbmihcnaoaaGreatDoor
