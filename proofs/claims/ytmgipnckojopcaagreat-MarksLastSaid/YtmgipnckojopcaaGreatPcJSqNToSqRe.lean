/- Merged: SqN, SqO, SqB, SqRa, SqRb, SqRc, SqRd, SqRe. -/
import Derived.Test.YtmgipnckojopcaaGreatPcJSqVToSqT
import Derived.Test.YtmgipnckojopcaaGreatPcJSxRToSxF
import Derived.Test.YtmgipnckojopcaaGreatPcJPlaceToSqW
import Derived.Laws.OwnMore
import Derived.Test.YtmgipnckojopcaaGreatPcJSxEToSxMapG
namespace Go.Proofs.YtmgipnckojopcaaGreat
set_option maxRecDepth 100000
namespace Sq
open Go Go.RowKit Sx Tl
def freeTo (t : Fo) (u : Un) (n : Nat) : Bool := (List.range n).all fun i => !decide ((u.id.1, u.id.2 + i) ∈ t.ids)
def runOk (t : Fo) (u : Un) (n : Int) : Bool := decide (1 ≤ n) && (Fo.rightId u.id && (decide (n ≤ 9007199254740991 - (u.id.2 : Int) + 1) && (Fo.may t u && freeTo t u n.toNat)))
def runR (t : Fo) (u : Un) (n : Int) : Fo := if runOk t u n then runT (Fo.put t u) u (n.toNat - 1) else t
theorem free_iff {t : Fo} {u : Un} {n : Nat} : freeTo t u n = true ↔ ∀ i, i < n → (u.id.1, u.id.2 + i) ∉ t.ids := by
  unfold freeTo
  rw [List.all_eq_true]
  simp only [List.mem_range, Bool.not_eq_true', decide_eq_false_iff_not]
def ownB (u : Un) (n : Nat) (k : Id) : Bool := k.1 == u.id.1 && decide (u.id.2 < k.2) && decide (k.2 < u.id.2 + n)
theorem fits_uniq {ρ σ : Id → Rec} : ∀ {t : Fo} {p : Option Id}, Fo.Fits ρ p t → Fo.Fits σ p t → ∀ j ∈ t.ids, ρ j = σ j
  | .nil, _, _, _, j, h => by cases h
  | .nd v l r s, p, hF, hG, j, h => by
    rw [Fo.ids_nd] at h
    simp only [List.mem_append, List.mem_cons] at h
    rcases h with (h | rfl | h) | h
    · exact fits_uniq hF.2.1 hG.2.1 j h
    · exact hF.1.trans hG.1.symm
    · exact fits_uniq hF.2.2.1 hG.2.2.1 j h
    · exact fits_uniq hF.2.2.2 hG.2.2.2 j h
theorem put_leaf {ρ σ : Id → Rec} {t : Fo} {u : Un} (hg : Fo.Good t) (hF : Fo.Fits ρ none t) (hm : Fo.Can t u) (hS : Fo.Fits σ none (Fo.put t u)) : (σ u.id).L = [] ∧ (σ u.id).R = [] := by
  obtain ⟨rc, c, V, P, hP⟩ := puts hg hF hm
  have h1 := fits_uniq hS hP.fits u.id ((Fo.put_ids hg.nd _).2 (.inl rfl))
  have hW := hP.hW
  have hl : V.left = true → ∃ p, V.par = some p := fun e => by
    rw [e, if_pos rfl] at hW
    exact ⟨_, hW.2⟩
  have hp : ∀ p, V.par = some p → u.id ≠ p := fun p e he => by
    have : p ∈ t.ids := by
      cases e' : V.left with
      | true =>
        rw [e', if_pos rfl] at hW
        rw [hW.2] at e
        cases e
        exact hW.1.r
      | false =>
        rw [e', if_neg (by simp)] at hW
        rw [hW.2] at e
        unfold parOf at e
        split at e
        · cases e
          assumption
        · cases e
    exact hm.new (he ▸ this)
  rw [h1]
  have h2 := laid_new (ρ := ρ) (rt := t.tips) (u := u) (V := V) hl hp
  unfold bump
  rw [h2]
  exact ⟨rfl, rfl⟩
theorem Turn.blk {F F' : Nat → Prop} {w w' : World} {b : Nat} {l : List Value} {e : TypeId} (h : Turn F F' w w') (hb : Blk w b l e) (hf : ¬ F b) : Blk w' b l e := (h.block b hb.lt hf).trans hb
theorem own_no {t : Fo} {u : Un} {m : Nat} {k : Id} (hf : freeTo t u m = true) (hk : k = Fo.none' ∨ k ∈ t.ids) : ownB u m k = false := by
  cases e : ownB u m k with
  | false => rfl
  | true =>
    exfalso
    unfold ownB at e
    simp only [Bool.and_eq_true, beq_iff_eq, decide_eq_true_eq] at e
    obtain ⟨⟨e1, e2⟩, e3⟩ := e
    rcases hk with rfl | hk
    · have h1 : (Fo.none').2 = 0 := rfl
      omega
    · have h2 := free_iff.1 hf (k.2 - u.id.2) (by omega)
      refine h2 ?_
      have : (u.id.1, u.id.2 + (k.2 - u.id.2)) = k := Prod.ext e1.symm (by show u.id.2 + (k.2 - u.id.2) = k.2; omega)
      rw [this]
      exact hk
attribute [local irreducible] W Lst Qst Pu seqQ blkQ rndQ cutQ retQ Does Enters IntKind.wrap bits sb World.alloc World.putObj Blk
theorem s_may (u : Un) (p : Nat) (F : Nat → Prop) (t : Fo) (w : World) (hs : t.sz ≤ 1000000000) (h : SqAt w p F t) :
    Does Tryz.prog 36 #[.pointer (some ⟨p, 0, none⟩), .agg (ucs u).toArray] w fun v w' => v = .bool (Fo.may t u) ∧ SqAt w' p F t ∧ Turn F F w w' := by
  obtain ⟨E, ρ, rfl, hF, hfar, hc, hft, hg⟩ := h
  refine (c_may u hfar (fun _ => Iff.rfl) (fun j hj => ⟨hj, fits_u hft j hj⟩) hg.nd (by rw [Fo.ids_len]; exact hs) hc).mono ?_
  rintro v w' ⟨rfl, h2, hk⟩
  exact ⟨by rw [mayV_eq], ⟨E, ρ, rfl, hF, fun g hg => hfar g (Nat.le_trans hk.size hg), h2, hft, hg⟩, .kept hF hk fun t ht => by rcases ht with rfl | rfl <;> simp⟩
theorem s_put (u : Un) (p : Nat) (F : Nat → Prop) (t : Fo) (w : World) (hs : t.sz ≤ 1000000000 - 1) (hM : Fo.Can t u) (h : SqAt w p F t) :
    Does Tryz.prog 38 #[.pointer (some ⟨p, 0, none⟩), .agg (ucs u).toArray] w fun v w' => v = .tuple #[] ∧ ∃ F', SqAt w' p F' (Fo.put t u) ∧ Turn F F' w w' := by
  obtain ⟨E, ρ, rfl, hF, hfar, hc, hft, hg⟩ := h
  obtain ⟨rc, c, V, P, hP⟩ := puts hg hft hM
  refine (c_put u rc c V P hfar (fits_clo hg.nd hft) (fits_sizes hg.nd hft hs) (fits_selfs hg.nd hft) hM.new (fun _ => Iff.rfl) (fun j hj => ⟨hj, fits_u hft j hj⟩) hg.nd (by rw [Fo.ids_len]; exact hs) hc hP.hrc hP.hW hP.hch hP.hP hP.hPl).mono ?_
  rintro v w3 ⟨rfl, E', hE1, hE2, hE3, hk3, h3⟩
  refine ⟨rfl, fun g => E'.tg g ≠ .other, ⟨E', _, hE1, fun _ => Iff.rfl, hE3, ?_, hP.fits, hg.put hM⟩, hk3.os, hk3.tape, hk3.output, hk3.size, fun g hg => ?_, fun g hg hn => hk3.block g hg fun h => hn ((hF g).2 h)⟩
  · rw [← hP.ids, ← hP.tips]
    refine h3.congr (fun j hj => ?_) (fun j => ?_)
    · rw [hP.ids] at hj
      exact List.mem_cons.2 ((Fo.put_ids hg.nd j).1 hj)
    · rw [hP.ids, Fo.put_ids hg.nd, List.mem_cons]
  · rw [hE2 g hg, hF]
theorem c_own (u : Un) (n : Nat) (k : Id) (b d : Nat) (w : World) (hb : Blk w b (ucs u) 52) (hd : Blk w d [.int .i64 (n : Int)] 3) (hn : n ≤ 9007199254740992) (hu : u.id.2 ≤ 9007199254740991) :
    Does Tryz.prog 37 #[idv k, .pointer (some ⟨b, 0, none⟩), .pointer (some ⟨d, 0, none⟩)] w fun v w' => v = .bool (ownB u n k) ∧ Below w.heap.size w w' := by
  refine Does_of (args := [idv k, .pointer (some ⟨b, 0, none⟩), .pointer (some ⟨d, 0, none⟩)]) Tryz.func37 (by kernel_rfl) rfl rfl rfl rfl rfl ?_
  (refine Ga ?_)
  obtain ⟨X, hXe⟩ : ∃ X, w.alloc (.cells (idcs k).toArray 40) = X := ⟨_, rfl⟩
  have hbX : Below w.heap.size w X := by rw [← hXe]; exact Bel
  have kX : Blk X w.heap.size (idcs k) 40 := by rw [← hXe]; exact (by (repeat (first | assumption | (apply Blk.below (hb := hb1); rotate_left; (focus ((try simp only [Sx.sizes]); omega)); rotate_right) | (apply Blk.below (hb := hb2); rotate_left; (focus ((try simp only [Sx.sizes]); omega)); rotate_right) | (apply Blk.below (hb := hb3); rotate_left; (focus ((try simp only [Sx.sizes]); omega)); rotate_right) | (apply Blk.below (hb := hb4); rotate_left; (focus ((try simp only [Sx.sizes]); omega)); rotate_right) | (apply Blk.below (hb := hb5); rotate_left; (focus ((try simp only [Sx.sizes]); omega)); rotate_right) | (apply Blk.below (hb := hb6); rotate_left; (focus ((try simp only [Sx.sizes]); omega)); rotate_right) | (apply Blk.below (hb := hb7); rotate_left; (focus ((try simp only [Sx.sizes]); omega)); rotate_right) | (apply Blk.below (hb := hb8); rotate_left; (focus ((try simp only [Sx.sizes]); omega)); rotate_right) | (apply Blk.below (hb := hb9); rotate_left; (focus ((try simp only [Sx.sizes]); omega)); rotate_right) | exact Blk.newE (by first | rfl | ((try simp only [Sx.sizes]); first | done | omega)) _ _ | exact Blk.put_same (by (try simp only [Sx.sizes]); first | done | omega) _ _ | (apply Blk.put_ne; (focus omega)) | apply Blk.alloc | apply Blk.drew)); done)
  have hbb := hb.below hbX hb.lt
  have hdd := hd.below hbX hd.lt
  rw [hXe]
  clear hXe hb hd
  unfold idcs at kX
  unfold ucs at hbb
  have hcl : (u.id.2 : Int) + (n : Int) = ((u.id.2 + n : Nat) : Int) := by omega
  by_cases e1 : k.1 = u.id.1
  · by_cases e2 : u.id.2 < k.2
    · by_cases e3 : k.2 < u.id.2 + n
      · have hv : ownB u n k = true := by unfold ownB; simp [e1, e2, e3]
        (refine Ga ?_)
        (apply retQ1; (focus rfl))
        exact ⟨by rw [hv]; rfl, hbX⟩
      · have hv : ownB u n k = false := by unfold ownB; simp [e1, e2, e3]
        (refine Ga ?_)
        (apply retQ1; (focus rfl))
        exact ⟨by rw [hv]; rfl, hbX⟩
    · have hv : ownB u n k = false := by unfold ownB; simp [e1, e2]
      (refine Ga ?_)
      (apply retQ1; (focus rfl))
      exact ⟨by rw [hv]; rfl, hbX⟩
  · have hv : ownB u n k = false := by unfold ownB; simp [e1]
    (refine Ga ?_)
    (apply retQ1; (focus rfl))
    exact ⟨by rw [hv]; rfl, hbX⟩
theorem s_chain (E : Env) (ρ : Id → Rec) (u : Un) (m : Nat) (t : Fo) (w : World) (hm0 : 0 < m) (hs : t.sz + m ≤ 1000000000 - 1) (hfar : ∀ g, w.heap.size ≤ g → E.tg g = .other) (hc : Core w E t.ids t.tips t.ids t.ids ρ) (hft : Fo.Fits ρ none t) (hg : Fo.Good t) (hu : u ∈ t.flat) (hL : (ρ u.id).L = []) (hR : (ρ u.id).R = []) (hnew : ∀ k ∈ towI u m, k ∉ t.ids) (hr : Fo.rightId u.id = true) (hclk : u.id.2 + m ≤ 9007199254740991) :
    Does Tryz.prog 39 #[.pointer (some ⟨E.p, 0, none⟩), pv E u.id, .int .i64 (m : Int)] w fun v w' => v = .tuple #[] ∧ ∃ F', SqAt w' E.p F' (runT t u m) ∧ Turn (fun g => E.tg g ≠ .other) F' w w' := by
  have hui : u.id ∈ t.ids := List.mem_map.2 ⟨u, hu, rfl⟩
  have hrun := run_fits m hg hft hu hL hR hnew hr hclk
  have hsz := fits_sizes hg.nd hft (by omega)
  refine (c_chain u m (Fo.upL t u.id) hfar (fits_clo hg.nd hft) (fun j hj => by have := hsz.n j hj; omega) hm0 (by omega) hui (hft.rec_u u hu) hR hclk hnew ⟨⟨hui, par_up hg.nd hft hui, chain_up hg.nd hft _ _ rfl⟩, List.nodup_cons.2 ⟨Fo.upL_self hg.nd, Fo.upL_nodup _ hg.nd⟩⟩ (fun _ => Iff.rfl) (fun j hj => ⟨hj, fits_u hft j hj⟩) hg.nd (by rw [Fo.ids_len]; omega) hc).mono ?_
  rintro v w3 ⟨rfl, E', hE1, hE2, hE3, hk3, h3⟩
  refine ⟨rfl, fun g => E'.tg g ≠ .other, ⟨E', _, hE1, fun _ => Iff.rfl, hE3, ?_, hrun.1, hrun.2.1⟩, hk3.os, hk3.tape, hk3.output, hk3.size, fun g hg => ?_, fun g hg hn => hk3.block g hg hn⟩
  · rw [hrun.2.2.1]
    have e : (runT t u m).ids = t.ids.take (t.ids.idxOf u.id + 1) ++ towI u m ++ t.ids.drop (t.ids.idxOf u.id + 1) := hrun.2.2.2.1
    have e2 : ∀ k, k ∈ (runT t u m).ids ↔ k ∈ towL t.ids u m := hrun.2.2.2.2
    rw [← e] at h3
    exact h3.congr (fun j hj => (e2 j).1 hj) (fun j => e2 j)
  · rw [hE2 g hg]
set_option maxHeartbeats 2000000 in
theorem c_Run (u : Un) (n : Int) (p : Nat) (F : Nat → Prop) (t : Fo) (w : World) (hs : t.sz + n.toNat ≤ 1000000000 - 1) (hn : n < 9223372036854775808) (h : SqAt w p F t) :
    Does Tryz.prog 20 #[.pointer (some ⟨p, 0, none⟩), .agg (ucs u).toArray, .int .i64 n] w fun v w' => v = .bool (runOk t u n) ∧ ∃ F', SqAt w' p F' (runR t u n) ∧ Turn F F' w w' := by
  refine Does_of (args := [.pointer (some ⟨p, 0, none⟩), .agg (ucs u).toArray, .int .i64 n]) Tryz.func20 (by kernel_rfl) rfl rfl rfl rfl rfl ?_
  have hsz := h
  (refine Ga ?_)
  obtain ⟨X, hXe⟩ : ∃ X, (w.alloc (.cells (ucs u).toArray 52)).alloc (.cells [.int .i64 n].toArray 3) = X := ⟨_, rfl⟩
  have hbX : Below w.heap.size w X := by rw [← hXe]; exact Bel
  have kU : Blk X w.heap.size (ucs u) 52 := by rw [← hXe]; exact (by (repeat (first | assumption | (apply Blk.below (hb := hb1); rotate_left; (focus ((try simp only [Sx.sizes]); omega)); rotate_right) | (apply Blk.below (hb := hb2); rotate_left; (focus ((try simp only [Sx.sizes]); omega)); rotate_right) | (apply Blk.below (hb := hb3); rotate_left; (focus ((try simp only [Sx.sizes]); omega)); rotate_right) | (apply Blk.below (hb := hb4); rotate_left; (focus ((try simp only [Sx.sizes]); omega)); rotate_right) | (apply Blk.below (hb := hb5); rotate_left; (focus ((try simp only [Sx.sizes]); omega)); rotate_right) | (apply Blk.below (hb := hb6); rotate_left; (focus ((try simp only [Sx.sizes]); omega)); rotate_right) | (apply Blk.below (hb := hb7); rotate_left; (focus ((try simp only [Sx.sizes]); omega)); rotate_right) | (apply Blk.below (hb := hb8); rotate_left; (focus ((try simp only [Sx.sizes]); omega)); rotate_right) | (apply Blk.below (hb := hb9); rotate_left; (focus ((try simp only [Sx.sizes]); omega)); rotate_right) | exact Blk.newE (by first | rfl | ((try simp only [Sx.sizes]); first | done | omega)) _ _ | exact Blk.put_same (by (try simp only [Sx.sizes]); first | done | omega) _ _ | (apply Blk.put_ne; (focus omega)) | apply Blk.alloc | apply Blk.drew)); done)
  have kN : Blk X (w.heap.size + 1) [.int .i64 n] 3 := by rw [← hXe]; exact (by (repeat (first | assumption | (apply Blk.below (hb := hb1); rotate_left; (focus ((try simp only [Sx.sizes]); omega)); rotate_right) | (apply Blk.below (hb := hb2); rotate_left; (focus ((try simp only [Sx.sizes]); omega)); rotate_right) | (apply Blk.below (hb := hb3); rotate_left; (focus ((try simp only [Sx.sizes]); omega)); rotate_right) | (apply Blk.below (hb := hb4); rotate_left; (focus ((try simp only [Sx.sizes]); omega)); rotate_right) | (apply Blk.below (hb := hb5); rotate_left; (focus ((try simp only [Sx.sizes]); omega)); rotate_right) | (apply Blk.below (hb := hb6); rotate_left; (focus ((try simp only [Sx.sizes]); omega)); rotate_right) | (apply Blk.below (hb := hb7); rotate_left; (focus ((try simp only [Sx.sizes]); omega)); rotate_right) | (apply Blk.below (hb := hb8); rotate_left; (focus ((try simp only [Sx.sizes]); omega)); rotate_right) | (apply Blk.below (hb := hb9); rotate_left; (focus ((try simp only [Sx.sizes]); omega)); rotate_right) | exact Blk.newE (by first | rfl | ((try simp only [Sx.sizes]); first | done | omega)) _ _ | exact Blk.put_same (by (try simp only [Sx.sizes]); first | done | omega) _ _ | (apply Blk.put_ne; (focus omega)) | apply Blk.alloc | apply Blk.drew)); done)
  rw [hXe]
  clear hXe
  have hX := h.below hbX
  have hFU : ¬ F w.heap.size := fun hf => by have := h.lt hf; omega
  have hFN : ¬ F (w.heap.size + 1) := fun hf => by have := h.lt hf; omega
  have hT0 : Turn F F w X := .of hbX
  have no : runOk t u n = false → ∀ w', SqAt w' p F t → Turn F F w w' → ∃ F', SqAt w' p F' (runR t u n) ∧ Turn F F' w w' := fun hf w' h1 h2 => by
    unfold runR
    rw [hf]
    exact ⟨F, h1, h2⟩
  have hRi := fun A => n_Right u.id A
  unfold ucs at kU
  by_cases h1 : 1 ≤ n
  · cases h2 : Fo.rightId u.id with
    | false =>
      rw [h2] at hRi
      have hr : runOk t u n = false := by unfold runOk; rw [h2]; simp
      (refine Ga ?_)
      (apply Lst_call; (focus rfl); (focus rfl))
      refine (hRi X).mono ?_
      rintro v w2 ⟨rfl, hb2⟩
      (refine Ga ?_)
      (apply retQ1; (focus rfl))
      exact ⟨by rw [hr]; rfl, no hr _ (hX.below hb2) (hT0.trans (.of hb2))⟩
    | true =>
      rw [h2] at hRi
      (refine Ga ?_)
      (apply Lst_call; (focus rfl); (focus rfl))
      refine (hRi X).mono ?_
      rintro v w2 ⟨rfl, hb2⟩
      have hX2 := hX.below hb2
      have hT2 := hT0.trans (.of hb2)
      have kU2 := kU.below hb2 kU.lt
      have kN2 := kN.below hb2 kN.lt
      clear kU kN hX hT0 hRi
      have hcl : 1 ≤ u.id.2 ∧ u.id.2 ≤ 9007199254740991 := by
        have := h2
        unfold Fo.rightId Fo.num at this
        simp only [Bool.and_eq_true, decide_eq_true_eq] at this
        exact this.2
      by_cases h3 : n ≤ 9007199254740991 - (u.id.2 : Int) + 1
      · (refine Ga ?_)
        (apply Lst_call; (focus rfl); (focus rfl))
        refine (s_may u p F t w2 (by omega) hX2).mono ?_
        rintro v w3 ⟨rfl, hX3, hT3'⟩
        have hT3 := hT2.trans hT3'
        have kU3 := hT3'.blk kU2 hFU
        have kN3 := hT3'.blk kN2 hFN
        clear kU2 kN2 hT2 hX2 hT3'
        cases h4 : Fo.may t u with
        | false =>
          have hr : runOk t u n = false := by unfold runOk; rw [h4]; simp
          (refine Ga ?_)
          (apply retQ1; (focus rfl))
          exact ⟨by rw [hr]; rfl, no hr _ hX3 hT3⟩
        | true =>
          obtain ⟨m, rfl⟩ : ∃ m : Nat, n = m := ⟨n.toNat, by omega⟩
          rw [Int.toNat_natCast] at hs
          have hM := (Fo.may_iff.1 h4)
          have hrk : runOk t u (m : Int) = freeTo t u m := by
            unfold runOk
            rw [h2, h4, decide_eq_true h1, decide_eq_true h3, Int.toNat_natCast]
            simp
          obtain ⟨E, ρ, hp, hF, hfar, hc, hft, hg⟩ := id hX3
          subst hp
          (refine Ga ?_)
          have hno : ∀ A, Below w3.heap.size w3 A → freeTo t u m = false → ∃ F', SqAt A E.p F' (runR t u m) ∧ Turn F F' w A := fun A hA hf => no (hrk.trans hf) A (hX3.below hA) (hT3.trans (.of hA))
          refine W_cutB (α := Unit) (fun _ => [(0, .pointer (some ⟨E.p, 0, none⟩)), (4, .pointer (some ⟨w.heap.size, 0, none⟩)), (5, .pointer (some ⟨w.heap.size + 1, 0, none⟩))]) (fun _ A => Below w3.heap.size w3 A ∧ freeTo t u m = true) ?_ ?_
          · refine W_loop (α := Nat) (fun i => [(0, .pointer (some ⟨E.p, 0, none⟩)), (4, .pointer (some ⟨w.heap.size, 0, none⟩)), (5, .pointer (some ⟨w.heap.size + 1, 0, none⟩)), (33, .int .i64 (m : Int)), (34, .int .i64 (i : Int))])
              (fun i A => Below w3.heap.size w3 A ∧ i ≤ m ∧ ∀ q, q < i → (u.id.1, u.id.2 + q) ∉ t.ids) (fun i _ => m - i) 0 ⟨Below.refl _ _, Nat.zero_le _, fun q hq => absurd hq (Nat.not_lt_zero _)⟩ ⟨rfl, rfl, rfl, rfl, rfl, trivial⟩ ?_
            rintro J i A ⟨hbA, him, hfr⟩
            have kUA := kU3.below hbA kU3.lt
            have hcA := hc.below hbA
            have ltU := kUA.lt
            obtain ⟨so, sr, fresh, mm, hS, hOo, hR, hMm, hFf⟩ := id hcA.seq
            have ltP := hS.lt
            by_cases hi : i < m
            · obtain ⟨lo, hlo, hloN⟩ := lookPtr (E := E) t.ids (u.id.1, u.id.2 + i)
              (refine Ga ?_)
              refine W_draws (Grown _) rfl (by kernel_rfl) (grown_start _) ?_
              (refine Qb ?_)
              apply Qst_lookup
              focus rfl
              focus rfl
              focus exact fun A9 hA9 => ((hcA.below hA9).lookAll (u.id.1, u.id.2 + i)).trans (by rw [hlo])
              focus rfl
              (refine Qb ?_)
              intro w8 hb8
              have hb8' := hbA.trans (hb8.mono hbA.size)
              cases lo with
              | none =>
                (refine Ga ?_)
                refine rndQ_n (α := Nat) (i + 1) ⟨hb8', hi, fun q hq => ?_⟩ ⟨rfl, rfl, rfl, rfl, ?_, trivial⟩ (by omega)
                · by_cases e : q = i
                  · subst e
                    exact of_decide_eq_false hloN.symm
                  · exact hfr q (by omega)
                · exact congrArg (Value.int .i64) (by omega)
              | some lo =>
                have hff : freeTo t u m = false := by
                  cases e : freeTo t u m with
                  | false => rfl
                  | true => exact absurd (of_decide_eq_true hloN.symm) (free_iff.1 e i hi)
                (refine Ga ?_)
                (apply retQ1; (focus rfl))
                exact ⟨by rw [hrk, hff]; rfl, hno _ hb8' hff⟩
            · obtain rfl : i = m := by omega
              (refine Ga ?_)
              exact cutQ_n () ⟨hbA, free_iff.2 hfr⟩ ⟨rfl, rfl, rfl, trivial⟩
          · rintro J _ A ⟨hbA, hfree⟩
            have hXA := hX3.below hbA
            have hTA := hT3.trans (.of hbA)
            have kUA := kU3.below hbA kU3.lt
            have kNA := kN3.below hbA kN3.lt
            have hok := hrk.trans hfree
            clear hX3 hT3 kU3 kN3 hc hno no
            (refine Ga ?_)
            (apply Lst_call; (focus rfl); (focus rfl))
            refine (c_own u m u.l w.heap.size (w.heap.size + 1) A kUA kNA (by omega) hcl.2).mono ?_
            rintro v w4 ⟨rfl, hb4⟩
            rw [own_no hfree hM.l]
            have kU4 := kUA.below hb4 kUA.lt
            have kN4 := kNA.below hb4 kNA.lt
            (refine Ga ?_)
            (apply Lst_call; (focus rfl); (focus rfl))
            refine (c_own u m u.r w.heap.size (w.heap.size + 1) w4 kU4 kN4 (by omega) hcl.2).mono ?_
            rintro v w5 ⟨rfl, hb5⟩
            rw [own_no hfree hM.r]
            have kU5 := kU4.below hb5 kU4.lt
            have kN5 := kN4.below hb5 kN4.lt
            have hX5 := (hXA.below hb4).below hb5
            have hT5 := (hTA.trans (.of hb4)).trans (.of hb5)
            clear kUA kNA kU4 kN4 hXA hTA hb4 hb5
            (refine Ga ?_)
            (apply Lst_call; (focus rfl); (focus rfl))
            refine (s_put u E.p F t w5 (by omega) hM.toCan hX5).mono ?_
            rintro v w6 ⟨rfl, F6, hX6, hT56⟩
            have kU6 := hT56.blk kU5 hFU
            have kN6 := hT56.blk kN5 hFN
            have hT6 := hT5.trans hT56
            clear kU5 kN5 hX5 hT5 hT56
            have hrr : runR t u (m : Int) = runT (Fo.put t u) u (m - 1) := by
              unfold runR
              rw [hok, if_pos rfl]
              rfl
            by_cases h1m : m = 1
            · subst h1m
              (refine Ga ?_)
              (apply retQ1; (focus rfl))
              rw [hrr]
              exact ⟨by rw [hok]; rfl, F6, hX6, hT6⟩
            · have hm2 : (m : Int) > 1 := by omega
              obtain ⟨E6, ρ6, hp6, hF6, hfar6, hc6, hft6, hg6⟩ := hX6
              obtain ⟨so, sr, fresh, mm, hS, hOo, hR, hMm, hFf⟩ := id hc6.seq
              rw [hp6] at hS
              have ltU := kU6.lt
              have ltN := kN6.lt
              have ltP := hS.lt
              have huN : u.id ∈ (Fo.put t u).ids := (Fo.put_ids hg.nd _).2 (.inl rfl)
              have hmem := (Fo.put_ids (u := u) hg.nd)
              (refine Ga ?_)
              refine W_draw 10 (Grown w6) rfl (by kernel_rfl) (grown_start w6) ?_
              (refine Qb ?_)
              apply Qst_lookup
              focus rfl
              focus rfl
              focus exact fun A9 hA9 => ((hc6.below hA9).lookAll u.id).trans (by rw [if_pos huN])
              focus rfl
              (refine Qb ?_)
              intro w8 hb8
              have hm1 : ((m : Int) - 1) = ((m - 1 : Nat) : Int) := by omega
              have hleaf := put_leaf hg hft hM.toCan hft6
              have hsz1 : (Fo.put t u).sz = t.sz + 1 := by
                obtain ⟨A', B', h1, h2⟩ := Fo.put_in (u := u) hg.nd
                unfold Fo.sz
                rw [h1, h2]
                simp only [List.length_append, List.length_cons]
                omega
              have hch := s_chain E6 ρ6 u (m - 1) (Fo.put t u) w8 (by omega) (by omega) (fun g hg => hfar6 g (Nat.le_trans hb8.size hg)) (hc6.below hb8) hft6 hg6 ((Fo.put_mem hg.nd _).2 (.inl rfl)) hleaf.1 hleaf.2 (fun k hk hm => by
                have h5 := tow_mem hk
                rcases (hmem k).1 hm with rfl | h6
                · omega
                · have h7 := free_iff.1 hfree (k.2 - u.id.2) (by omega)
                  refine h7 ?_
                  have : (u.id.1, u.id.2 + (k.2 - u.id.2)) = k := Prod.ext h5.1.symm (by show u.id.2 + (k.2 - u.id.2) = k.2; omega)
                  rw [this]
                  exact h6) h2 (by omega)
              rw [hp6, ← hm1] at hch
              (apply Lst_call; (focus rfl); (focus rfl))
              refine hch.mono ?_
              rintro v w9 ⟨rfl, F9, hX9, hT9⟩
              (refine Ga ?_)
              (apply retQ1; (focus rfl))
              rw [hrr]
              exact ⟨by rw [hok]; rfl, F9, hX9, (hT6.trans (.of hb8)).trans ⟨hT9.os, hT9.tape, hT9.output, hT9.size, fun g hg => (hT9.own g hg).trans (hF6 g).symm, fun g hg hn => hT9.block g hg fun h => hn ((hF6 g).2 h)⟩⟩
      · have hr : runOk t u n = false := by unfold runOk; rw [decide_eq_false h3]; simp
        (refine Ga ?_)
        (apply retQ1; (focus rfl))
        exact ⟨by rw [hr]; rfl, no hr _ hX2 hT2⟩
  · have hr : runOk t u n = false := by unfold runOk; rw [decide_eq_false h1]; rfl
    (refine Ga ?_)
    (apply retQ1; (focus rfl))
    exact ⟨by rw [hr]; rfl, no hr _ hX hT0⟩
end Sq
namespace Sq
open Go Go.RowKit Sx Tl
theorem Turn.low {F F' : Nat → Prop} {A B : World} {N : Nat} (h : Turn F F' A B) (hF : ∀ g, F g → N ≤ g) (hN : N ≤ A.heap.size) : (∀ g, F' g → N ≤ g) ∧ Below N A B :=
  ⟨fun g hg => by
    rcases Nat.lt_or_ge g A.heap.size with h1 | h1
    · exact hF g ((h.own g h1).1 hg)
    · omega, ⟨h.os, h.tape, h.output, h.size, fun g hg => h.block g (by omega) fun hf => by have := hF g hf; omega⟩⟩
variable {w A A' : World} {p b2 b3 b4 : Nat} {x2 x3 x4 : Id} {t t' : Fo} {F F' : Nat → Prop}
attribute [local irreducible] W Lst Qst Pu seqQ blkQ rndQ cutQ retQ Does Enters IntKind.wrap bits sb World.alloc World.putObj Blk
attribute [local irreducible] Rn Tk rnQ
attribute [local irreducible] RnS
end Sq
namespace Sq
open Go Go.RowKit Sx Tl
namespace Fo
theorem up_up {t : Fo} (hn : t.ids.Nodup) : ∀ (c : List Id) {k j : Id}, upL t k = c → j ∈ c → ∀ x ∈ upL t j, x ∈ c
  | [], _, _, _, h, _, _ => by cases h
  | a :: c, k, j, hc, hj, x, hx => by
    have h1 := upL_tail hn hc
    rcases List.mem_cons.1 hj with rfl | hj
    · rw [h1] at hx
      exact List.mem_cons_of_mem _ hx
    · exact List.mem_cons_of_mem _ (up_up hn c h1 hj x hx)
theorem up_not {t : Fo} (hn : t.ids.Nodup) {k j : Id} (h : k ∈ upL t j) : j ∉ upL t k := fun hj => upL_self hn (up_up hn _ rfl hj k h)
theorem below_up {ρ : Id → Rec} {t : Fo} (hn : t.ids.Nodup) (hF : Fits ρ none t) {k : Id} : ∀ {l : Fo} {q : Id}, Fits ρ (some q) l → (∀ j ∈ l.ids, j ∈ t.ids) → (q = k ∨ k ∈ upL t q) → ∀ j ∈ l.ids, k ∈ upL t j
  | nil, _, _, _, _, _, h => by cases h
  | nd u l r s, q, h, hm, hq, j, hj => by
    have hin : ∀ i, i ∈ l.ids ∨ i = u.id ∨ i ∈ r.ids ∨ i ∈ s.ids → i ∈ t.ids := fun i hi => hm i (by
      rw [ids_nd]
      simp only [List.mem_append, List.mem_cons]
      rcases hi with h | h | h | h
      · exact .inl (.inl h)
      · exact .inl (.inr (.inl h))
      · exact .inl (.inr (.inr h))
      · exact .inr h)
    have hu : k ∈ upL t u.id := by
      have hut := hin u.id (.inr (.inl rfl))
      have h1 := par_up hn hF hut
      rw [h.1] at h1
      cases hc : upL t u.id with
      | nil => rw [hc] at h1; cases h1
      | cons a c =>
        rw [hc] at h1
        have e : q = a := Option.some.inj h1
        subst e
        rcases hq with rfl | hq
        · exact List.mem_cons_self ..
        · have := upL_tail hn hc
          rw [this] at hq
          exact List.mem_cons_of_mem _ hq
    by_cases e : u.id = j
    · rw [← e]
      exact hu
    · rcases mem_nd hj e with h1 | h1 | h1
      · exact below_up hn hF h.2.1 (fun i hi => hin i (.inl hi)) (.inr hu) j h1
      · exact below_up hn hF h.2.2.1 (fun i hi => hin i (.inr (.inr (.inl hi)))) (.inr hu) j h1
      · exact below_up hn hF h.2.2.2 (fun i hi => hin i (.inr (.inr (.inr hi)))) hq j h1
theorem mem_ids {l : List Un} {k : Id} {t : Fo} (h : t.flat = l) : k ∈ t.ids ↔ k ∈ l.map (·.id) := by unfold ids; rw [h]
theorem pos_at {t : Fo} {A B : List Un} {u : Un} (hn : t.ids.Nodup) (hf : t.flat = A ++ u :: B) : pos t u.id = A.length := by
  unfold pos
  have e : t.ids = A.map (·.id) ++ u.id :: B.map (·.id) := by unfold ids; rw [hf]; simp
  rw [e] at hn ⊢
  rw [List.nodup_append] at hn
  rw [List.idxOf_append, if_neg (fun hm => hn.2.2 _ hm _ (List.mem_cons_self ..) rfl), List.idxOf_cons_self, List.length_map]
  exact Nat.zero_add _
theorem pos_lt {t : Fo} {A B : List Un} {k : Id} (hf : t.flat = A ++ B) (hk : k ∈ A.map (·.id)) : pos t k < A.length := by
  unfold pos
  have e : t.ids = A.map (·.id) ++ B.map (·.id) := by unfold ids; rw [hf]; simp
  rw [e, List.idxOf_append, if_pos hk]
  have := List.idxOf_lt_length_iff.2 hk
  rwa [List.length_map] at this
theorem pos_ge {t : Fo} {A B : List Un} {k : Id} (hn : t.ids.Nodup) (hf : t.flat = A ++ B) (hk : k ∈ B.map (·.id)) : A.length ≤ pos t k := by
  unfold pos
  have e : t.ids = A.map (·.id) ++ B.map (·.id) := by unfold ids; rw [hf]; simp
  rw [e] at hn ⊢
  rw [List.nodup_append] at hn
  rw [List.idxOf_append, if_neg (fun hm => hn.2.2 _ hm _ hk rfl), List.length_map]
  omega
theorem between {ρ : Id → Rec} {t : Fo} {u : Un} (hg : Good t) (hF : Fits ρ none t) (hM : May t u) : ∃ A B, t.flat = A ++ B ∧ (put t u).flat = A ++ u :: B ∧ (u.l ≠ none' → u.l ∈ A.map (·.id)) ∧ (u.r ≠ none' → u.r ∈ B.map (·.id)) := by
  have hn := hg.nd
  cases hL : isL t u with
  | true =>
    have hL' := hL
    unfold isL at hL'
    simp only [Bool.and_eq_true, Bool.or_eq_true, Bool.not_eq_true', decide_eq_true_eq, decide_eq_false_iff_not] at hL'
    obtain ⟨hr, hl⟩ := hL'
    obtain ⟨A, B, v, l, r, hv, hf, hp, hsp⟩ := put_left hn hL hr
    obtain ⟨_, hFl, _⟩ := hsp ρ none hF
    have hmem := mem_split hf
    refine ⟨A ++ (fst (pass (fun a => lt a.id u.id) l) l).flat, (rst (pass (fun a => lt a.id u.id) l) l).flat ++ v :: r.flat ++ B, ?_, ?_, fun hne => ?_, fun _ => ?_⟩
    · rw [hf]
      conv => lhs; rw [← fst_rst (pass (fun a => lt a.id u.id) l) l]
      simp
    · rw [hp]
      simp
    · have hlt := hM.l.resolve_left hne
      have hup := hl.resolve_left fun h => h hlt
      have hnl : u.l ∉ l.ids := fun h => up_not hn (below_up hn hF hFl hmem.1 (.inl rfl) u.l h) hup
      have hpos : pos t u.l < pos t u.r := by
        rcases hM.lr with h | h | h
        · exact absurd h hne
        · exact absurd (h ▸ hr) hg.none
        · exact h
      have hpr := pos_split hn hf
      rw [hv] at hpr
      have hin : u.l ∈ (A ++ l.flat).map (·.id) := by
        refine Classical.byContradiction fun hno => ?_
        have hf2 : t.flat = (A ++ l.flat) ++ (v :: r.flat ++ B) := by rw [hf]; simp
        have : u.l ∈ ((v :: r.flat ++ B).map (·.id)) := by
          have := (mem_ids hf2).1 hlt
          rw [List.map_append] at this
          exact (List.mem_append.1 this).resolve_left hno
        have := pos_ge hn hf2 this
        rw [List.length_append] at this
        unfold sz at hpr
        omega
      rw [List.map_append, List.mem_append] at hin ⊢
      exact .inl (hin.resolve_right hnl)
    · rw [← hv]
      simp
  | false =>
    have hLr : u.r ∈ t.ids → u.l ∈ t.ids ∧ u.l ∉ upL t u.r := fun hr => by
      unfold isL at hL
      simp only [hr, decide_true, Bool.true_and, Bool.or_eq_false_iff, Bool.not_eq_false', decide_eq_true_eq, decide_eq_false_iff_not] at hL
      exact hL
    by_cases hl : u.l ∈ t.ids
    · obtain ⟨A, B, v, l, r, hv, hf, hp, hsp⟩ := put_right hn hL hl
      obtain ⟨_, _, hFr⟩ := hsp ρ none hF
      have hmem := mem_split hf
      have hf3 : t.flat = A ++ l.flat ++ v :: (fst (pass (fun a => ahead t a u) r) r).flat ++ ((rst (pass (fun a => ahead t a u) r) r).flat ++ B) := by
        rw [hf]
        conv => lhs; rw [← fst_rst (pass (fun a => ahead t a u) r) r]
        simp
      refine ⟨A ++ l.flat ++ v :: (fst (pass (fun a => ahead t a u) r) r).flat, (rst (pass (fun a => ahead t a u) r) r).flat ++ B, hf3, ?_, fun _ => ?_, fun hne => ?_⟩
      · rw [hp]
        simp
      · rw [← hv]
        simp
      · have hrt := hM.r.resolve_left hne
        have hnr : u.r ∉ r.ids := fun h => (hLr hrt).2 (below_up hn hF hFr hmem.2 (.inl rfl) u.r h)
        have hpos : pos t u.l < pos t u.r := by
          rcases hM.lr with h | h | h
          · exact absurd (h ▸ hl) hg.none
          · exact absurd h hne
          · exact h
        have hpl := pos_split hn hf
        rw [hv] at hpl
        have hin : u.r ∈ B.map (·.id) := by
          refine Classical.byContradiction fun hno => ?_
          have hf2 : t.flat = (A ++ l.flat ++ [v]) ++ (r.flat ++ B) := by rw [hf]; simp
          have h1 := (mem_ids hf2).1 hrt
          rw [List.map_append, List.mem_append, List.map_append (l₁ := r.flat), List.mem_append] at h1
          have h2 := h1.resolve_right fun h => h.elim hnr hno
          have h3 := pos_lt hf2 h2
          simp only [List.length_append, List.length_singleton] at h3
          unfold sz at hpl
          omega
        rw [List.map_append, List.mem_append]
        exact .inr hin
    · have h0 := hM.l.resolve_right hl
      have hr0 : u.r = none' := hM.r.resolve_right fun h => hl (hLr h).1
      exact ⟨_, _, (fst_rst _ t).symm, put_root hL hl, fun h => absurd h0 h, fun h => absurd hr0 h⟩
theorem pos_get {t : Fo} (hn : t.ids.Nodup) {n : Nat} (h : n < t.sz) : pos t (t.flat.getD n default).id = n ∧ (t.flat.getD n default).id ∈ t.ids := by
  have h1 : n < t.flat.length := h
  have h2 : n < t.ids.length := by rw [ids_len]; exact h
  rw [List.getD_eq_getElem?_getD, List.getElem?_eq_getElem h1]
  have h3 : t.ids[n] = (t.flat[n]).id := by simp only [ids, List.getElem_map]
  show pos t (t.flat[n]).id = n ∧ (t.flat[n]).id ∈ t.ids
  rw [← h3]
  exact ⟨idxOf_at hn h2, List.getElem_mem h2⟩
end Fo
end Sq
namespace Sq
open Go Go.RowKit Sx Tl
/-- A unit's number. -/
def ix (N : List Id) (k : Id) : Int := (N.idxOf k : Int)
def px (N : List Id) : Option Id → Int
  | none => -1
  | some k => ix N k
def fx (N : List Id) (k : Id) : Int := if k ∈ N then ix N k else -1
def rcs (N : List Id) (r : Rec) (b : Bool) (sl sr : Value) : List Value := [.int .u64 (r.u.id.1 : Int), .int .u64 (r.u.id.2 : Int), .int .u64 (r.u.l.1 : Int), .int .u64 (r.u.l.2 : Int), .int .u64 (r.u.r.1 : Int), .int .u64 (r.u.r.2 : Int), .int .i64 (px N r.par), .bool b, sl, sr]
/-- A row of numbers of the reference's own. -/
structure Lz (w : World) (F : Nat → Prop) (p : Nat) (v : Value) (zs : List Int) : Prop where
  ints : Ints w .i64 v zs
  own : zs ≠ [] → ∀ b off n c, v = .slice (some ⟨b, off, none⟩) n c → F b ∧ b ≠ p
  cap : ∃ a c, v = .slice a zs.length c ∧ zs.length ≤ c
/-- What lies where. -/
def RfEx (w : World) (p : Nat) (F : Nat → Prop) (N : List Id) (ρ : Id → Rec) (rt ord : List Id) (vl vm vo : Value) (cs : List (List Value)) : Prop :=
  Blk w p [vl, vm, vo] 69 ∧ w.ownsRow 0 78 10 vl N.length cs.flatten ∧ (∀ g, vl.ownBlock = some g → F g ∧ g ≠ p) ∧ cs.length = N.length ∧ (∀ l ∈ cs, l.length = 10) ∧ Lz w (fun g => F g ∧ vl.ownBlock ≠ some g) p vm (rt.map (ix N)) ∧ Lz w (fun g => F g ∧ vl.ownBlock ≠ some g) p vo (ord.map (ix N)) ∧
    ∀ k ∈ N, ∃ b sl sr, cs[N.idxOf k]? = some (rcs N (ρ k) b sl sr) ∧ Lz w (fun g => F g ∧ vl.ownBlock ≠ some g) p sl ((ρ k).L.map (ix N)) ∧ Lz w (fun g => F g ∧ vl.ownBlock ≠ some g) p sr ((ρ k).R.map (ix N))
structure RfAt (w : World) (p : Nat) (F : Nat → Prop) (N : List Id) (ρ : Id → Rec) (rt ord : List Id) : Prop where
  lt : ∀ g, F g → g < w.heap.size
  own : F p
  ex : ∃ (vl vm vo : Value) (cs : List (List Value)), RfEx w p F N ρ rt ord vl vm vo cs
theorem Ints.kept {w w' : World} {k : IntKind} {v : Value} {zs : List Int} (h : Ints w k v zs) (hs : w.heap.size ≤ w'.heap.size) (hb : zs ≠ [] → ∀ b off n c, v = .slice (some ⟨b, off, none⟩) n c → w'.heap[b]? = w.heap[b]?) : Ints w' k v zs := by
  obtain ⟨b, off, cap, h1, h2, h3⟩ := h
  refine ⟨b, off, cap, h1, fun hz => Nat.lt_of_lt_of_le (h2 hz) hs, fun j hj => ?_⟩
  have hz : zs ≠ [] := by intro e; subst e; simp at hj
  rcases h1 with h1 | ⟨_, h1⟩
  · exact (World.cell?_of_block (a := ⟨b, off + j, none⟩) (hb hz b off _ _ h1)).trans (h3 j hj)
  · exact absurd h1 hz
theorem Lz.kept {w w' : World} {F F' : Nat → Prop} {p : Nat} {v : Value} {zs : List Int} (h : Lz w F p v zs) (hs : w.heap.size ≤ w'.heap.size) (hF : ∀ g, F g → F' g) (hb : ∀ g, F g → g ≠ p → w'.heap[g]? = w.heap[g]?) : Lz w' F' p v zs :=
  ⟨Ints.kept h.ints hs fun hz b off n c e => hb b (h.own hz b off n c e).1 (h.own hz b off n c e).2, fun hz b off n c e => ⟨hF b (h.own hz b off n c e).1, (h.own hz b off n c e).2⟩, h.cap⟩
theorem Lz.of_own {w : World} {F : Nat → Prop} {p B e nn : Nat} {v : Value} {zs : List Int} (h : w.ownsRow B e 1 v nn (zs.map (Value.int .i64))) (hF : ∀ g, v.ownBlock = some g → F g ∧ g ≠ p) : Lz w F p v zs := by
  have hl : zs.length = nn := by have := h.1; rw [List.length_map] at this; omega
  refine ⟨Ints.of_own h, fun _ b off n c e => ?_, ?_⟩
  · subst e
    exact hF b rfl
  · obtain ⟨a, c, hf, hc⟩ := own_form h
    exact ⟨a, c, by rw [hl]; exact hf, by rw [hl]; exact hc⟩
theorem RfAt.kept {w w' : World} {p : Nat} {F : Nat → Prop} {N : List Id} {ρ : Id → Rec} {rt ord : List Id} (h : RfAt w p F N ρ rt ord) (hs : w.heap.size ≤ w'.heap.size) (hb : ∀ g, F g → w'.heap[g]? = w.heap[g]?) : RfAt w' p F N ρ rt ord := by
  obtain ⟨vl, vm, vo, cs, h1, h2, h3, h4, h5, h6, h7, h8⟩ := h.ex
  refine ⟨fun g hg => Nat.lt_of_lt_of_le (h.lt g hg) hs, h.own, vl, vm, vo, cs, (hb p h.own).trans h1, own_kept h2 fun g hg => hb g (h3 g hg).1, h3, h4, h5, h6.kept hs (fun _ h => h) fun g hg _ => hb g hg.1, h7.kept hs (fun _ h => h) fun g hg _ => hb g hg.1, fun k hk => ?_⟩
  obtain ⟨b, sl, sr, h9, h10, h11⟩ := h8 k hk
  exact ⟨b, sl, sr, h9, h10.kept hs (fun _ h => h) fun g hg _ => hb g hg.1, h11.kept hs (fun _ h => h) fun g hg _ => hb g hg.1⟩
theorem RfAt.below {w w' : World} {p B : Nat} {F : Nat → Prop} {N : List Id} {ρ : Id → Rec} {rt ord : List Id} (h : RfAt w p F N ρ rt ord) (hb : Below B w w') (hB : ∀ g, F g → g < B) : RfAt w' p F N ρ rt ord :=
  h.kept hb.size fun g hg => hb.block g (hB g hg)
theorem RfAt.grown {w w' : World} {p : Nat} {F : Nat → Prop} {N : List Id} {ρ : Id → Rec} {rt ord : List Id} (h : RfAt w p F N ρ rt ord) (hb : Grown w w') : RfAt w' p F N ρ rt ord := h.below hb h.lt
/-- What is read of it. -/
theorem RfAt.view {w : World} {p : Nat} {F : Nat → Prop} {N : List Id} {ρ : Id → Rec} {rt ord : List Id} (h : RfAt w p F N ρ rt ord) : ∃ a c a1 c1 a2 c2, Blk w p [.slice a N.length c, .slice a1 rt.length c1, .slice a2 ord.length c2] 69 ∧ N.length ≤ c ∧ rt.length ≤ c1 ∧ Ints w .i64 (.slice a1 rt.length c1) (rt.map (ix N)) ∧ Ints w .i64 (.slice a2 ord.length c2) (ord.map (ix N)) ∧
    ∀ k ∈ N, ∃ g b b1 d1 b2 d2, a = some ⟨g, 0, none⟩ ∧ (∀ j u, (rcs N (ρ k) b (.slice b1 (ρ k).L.length d1) (.slice b2 (ρ k).R.length d2))[j]? = some u → w.cell? ⟨g, N.idxOf k * 10 + j, none⟩ = some u) ∧ (ρ k).L.length ≤ d1 ∧ Ints w .i64 (.slice b1 (ρ k).L.length d1) ((ρ k).L.map (ix N)) ∧ (ρ k).R.length ≤ d2 ∧ Ints w .i64 (.slice b2 (ρ k).R.length d2) ((ρ k).R.map (ix N)) := by
  obtain ⟨vl, vm, vo, cs, h1, h2, h3, h4, h5, h6, h7, h8⟩ := h.ex
  obtain ⟨a, c, rfl, hc⟩ := own_form h2
  obtain ⟨a1, c1, rfl, hc1⟩ := h6.cap
  obtain ⟨a2, c2, rfl, hc2⟩ := h7.cap
  have e1 := h6.ints
  have e2 := h7.ints
  simp only [List.length_map] at *
  refine ⟨a, c, a1, c1, a2, c2, h1, hc, hc1, e1, e2, fun k hk => ?_⟩
  obtain ⟨b, sl, sr, h9, h10, h11⟩ := h8 k hk
  obtain ⟨b1, d1, rfl, hd1⟩ := h10.cap
  obtain ⟨b2, d2, rfl, hd2⟩ := h11.cap
  have e3 := h10.ints
  have e4 := h11.ints
  simp only [List.length_map] at *
  have hs := SRows.of_own h2 h5 (by decide)
  have hi : N.idxOf k < cs.length := by rw [h4]; exact List.idxOf_lt_length_iff.2 hk
  obtain ⟨g, off, cap, hf | ⟨_, hf⟩, hr⟩ := hs
  · injection hf with e5 e6 e7
    have hoff : off = 0 := by
      rcases h2.2 with ⟨hv, _⟩ | ⟨g', cap', cur, hv, _⟩
      · rw [e5] at hv; cases hv
      · rw [e5] at hv; cases hv; rfl
    subst hoff
    subst e5
    refine ⟨g, b, b1, d1, b2, d2, rfl, fun j u hu => ?_, hd1, e3, hd2, e4⟩
    have := (hr _ hi).2 j u (by rw [List.getElem?_eq_getElem hi] at h9; rw [Option.some.inj h9]; exact hu)
    rwa [Nat.zero_add] at this
  · rw [hf] at hi
    exact absurd hi (Nat.not_lt_zero _)
end Sq
namespace Sq
open Go Go.RowKit Sx Tl
variable {w : World} {p : Nat} {F : Nat → Prop} {N rt ord : List Id} {ρ : Id → Rec}
theorem ix_inj {N : List Id} {a b : Id} (ha : a ∈ N) (hb : b ∈ N) (h : ix N a = ix N b) : a = b := by
  unfold ix at h
  have h1 := List.idxOf_lt_length_iff.2 ha
  have h2 := List.idxOf_lt_length_iff.2 hb
  have e1 := List.getElem_idxOf h1
  have e2 := List.getElem_idxOf h2
  have e : N.idxOf a = N.idxOf b := by omega
  rw [← e1, ← e2]
  simp only [e]
theorem ix_map_at {N l : List Id} {i : Nat} (hi : i < l.length) : (l.map (ix N)).getD i 0 = ix N l[i] := by
  rw [List.getD_eq_getElem?_getD, List.getElem?_map, List.getElem?_eq_getElem hi]
  rfl
theorem cells2 {A : World} {g o o' : Nat} {x y : Value} (h0 : A.cell? ⟨g, o, none⟩ = some x) (h1 : A.cell? ⟨g, o + 1, none⟩ = some y) (e : o' = o) : ∀ (j : Nat) (v : Value), [x, y][j]? = some v → A.cell? ⟨g, o' + j, none⟩ = some v := by
  subst e
  intro j v hv
  match j, hv with
  | 0, hv => cases hv; exact h0
  | 1, hv => cases hv; exact h1
theorem rcs_u {N : List Id} {r : Rec} {b : Bool} {sl sr v : Value} {j : Nat} (h : (ucs r.u)[j]? = some v) : (rcs N r b sl sr)[j]? = some v := by
  have hj : j < (ucs r.u).length := (List.getElem?_eq_some_iff.1 h).1
  have e : rcs N r b sl sr = ucs r.u ++ [.int .i64 (px N r.par), .bool b, sl, sr] := rfl
  rw [e, List.getElem?_append_left hj]
  exact h
theorem P_idxn {P : Program} {G : Fr} {ty t e b len c j : Nat} {x y : Operand} {k : IntKind} {i : TypeInfo} {sz : Nat} (hx : ev G x = .slice (some ⟨b, 0, none⟩) len c) (hq : ev G y = .int k (j : Int)) (ht : P.underlying t = some (.slice e)) (hi : P.info? e = some i) (hs : i.size = sz) (h1 : j < len) : Pu P G (.indexAddr t x y) ty (.pointer (some ⟨b, j * sz, none⟩)) := by
  have := P_idx (ty := ty) hx hq ht hi hs (by omega) (by omega)
  simpa using this
attribute [local irreducible] W Lst Qst Pu seqQ blkQ rndQ cutQ retQ Does Enters IntKind.wrap bits sb World.alloc World.putObj Blk
theorem c_rfind (k : Id) (hn : N.Nodup) (hu : ∀ j ∈ N, (ρ j).u.id = j) (hlen : N.length ≤ 1000000000) (h : RfAt w p F N ρ rt ord) : Does Tryz.prog 55 #[.pointer (some ⟨p, 0, none⟩), idv k] w fun v w' => v = .int .i64 (fx N k) ∧ Below w.heap.size w w' := by
  refine Does_of (args := [.pointer (some ⟨p, 0, none⟩), idv k]) Tryz.func55 (by kernel_rfl) rfl rfl rfl rfl rfl ?_
  have hbX : Below w.heap.size w (w.alloc (.cells (idcs k).toArray 40)) := Bel
  have kX : Blk (w.alloc (.cells (idcs k).toArray 40)) w.heap.size (idcs k) 40 := (by (repeat (first | assumption | (apply Blk.below (hb := hb1); rotate_left; (focus ((try simp only [Sx.sizes]); omega)); rotate_right) | (apply Blk.below (hb := hb2); rotate_left; (focus ((try simp only [Sx.sizes]); omega)); rotate_right) | (apply Blk.below (hb := hb3); rotate_left; (focus ((try simp only [Sx.sizes]); omega)); rotate_right) | (apply Blk.below (hb := hb4); rotate_left; (focus ((try simp only [Sx.sizes]); omega)); rotate_right) | (apply Blk.below (hb := hb5); rotate_left; (focus ((try simp only [Sx.sizes]); omega)); rotate_right) | (apply Blk.below (hb := hb6); rotate_left; (focus ((try simp only [Sx.sizes]); omega)); rotate_right) | (apply Blk.below (hb := hb7); rotate_left; (focus ((try simp only [Sx.sizes]); omega)); rotate_right) | (apply Blk.below (hb := hb8); rotate_left; (focus ((try simp only [Sx.sizes]); omega)); rotate_right) | (apply Blk.below (hb := hb9); rotate_left; (focus ((try simp only [Sx.sizes]); omega)); rotate_right) | exact Blk.newE (by first | rfl | ((try simp only [Sx.sizes]); first | done | omega)) _ _ | exact Blk.put_same (by (try simp only [Sx.sizes]); first | done | omega) _ _ | (apply Blk.put_ne; (focus omega)) | apply Blk.alloc | apply Blk.drew)); done)
  have hX := h.grown hbX
  unfold idcs at kX
  (refine Ga ?_)
  refine W_loop (α := Nat) (fun i => [(0, .pointer (some ⟨p, 0, none⟩)), (3, .pointer (some ⟨w.heap.size, 0, none⟩)), (5, .int .i64 (i : Int))]) (fun i A => i ≤ N.length ∧ k ∉ N.take i ∧ Grown (w.alloc (.cells (idcs k).toArray 40)) A) (fun i _ => N.length - i) 0 ⟨Nat.zero_le _, by simp, Below.refl _ _⟩ ⟨rfl, rfl, rfl, trivial⟩ ?_
  rintro J i A ⟨hi, hni, hbA⟩
  have hA := hX.grown hbA
  have kA := kX.below hbA kX.lt
  obtain ⟨a, c, a1, c1, a2, c2, hS, hc, _, _, _, hN⟩ := hA.view
  have ltp := hS.lt
  have ltA := kA.lt
  by_cases hil : i < N.length
  · obtain ⟨g, b, b1, d1, b2, d2, rfl, hcell, _⟩ := hN N[i] (List.getElem_mem hil)
    rw [idxOf_at hn hil, show (rcs N (ρ N[i]) b (.slice b1 (ρ N[i]).L.length d1) (.slice b2 (ρ N[i]).R.length d2)) = idcs (ρ N[i]).u.id ++ (rcs N (ρ N[i]) b (.slice b1 (ρ N[i]).L.length d1) (.slice b2 (ρ N[i]).R.length d2)).drop 2 from rfl, hu _ (List.getElem_mem hil)] at hcell
    have hc0 := hcell 0 _ rfl
    have hc1 := hcell 1 _ rfl
    clear hcell hN
    have hk : ∀ A', Grown A A' → ∀ (j : Nat) (v : Value), (idcs N[i])[j]? = some v → A'.cell? ⟨g, i * 10 + j, none⟩ = some v := fun A' hA' => cells2 (cell_below hA' hc0) (cell_below hA' hc1) rfl
    have htake : N.take (i + 1) = N.take i ++ [N[i]] := by rw [List.take_succ_eq_append_getElem hil]
    have hidx := idxOf_at hn hil
    generalize hx : N[i] = x at *
    by_cases hkx : x = k
    · subst hkx
      (refine Ga ?_)
      refine W_draws (Grown _) rfl (by kernel_rfl) (grown_start _) ?_
      (refine Qb ?_)
      apply Qst_pu
      · apply P_idxn (j := i)
        focus rfl
        focus rfl
        focus rfl
        focus rfl
        focus rfl
        focus exact hil
      focus rfl
      (refine Qb ?_)
      apply Qst_loadS (cs := idcs x)
      focus rfl
      focus rfl
      focus rfl
      focus rfl
      focus rfl
      focus exact hk
      focus rfl
      (refine Qb ?_)
      intro w9 hb9
      (refine Ga ?_)
      apply retQ1
      focus rfl
      refine ⟨congrArg (Value.int .i64) ?_, hbX.trans ((hbA.trans (hb9.mono hbA.size)).mono hbX.size)⟩
      unfold fx ix
      rw [if_pos (hx ▸ List.getElem_mem hil), hidx]
    · have hno : Eqv Tryz.prog 3 40 (idv x) (idv k) false := by
        have := id_eq x k
        rwa [decide_eq_false hkx] at this
      (refine Ga ?_)
      refine W_draws (Grown _) rfl (by kernel_rfl) (grown_start _) ?_
      (refine Qb ?_)
      apply Qst_pu
      · apply P_idxn (j := i)
        focus rfl
        focus rfl
        focus rfl
        focus rfl
        focus rfl
        focus exact hil
      focus rfl
      (refine Qb ?_)
      apply Qst_loadS (cs := idcs x)
      focus rfl
      focus rfl
      focus rfl
      focus rfl
      focus rfl
      focus exact hk
      focus rfl
      (refine Qb ?_)
      apply Qst_pu
      · apply P_eqA
        focus rfl
        focus rfl
        focus kernel_rfl
        focus exact hno
        focus rfl
      focus rfl
      (refine Qb ?_)
      intro w9 hb9
      (refine Ga ?_)
      refine rndQ_n (α := Nat) (i + 1) ⟨hil, ?_, hbA.trans (hb9.mono hbA.size)⟩ ⟨rfl, rfl, rfl, trivial⟩ (by omega)
      rw [htake, List.mem_append, List.mem_singleton]
      exact fun h => h.elim hni fun e => hkx e.symm
  · (refine Ga ?_)
    apply retQ1
    focus rfl
    obtain rfl : i = N.length := by omega
    rw [List.take_length] at hni
    exact ⟨congrArg (Value.int .i64) (if_neg hni).symm, hbX.trans (hbA.mono hbX.size)⟩
theorem c_place (k : Id) (hk : k ∈ N) (ho : ∀ j ∈ ord, j ∈ N) (hnd : ord.Nodup) (hlen : ord.length ≤ 1000000000) (h : RfAt w p F N ρ rt ord) : Does Tryz.prog 56 #[.pointer (some ⟨p, 0, none⟩), .int .i64 (ix N k)] w fun v w' => v = .int .i64 (findV ord ord k) ∧ w = w' := by
  refine Does_of (args := [.pointer (some ⟨p, 0, none⟩), .int .i64 (ix N k)]) Tryz.func56 (by kernel_rfl) rfl rfl rfl rfl rfl ?_
  (refine Ga ?_)
  refine W_loop (α := Nat) (fun i => [(0, .pointer (some ⟨p, 0, none⟩)), (1, .int .i64 (ix N k)), (5, .int .i64 (i : Int))]) (fun i A => i ≤ ord.length ∧ k ∉ ord.take i ∧ w = A) (fun i _ => ord.length - i) 0 ⟨Nat.zero_le _, by simp, rfl⟩ ⟨rfl, rfl, rfl, trivial⟩ ?_
  rintro J i A ⟨hi, hni, rfl⟩
  obtain ⟨a, c, a1, c1, a2, c2, hS, hc, _, _, hO, hN⟩ := h.view
  have ltp := hS.lt
  by_cases hil : i < ord.length
  · obtain ⟨g, off, rfl, hcell⟩ := hO.at hil
    rw [ix_map_at hil] at hcell
    have htake : ord.take (i + 1) = ord.take i ++ [ord[i]] := by rw [List.take_succ_eq_append_getElem hil]
    have hidx := idxOf_at hnd hil
    have hxN := ho _ (List.getElem_mem hil)
    generalize hx : ord[i] = x at *
    by_cases hkx : x = k
    · subst hkx
      (refine Ga ?_)
      apply retQ1
      focus rfl
      refine ⟨congrArg (Value.int .i64) ?_, rfl⟩
      unfold findV
      rw [if_pos (hx ▸ List.getElem_mem hil), hidx]
    · have hne : ix N x ≠ ix N k := fun e => hkx (ix_inj hxN hk e)
      (refine Ga ?_)
      refine rndQ_n (α := Nat) (i + 1) ⟨hil, ?_, rfl⟩ ⟨rfl, rfl, rfl, trivial⟩ (by omega)
      rw [htake, List.mem_append, List.mem_singleton]
      exact fun h => h.elim hni fun e => hkx e.symm
  · (refine Ga ?_)
    apply retQ1
    focus rfl
    obtain rfl : i = ord.length := by omega
    rw [List.take_length] at hni
    exact ⟨congrArg (Value.int .i64) (if_neg hni).symm, rfl⟩
theorem c_rFind (k : Id) (hn : N.Nodup) (hu : ∀ j ∈ N, (ρ j).u.id = j) (hlN : N.length ≤ 1000000000) (ho : ∀ j ∈ ord, j ∈ N) (hnd : ord.Nodup) (hlen : ord.length ≤ 1000000000) (h : RfAt w p F N ρ rt ord) : Does Tryz.prog 84 #[.pointer (some ⟨p, 0, none⟩), idv k] w fun v w' => v = .int .i64 (findV ord ord k) ∧ Below w.heap.size w w' := by
  refine Does_of (args := [.pointer (some ⟨p, 0, none⟩), idv k]) Tryz.func84 (by kernel_rfl) rfl rfl rfl rfl rfl ?_
  have hbX : Below w.heap.size w (w.alloc (.cells (idcs k).toArray 40)) := Bel
  have kX : Blk (w.alloc (.cells (idcs k).toArray 40)) w.heap.size (idcs k) 40 := (by (repeat (first | assumption | (apply Blk.below (hb := hb1); rotate_left; (focus ((try simp only [Sx.sizes]); omega)); rotate_right) | (apply Blk.below (hb := hb2); rotate_left; (focus ((try simp only [Sx.sizes]); omega)); rotate_right) | (apply Blk.below (hb := hb3); rotate_left; (focus ((try simp only [Sx.sizes]); omega)); rotate_right) | (apply Blk.below (hb := hb4); rotate_left; (focus ((try simp only [Sx.sizes]); omega)); rotate_right) | (apply Blk.below (hb := hb5); rotate_left; (focus ((try simp only [Sx.sizes]); omega)); rotate_right) | (apply Blk.below (hb := hb6); rotate_left; (focus ((try simp only [Sx.sizes]); omega)); rotate_right) | (apply Blk.below (hb := hb7); rotate_left; (focus ((try simp only [Sx.sizes]); omega)); rotate_right) | (apply Blk.below (hb := hb8); rotate_left; (focus ((try simp only [Sx.sizes]); omega)); rotate_right) | (apply Blk.below (hb := hb9); rotate_left; (focus ((try simp only [Sx.sizes]); omega)); rotate_right) | exact Blk.newE (by first | rfl | ((try simp only [Sx.sizes]); first | done | omega)) _ _ | exact Blk.put_same (by (try simp only [Sx.sizes]); first | done | omega) _ _ | (apply Blk.put_ne; (focus omega)) | apply Blk.alloc | apply Blk.drew)); done)
  have hX := h.grown hbX
  unfold idcs at kX
  (refine Ga ?_)
  (apply Lst_call; (focus rfl); (focus rfl))
  refine (c_rfind k hn hu hlN hX).mono ?_
  rintro v w2 ⟨rfl, hb2⟩
  have h2 := hX.grown hb2
  have b2 := hbX.trans (hb2.mono hbX.size)
  by_cases hk : k ∈ N
  · have hf : fx N k = ix N k := if_pos hk
    have h0 : 0 ≤ ix N k := by unfold ix; omega
    rw [hf]
    (refine Ga ?_)
    (apply Lst_call; (focus rfl); (focus rfl))
    refine (c_place k hk ho hnd hlen h2).mono ?_
    rintro v w3 ⟨rfl, rfl⟩
    (refine Ga ?_)
    apply retQ1
    focus rfl
    exact ⟨rfl, b2⟩
  · have hf : fx N k = -1 := if_neg hk
    rw [hf]
    (refine Ga ?_)
    apply retQ1
    focus rfl
    exact ⟨congrArg (Value.int .i64) (if_neg fun hm => hk (ho k hm)).symm, b2⟩
theorem c_rLen (h : RfAt w p F N ρ rt ord) : Does Tryz.prog 11 #[.pointer (some ⟨p, 0, none⟩)] w fun v w' => v = .int .i64 (ord.length : Int) ∧ w = w' := by
  refine Does_of (args := [.pointer (some ⟨p, 0, none⟩)]) Tryz.func11 (by kernel_rfl) rfl rfl rfl rfl rfl ?_
  obtain ⟨a, c, a1, c1, a2, c2, hS, hc, _, _, hO, hN⟩ := h.view
  have ltp := hS.lt
  (refine Ga ?_)
  apply retQ1
  focus rfl
  exact ⟨rfl, rfl⟩
theorem c_rAt (i : Int) (ho : ∀ j ∈ ord, j ∈ N) (h : RfAt w p F N ρ rt ord) : Does Tryz.prog 17 #[.pointer (some ⟨p, 0, none⟩), .int .i64 i] w fun v w' =>
    (v = if 0 ≤ i ∧ i < ord.length then .tuple #[.agg (ucs (ρ (ord.getD i.toNat (0, 0))).u).toArray, .bool true] else .tuple #[.agg (ucs ⟨(0, 0), (0, 0), (0, 0)⟩).toArray, .bool false]) ∧ Below w.heap.size w w' := by
  refine Does_of (args := [.pointer (some ⟨p, 0, none⟩), .int .i64 i]) Tryz.func17 (by kernel_rfl) rfl rfl rfl rfl rfl ?_
  (refine Ga ?_)
  have hbX : Below w.heap.size w (w.alloc (.cells [.int .u64 0, .int .u64 0, .int .u64 0, .int .u64 0, .int .u64 0, .int .u64 0].toArray 52)) := Bel
  have kX : Blk (w.alloc (.cells [.int .u64 0, .int .u64 0, .int .u64 0, .int .u64 0, .int .u64 0, .int .u64 0].toArray 52)) w.heap.size [.int .u64 0, .int .u64 0, .int .u64 0, .int .u64 0, .int .u64 0, .int .u64 0] 52 := (by (repeat (first | assumption | (apply Blk.below (hb := hb1); rotate_left; (focus ((try simp only [Sx.sizes]); omega)); rotate_right) | (apply Blk.below (hb := hb2); rotate_left; (focus ((try simp only [Sx.sizes]); omega)); rotate_right) | (apply Blk.below (hb := hb3); rotate_left; (focus ((try simp only [Sx.sizes]); omega)); rotate_right) | (apply Blk.below (hb := hb4); rotate_left; (focus ((try simp only [Sx.sizes]); omega)); rotate_right) | (apply Blk.below (hb := hb5); rotate_left; (focus ((try simp only [Sx.sizes]); omega)); rotate_right) | (apply Blk.below (hb := hb6); rotate_left; (focus ((try simp only [Sx.sizes]); omega)); rotate_right) | (apply Blk.below (hb := hb7); rotate_left; (focus ((try simp only [Sx.sizes]); omega)); rotate_right) | (apply Blk.below (hb := hb8); rotate_left; (focus ((try simp only [Sx.sizes]); omega)); rotate_right) | (apply Blk.below (hb := hb9); rotate_left; (focus ((try simp only [Sx.sizes]); omega)); rotate_right) | exact Blk.newE (by first | rfl | ((try simp only [Sx.sizes]); first | done | omega)) _ _ | exact Blk.put_same (by (try simp only [Sx.sizes]); first | done | omega) _ _ | (apply Blk.put_ne; (focus omega)) | apply Blk.alloc | apply Blk.drew)); done)
  have hX := h.grown hbX
  generalize w.alloc (.cells [.int .u64 0, .int .u64 0, .int .u64 0, .int .u64 0, .int .u64 0, .int .u64 0].toArray 52) = X at *
  obtain ⟨a, c, a1, c1, a2, c2, hS, hc, _, _, hO, hN⟩ := hX.view
  have ltp := hS.lt
  have hlx := kX.lt
  have bw : Below w.heap.size w (X.putObj w.heap.size (.cells [.int .u64 0, .int .u64 0, .int .u64 0, .int .u64 0, .int .u64 0, .int .u64 0].toArray 52)) := Bel
  by_cases h0 : i < 0
  · rw [if_neg (by omega)]
    (refine Ga ?_)
    (refine Retat ?_)
    exact ⟨rfl, bw⟩
  · obtain ⟨n, rfl⟩ : ∃ n : Nat, i = n := ⟨i.toNat, by omega⟩
    rw [Int.toNat_natCast]
    by_cases hi : n < ord.length
    · rw [if_pos ⟨by omega, by omega⟩]
      obtain ⟨g2, off, rfl, hco⟩ := hO.at hi
      rw [ix_map_at hi] at hco
      have hxN := ho _ (List.getElem_mem hi)
      have hlt := List.idxOf_lt_length_iff.2 hxN
      rw [List.getD_eq_getElem?_getD, List.getElem?_eq_getElem hi, Option.getD_some]
      obtain ⟨g, b, b1, d1, b2, d2, rfl, hcell, _⟩ := hN _ hxN
      generalize hx : ord[n] = x at *
      have hu : ∀ A', Grown X A' → ∀ (j : Nat) (v : Value), (ucs (ρ x).u)[j]? = some v → A'.cell? ⟨g, N.idxOf x * 10 + j, none⟩ = some v := fun A' hA' j v hv => cell_below hA' (hcell j v (rcs_u hv))
      have hlg := cell_lt (hcell 0 _ rfl)
      (refine Ga ?_)
      refine W_draw 14 (Grown X) rfl (by kernel_rfl) (grown_start X) ?_
      (refine Qb ?_)
      apply Qst_loadc
      focus rfl
      focus rfl
      focus rfl
      focus exact fun A9 hA9 => cell_below hA9 hco
      focus rfl
      (refine Qb ?_)
      apply Qst_pu
      · apply P_idxn (j := N.idxOf x)
        focus rfl
        focus rfl
        focus rfl
        focus rfl
        focus rfl
        focus exact hlt
      focus rfl
      (refine Qb ?_)
      apply Qst_loadS (cs := ucs (ρ x).u)
      focus rfl
      focus rfl
      focus rfl
      focus rfl
      focus rfl
      focus exact hu
      focus rfl
      (refine Qb ?_)
      intro w8 hb8
      have k8 := kX.below hb8 kX.lt
      have l8 := k8.lt
      have b8 := hbX.trans (hb8.mono hbX.size)
      have bu : Below w.heap.size w (w8.putObj w.heap.size (.cells (ucs (ρ x).u).toArray 52)) := Bel
      unfold ucs at *
      (refine Ga ?_)
      (refine Retat ?_)
      exact ⟨rfl, bu⟩
    · rw [if_neg (by omega)]
      (refine Ga ?_)
      (refine Retat ?_)
      exact ⟨rfl, bw⟩
end Sq
namespace Sq
open Go Go.RowKit Sx Tl
variable {w : World} {p : Nat} {F : Nat → Prop} {N rt ord : List Id} {ρ : Id → Rec}
def rfar (ord : List Id) (u : Un) : Int := if u.r = Fo.none' then (ord.length : Int) + 1 else findV ord ord u.r
def fartherV (ord : List Id) (a b : Un) : Bool := if rfar ord a = rfar ord b then Fo.lt a.id b.id else decide (rfar ord b < rfar ord a)
theorem rcs_sub {N : List Id} {r : Rec} {b : Bool} {sl sr : Value} {w : World} {g o : Nat} (h : ∀ j u, (rcs N r b sl sr)[j]? = some u → w.cell? ⟨g, o + j, none⟩ = some u) : (∀ A, Grown w A → ∀ j u, (idcs r.u.id)[j]? = some u → A.cell? ⟨g, o + j, none⟩ = some u) ∧ (∀ A, Grown w A → ∀ j u, (idcs r.u.l)[j]? = some u → A.cell? ⟨g, o + 2 + j, none⟩ = some u) ∧ (∀ A, Grown w A → ∀ j u, (idcs r.u.r)[j]? = some u → A.cell? ⟨g, o + 4 + j, none⟩ = some u) :=
  ⟨fun _ hA => cells2 (cell_below hA (h 0 _ rfl)) (cell_below hA (h 1 _ rfl)) rfl, fun _ hA => cells2 (cell_below hA (h 2 _ rfl)) (cell_below hA (h 3 _ rfl)) rfl, fun _ hA => cells2 (cell_below hA (h 4 _ rfl)) (cell_below hA (h 5 _ rfl)) rfl⟩
theorem r_Less (a b : Id) (w : World) : Does Tryz.prog 57 #[idv a, idv b] w fun v w' => v = .bool (Fo.lt a b) ∧ Below w.heap.size w w' :=
  (Ids.c_RLess a.1 a.2 b.1 b.2 w).mono fun v w' h => ⟨h.1.trans (congrArg Value.bool (by
    unfold Fo.lt
    rw [Bool.eq_iff_iff]
    simp
    omega)), h.2⟩
theorem r_Right (k : Id) (w : World) : Does Tryz.prog 45 #[idv k] w fun v w' => v = .bool (Fo.rightId k) ∧ Below w.heap.size w w' :=
  (Ids.c_RRight k.1 k.2 w).mono fun v w' h => ⟨h.1.trans (congrArg Value.bool (by
    unfold Fo.rightId Fo.num
    rw [Bool.eq_iff_iff]
    simp
    omega)), h.2⟩
attribute [local irreducible] W Lst Qst Pu seqQ blkQ rndQ cutQ retQ Does Enters IntKind.wrap bits sb World.alloc World.putObj Blk
theorem c_farther (a b : Id) (ha : a ∈ N) (hb : b ∈ N) (hn : N.Nodup) (hu : ∀ j ∈ N, (ρ j).u.id = j) (hlN : N.length ≤ 1000000000) (ho : ∀ j ∈ ord, j ∈ N) (hnd : ord.Nodup) (hlen : ord.length ≤ 1000000000) (h : RfAt w p F N ρ rt ord) :
    Does Tryz.prog 78 #[.pointer (some ⟨p, 0, none⟩), .int .i64 (ix N a), .int .i64 (ix N b)] w fun v w' => v = .bool (fartherV ord (ρ a).u (ρ b).u) ∧ Below w.heap.size w w' := by
  refine Does_of (args := [.pointer (some ⟨p, 0, none⟩), .int .i64 (ix N a), .int .i64 (ix N b)]) Tryz.func78 (by kernel_rfl) rfl rfl rfl rfl rfl ?_
  obtain ⟨va, c, a1, c1, a2, c2, hS, hc, _, _, hO, hN⟩ := h.view
  obtain ⟨g, ab, ab1, ad1, ab2, ad2, rfl, hca, _⟩ := hN a ha
  obtain ⟨g', bb, bb1, bd1, bb2, bd2, hge, hcb, _⟩ := hN b hb
  cases hge
  have hfa := findV_le (D := ord) hlen (ρ a).u.r
  have hfb := findV_le (D := ord) hlen (ρ b).u.r
  have hla := List.idxOf_lt_length_iff.2 ha
  have hlb := List.idxOf_lt_length_iff.2 hb
  have ltp := hS.lt
  unfold ix
  (refine Ga ?_)
  refine W_draws (Grown _) rfl (by kernel_rfl) (grown_start _) ?_
  (refine Qb ?_)
  intro w1 hb1
  apply seqQ_n
  apply W_seq
  refine W_cutS (α := Unit) (fun _ => [(0, .pointer (some ⟨p, 0, none⟩)), (1, .int .i64 (N.idxOf a : Int)), (2, .int .i64 (N.idxOf b : Int)), (7, .int .i64 (rfar ord (ρ a).u)), (8, .int .i64 ((ord.length : Int) + 1))]) (fun _ A => Grown w A) ?_ ?_
  · obtain ⟨A, rfl⟩ : ∃ A, A = w1 := ⟨_, rfl⟩
    have hbA : Grown w A := hb1
    have hS1 := hS.below hbA hS.lt
    have hlp1 := hS1.lt
    have hA := h.grown hbA
    (refine Ga ?_)
    apply Lst_pu
    · apply P_idxn (j := N.idxOf a)
      focus rfl
      focus rfl
      focus rfl
      focus rfl
      focus rfl
      focus exact hla
    focus rfl
    (refine Ga ?_)
    apply Lst_loadS' (cs := [.int .u64 ((ρ a).u.r.1 : Int), .int .u64 ((ρ a).u.r.2 : Int)])
    focus rfl
    focus rfl
    focus rfl
    focus rfl
    focus rfl
    focus exact (rcs_sub hca).2.2 A hbA
    focus rfl
    (refine Ga ?_)
    have hbX : Below A.heap.size A ((A.alloc (.cells [.int .u64 0, .int .u64 0].toArray 40)).putObj A.heap.size (.cells [.int .u64 ((ρ a).u.r.1 : Int), .int .u64 ((ρ a).u.r.2 : Int)].toArray 40)) := Bel
    have hX := hA.grown hbX
    have bX := hbA.trans (hbX.mono hbA.size)
    by_cases hr : (ρ a).u.r = Fo.none'
    · have e0 : rfar ord (ρ a).u = (ord.length : Int) + 1 := if_pos hr
      have hid : Eqv Tryz.prog 3 40 (idv (ρ a).u.r) (idv (0, 0)) true := by
        have := id_eq (ρ a).u.r (0, 0)
        rwa [decide_eq_true (show (ρ a).u.r = (0, 0) from hr)] at this
      apply Lst_pu
      · apply P_neA
        focus rfl
        focus rfl
        focus kernel_rfl
        focus exact hid
        focus rfl
      focus rfl
      (refine Ga ?_)
      exact cutQ_n () bX ⟨rfl, rfl, rfl, congrArg (Value.int .i64) e0.symm, rfl, trivial⟩
    · have e0 : rfar ord (ρ a).u = findV ord ord (ρ a).u.r := if_neg hr
      have hid : Eqv Tryz.prog 3 40 (idv (ρ a).u.r) (idv (0, 0)) false := by
        have := id_eq (ρ a).u.r (0, 0)
        rwa [decide_eq_false (show ¬ (ρ a).u.r = (0, 0) from hr)] at this
      apply Lst_pu
      · apply P_neA
        focus rfl
        focus rfl
        focus kernel_rfl
        focus exact hid
        focus rfl
      focus rfl
      (refine Ga ?_)
      (apply Lst_call; (focus rfl); (focus rfl))
      refine (c_rFind (ρ a).u.r hn hu hlN ho hnd hlen hX).mono ?_
      rintro v w2 ⟨rfl, hb2⟩
      (refine Ga ?_)
      exact cutQ_n () (bX.trans (hb2.mono bX.size)) ⟨rfl, rfl, rfl, congrArg (Value.int .i64) e0.symm, rfl, trivial⟩
  · intro J _ A0 hbA0
    apply W_seq
    refine W_cutS (α := Unit) (fun _ => [(0, .pointer (some ⟨p, 0, none⟩)), (1, .int .i64 (N.idxOf a : Int)), (2, .int .i64 (N.idxOf b : Int)), (7, .int .i64 (rfar ord (ρ a).u)), (8, .int .i64 (rfar ord (ρ b).u))]) (fun _ A => Grown w A) ?_ ?_
    · obtain ⟨A, hAe⟩ : ∃ A, A0 = A := ⟨_, rfl⟩
      rw [hAe] at hbA0 ⊢
      have hbA := hbA0
      have hS1 := hS.below hbA hS.lt
      have hlp1 := hS1.lt
      have hA := h.grown hbA
      (refine Ga ?_)
      apply Lst_pu
      · apply P_idxn (j := N.idxOf b)
        focus rfl
        focus rfl
        focus rfl
        focus rfl
        focus rfl
        focus exact hlb
      focus rfl
      (refine Ga ?_)
      apply Lst_loadS' (cs := [.int .u64 ((ρ b).u.r.1 : Int), .int .u64 ((ρ b).u.r.2 : Int)])
      focus rfl
      focus rfl
      focus rfl
      focus rfl
      focus rfl
      focus exact (rcs_sub hcb).2.2 A hbA
      focus rfl
      (refine Ga ?_)
      have hbX : Below A.heap.size A ((A.alloc (.cells [.int .u64 0, .int .u64 0].toArray 40)).putObj A.heap.size (.cells [.int .u64 ((ρ b).u.r.1 : Int), .int .u64 ((ρ b).u.r.2 : Int)].toArray 40)) := Bel
      have hX := hA.grown hbX
      have bX := hbA.trans (hbX.mono hbA.size)
      by_cases hr : (ρ b).u.r = Fo.none'
      · have e0 : rfar ord (ρ b).u = (ord.length : Int) + 1 := if_pos hr
        have hid : Eqv Tryz.prog 3 40 (idv (ρ b).u.r) (idv (0, 0)) true := by
          have := id_eq (ρ b).u.r (0, 0)
          rwa [decide_eq_true (show (ρ b).u.r = (0, 0) from hr)] at this
        apply Lst_pu
        · apply P_neA
          focus rfl
          focus rfl
          focus kernel_rfl
          focus exact hid
          focus rfl
        focus rfl
        (refine Ga ?_)
        exact cutQ_n () bX ⟨rfl, rfl, rfl, rfl, congrArg (Value.int .i64) e0.symm, trivial⟩
      · have e0 : rfar ord (ρ b).u = findV ord ord (ρ b).u.r := if_neg hr
        have hid : Eqv Tryz.prog 3 40 (idv (ρ b).u.r) (idv (0, 0)) false := by
          have := id_eq (ρ b).u.r (0, 0)
          rwa [decide_eq_false (show ¬ (ρ b).u.r = (0, 0) from hr)] at this
        apply Lst_pu
        · apply P_neA
          focus rfl
          focus rfl
          focus kernel_rfl
          focus exact hid
          focus rfl
        focus rfl
        (refine Ga ?_)
        (apply Lst_call; (focus rfl); (focus rfl))
        refine (c_rFind (ρ b).u.r hn hu hlN ho hnd hlen hX).mono ?_
        rintro v w2 ⟨rfl, hb2⟩
        (refine Ga ?_)
        exact cutQ_n () (bX.trans (hb2.mono bX.size)) ⟨rfl, rfl, rfl, rfl, congrArg (Value.int .i64) e0.symm, trivial⟩
    · intro J _ A hbA
      have hS1 := hS.below hbA hS.lt
      have hlp1 := hS1.lt
      by_cases hxy : rfar ord (ρ a).u = rfar ord (ρ b).u
      · have e0 : fartherV ord (ρ a).u (ρ b).u = Fo.lt (ρ a).u.id (ρ b).u.id := if_pos hxy
        (refine Ga ?_)
        refine W_draw 18 (Grown A) rfl (by kernel_rfl) (grown_start A) ?_
        (refine Qb ?_)
        apply Qst_pu
        · apply P_idxn (j := N.idxOf a)
          focus rfl
          focus rfl
          focus rfl
          focus rfl
          focus rfl
          focus exact hla
        focus rfl
        (refine Qb ?_)
        apply Qst_loadS (cs := idcs (ρ a).u.id)
        focus rfl
        focus rfl
        focus rfl
        focus rfl
        focus rfl
        focus exact fun A9 hA9 => (rcs_sub hca).1 A9 (hbA.trans (hA9.mono hbA.size))
        focus rfl
        (refine Qb ?_)
        apply Qst_pu
        · apply P_idxn (j := N.idxOf b)
          focus rfl
          focus rfl
          focus rfl
          focus rfl
          focus rfl
          focus exact hlb
        focus rfl
        (refine Qb ?_)
        apply Qst_loadS (cs := idcs (ρ b).u.id)
        focus rfl
        focus rfl
        focus rfl
        focus rfl
        focus rfl
        focus exact fun A9 hA9 => (rcs_sub hcb).1 A9 (hbA.trans (hA9.mono hbA.size))
        focus rfl
        (refine Qb ?_)
        intro w2 hb2
        (refine Ga ?_)
        (apply Lst_call; (focus rfl); (focus rfl))
        refine (r_Less (ρ a).u.id (ρ b).u.id w2).mono ?_
        rintro v w3 ⟨rfl, hb3⟩
        (refine Ga ?_)
        apply retQ1
        focus rfl
        exact ⟨congrArg Value.bool e0.symm, hbA.trans ((hb2.trans (hb3.mono hb2.size)).mono hbA.size)⟩
      · by_cases hlt : rfar ord (ρ b).u < rfar ord (ρ a).u
        · have e0 : fartherV ord (ρ a).u (ρ b).u = true := (if_neg hxy).trans (decide_eq_true hlt)
          (refine Ga ?_)
          apply retQ1
          focus rfl
          exact ⟨congrArg Value.bool e0.symm, hbA⟩
        · have e0 : fartherV ord (ρ a).u (ρ b).u = false := (if_neg hxy).trans (decide_eq_false hlt)
          (refine Ga ?_)
          apply retQ1
          focus rfl
          exact ⟨congrArg Value.bool e0.symm, hbA⟩
end Sq
namespace Sq
open Go Go.RowKit Sx Tl
/-- A row of numbers of one's own. -/
def OwnZ (B : Nat) (w : World) (v : Value) (zs : List Int) : Prop := w.ownsRow B 3 1 v zs.length (zs.map (Value.int .i64))
theorem OwnZ.nil (B : Nat) (w : World) : OwnZ B w (.slice none 0 0) [] := ⟨rfl, .inl ⟨rfl, rfl⟩⟩
section rules
variable {P : Program} {rd : Option Nat} {n : Nat} {ops : Array Oper} {Q : Post} {rest : List Oper} {F : Fr} {ds : List Deferred} {w : World} {ty : TypeId} {pos : String} {after : Array Edge}
theorem Lst_appendZ {d : Nat} {s x : Operand} {t B : Nat} {i : TypeInfo} {z v y : Value} {l k : List Int} (hown : OwnZ B w v l) (hs : ev F s = v) (hx : ev F x = y) (hy : Ints w .i64 y k) (ht : P.underlying t = some (.slice 3)) (hi : P.info? 3 = some i) (hz : i.zero = some z)
    (hsize : i.size = 1) (hby : i.bytes = 8) (hzs : z.cells.size = 1) (hlen : l.length + k.length ≤ 10000000000) (hbase : B ≤ w.heap.size) (hd : Nat.blt d n = true)
    (h : ∀ v' w', OwnZ B w' v' (l ++ k) → w.grownBy w' v.ownBlock → Lst P rd n ops Q rest (upd F d v') ds w') :
    Lst P rd n ops Q (⟨some d, .call { callee := .builtin .append, args := #[s, x], argTypes := #[t, t] }, ty, pos, after, none⟩ :: rest) F ds w := by
  obtain ⟨g, off, cap, h1, h2, h3⟩ := hy
  rcases h1 with rfl | ⟨⟨a0, rfl⟩, hk⟩
  · refine Lst_append (news := k.map (Value.int .i64)) hs hx ht hi hz hsize hby hzs rfl hown ?_ (by rw [List.length_map]; omega) (fun u hu => by obtain ⟨q, _, rfl⟩ := List.mem_map.1 hu; rfl) (by omega) (by omega) hbase hd ?_
    · intro j u hu
      have hj : j < k.length := by
        have := (List.getElem?_eq_some_iff.1 hu).1
        simpa using this
      rw [h3 j hj]
      rw [List.getElem?_map, List.getElem?_eq_getElem hj] at hu
      rw [← Option.some.inj hu]
    · intro v' w' ho hg _
      refine h v' w' ?_ hg
      unfold OwnZ
      rw [List.length_append, List.map_append]
      exact ho
  · obtain rfl : k = [] := hk
    cases a0 with
    | none =>
      have hrun := run_append_owned_none (P := P) (w := w) B t ty _ i 1 ht hi v l.length (l.map (Value.int .i64)) hown
      refine Lst_value (v := v) (w' := w) rfl ?_ hd (h v w (by rw [List.append_nil]; exact hown) ⟨rfl, rfl, rfl, Nat.le_refl _, fun _ _ _ => rfl⟩)
      simp [execOp, resolve, invoke, builtin, hs, hx, hrun]
    | some a0 => exact Lst_append0 hs hx ht hi hz hsize hby hzs rfl hown (by simp at hlen; omega) (by simp at hlen; omega) hbase hd fun v' w' ho hg => h v' w' (by rw [List.append_nil]; exact ho) hg
end rules
theorem OwnZ.up {B : Nat} {w w' : World} {v : Value} {zs : List Int} (h : OwnZ B w v zs) (hb : Below w.heap.size w w') : OwnZ B w' v zs := own_below h hb (Nat.le_refl _)
theorem lit_ints (n : Int) (w : World) : Ints (w.alloc (.cells [.int .i64 n].toArray 3)) .i64 (.slice (some ⟨w.heap.size, 0, none⟩) 1 1) [n] :=
  ⟨w.heap.size, 0, 1, .inl rfl, fun _ => by rw [World.size_alloc]; omega, fun j hj => by
    have hj' : j < 1 := hj
    obtain rfl : j = 0 := by omega
    exact (Blk.new w _ _).cell (0 + 0)⟩
variable {w : World} {p : Nat} {F : Nat → Prop} {N rt ord : List Id} {ρ : Id → Rec}
section
attribute [local irreducible] RnS
attribute [local irreducible] W Lst Qst Pu seqQ blkQ rndQ cutQ retQ Does Enters IntKind.wrap bits sb World.alloc World.putObj Blk
attribute [local irreducible] Rn Tk rnQ
theorem c_within (at' : Nat) (n : Int) (a : Option Addr) (c : Nat) (zs : List Int) (ha : at' ≤ zs.length) (hc : zs.length ≤ c) (hl : zs.length ≤ 1000000000) (w : World) (h : Ints w .i64 (.slice a zs.length c) zs) :
    Does Tryz.prog 58 #[.slice a zs.length c, .int .i64 (at' : Int), .int .i64 n] w fun v w' => OwnZ w.heap.size w' v (zs.take at' ++ n :: zs.drop at') ∧ Below w.heap.size w w' := by
  refine Does_of (args := [.slice a zs.length c, .int .i64 (at' : Int), .int .i64 n]) Tryz.func58 (by kernel_rfl) rfl rfl rfl rfl rfl ?_
  have hs1 : Ints w .i64 (sliced a 0 (at' : Int).toNat c 1) (zs.take at') := by
    have := h.sub hc (Nat.zero_le at') ha
    simpa using this
  have hs2 : Ints w .i64 (sliced a (at' : Int).toNat zs.length c 1) (zs.drop at') := by
    have := h.sub hc ha (Nat.le_refl _)
    rw [List.take_length] at this
    simpa using this
  (refine Ga ?_)
  apply Lst_appendZ (hown := OwnZ.nil w.heap.size w) (hy := hs1)
  focus rfl
  focus rfl
  focus rfl
  focus rfl
  focus rfl
  focus rfl
  focus rfl
  focus rfl
  focus (rw [List.length_nil, List.length_take]; omega)
  focus exact Nat.le_refl _
  focus rfl
  intro v1 w1 ho hg
  have hb1 := Below.own (Below.refl w.heap.size w) (OwnZ.nil w.heap.size w) hg (Nat.le_refl _) (Nat.le_refl _)
  rw [List.nil_append] at ho
  obtain ⟨x1, x2, x3, rfl⟩ := own_slice ho
  (refine Ga ?_)
  refine W_drawS 9 (fun _ => True) rfl rfl ?_
  refine S_takeV 0 8 rfl (by kernel_rfl) (by repeat (first | exact retQ_p | apply seqQ_p | apply blkQ_p | apply rndQ_p | apply cutQ_p)) trivial ?_
  (refine Qb ?_)
  refine S_takeV 1 7 rfl (by kernel_rfl) (by repeat (first | exact retQ_p | apply seqQ_p | apply blkQ_p | apply rndQ_p | apply cutQ_p)) trivial ?_
  (refine Qb ?_)
  refine S_takeV 4 6 rfl (by kernel_rfl) (by repeat (first | exact retQ_p | apply seqQ_p | apply blkQ_p | apply rndQ_p | apply cutQ_p)) trivial ?_
  (refine Qb ?_)
  refine S_takeV 5 5 rfl (by kernel_rfl) (by repeat (first | exact retQ_p | apply seqQ_p | apply blkQ_p | apply rndQ_p | apply cutQ_p)) trivial ?_
  (refine Qb ?_)
  refine S_takeV 6 4 rfl (by kernel_rfl) (by repeat (first | exact retQ_p | apply seqQ_p | apply blkQ_p | apply rndQ_p | apply cutQ_p)) trivial ?_
  apply Qst_pu
  · apply P_lslice_lo (n' := zs.length)
    focus rfl
    focus rfl
    focus rfl
    focus rfl
    focus rfl
    focus omega
    focus omega
  focus rfl
  (refine Qb ?_)
  refine S_any [2] 3 rfl (by kernel_rfl) (all1 ?_)
  (apply Lst_lit1; (focus constructor); (focus rfl); (focus rfl); (focus rfl); (focus rfl); (focus rfl); (focus rfl); (focus rfl); (focus rfl); (focus ((try simp only [Sx.sizes]); first | done | rfl)); (focus rfl))
  apply Lst_nil
  apply rnQ_n
  refine ⟨trivial, ?_⟩
  refine S_any [3] 2 rfl (by kernel_rfl) (all1 ?_)
  apply Lst_appendZ (hown := own_alloc (own_drew ho) (.cells [.int .i64 n].toArray 3)) (hy := lit_ints n w1.drew)
  focus rfl
  focus rfl
  focus rfl
  focus rfl
  focus rfl
  focus rfl
  focus rfl
  focus rfl
  focus (rw [List.length_take]; show _ + 1 ≤ _; omega)
  focus (simp only [Sx.sizes]; have := hb1.size; omega)
  focus rfl
  intro v2 w2 ho2 hg2
  have hb2 : Below w.heap.size w w2 := Below.own (Below.alloc (Below.drew hb1) (by simp only [Sx.sizes]; exact hb1.size) _) (own_alloc (own_drew ho) (.cells [.int .i64 n].toArray 3)) hg2 (Nat.le_refl _) (by simp only [Sx.sizes]; have := hb1.size; omega)
  obtain ⟨y1, y2, y3, rfl⟩ := own_slice ho2
  apply Lst_nil
  apply rnQ_n
  refine ⟨trivial, ?_⟩
  refine S_any [7] 1 rfl (by kernel_rfl) (all1 ?_)
  apply Lst_appendZ (hown := ho2) (hy := hs2.below hb2 (Nat.le_refl _))
  focus rfl
  focus rfl
  focus rfl
  focus rfl
  focus rfl
  focus rfl
  focus rfl
  focus rfl
  focus (rw [List.length_append, List.length_take, List.length_drop]; show _ + 1 + _ ≤ _; omega)
  focus exact hb2.size
  focus rfl
  intro v3 w3 ho3 hg3
  have hb3 : Below w.heap.size w w3 := Below.own hb2 ho2 hg3 (Nat.le_refl _) hb2.size
  obtain ⟨z1, z2, z3, rfl⟩ := own_slice ho3
  apply Lst_nil
  apply rnQ_n
  refine ⟨trivial, ?_⟩
  refine S_takeV 8 0 rfl (by kernel_rfl) (by repeat (first | exact retQ_p | apply seqQ_p | apply blkQ_p | apply rndQ_p | apply cutQ_p)) trivial ?_
  (refine Qb ?_)
  refine S_done (by kernel_rfl) ?_
  (refine Ga ?_)
  apply retQ1
  focus rfl
  refine ⟨?_, hb3⟩
  rw [List.append_assoc] at ho3
  exact ho3
theorem OwnZ.base {B B' : Nat} {w : World} {v : Value} {zs : List Int} (h : OwnZ B w v zs) (hB : B' ≤ B) : OwnZ B' w v zs := by
  refine ⟨h.1, ?_⟩
  rcases h.2 with h1 | ⟨g, cap, cur, h1, h2, h3⟩
  · exact .inl h1
  · exact .inr ⟨g, cap, cur, h1, Nat.le_trans hB h2, h3⟩
theorem c_among (m : Id) (L : List Id) (a : Option Addr) (c k : Nat) (hm : m ∈ N) (hL : ∀ j ∈ L, j ∈ N) (hLl : L.length ≤ 1000000000) (hc : L.length ≤ c) (hv : Ints w .i64 (.slice a L.length c) (L.map (ix N)))
    (hkl : k ≤ L.length) (hk1 : ∀ i (hi : i < L.length), i < k → fartherV ord (ρ L[i]).u (ρ m).u = true) (hk2 : ∀ i (hi : i < L.length), i = k → fartherV ord (ρ L[i]).u (ρ m).u = false)
    (hn : N.Nodup) (hu : ∀ j ∈ N, (ρ j).u.id = j) (hlN : N.length ≤ 1000000000) (ho : ∀ j ∈ ord, j ∈ N) (hnd : ord.Nodup) (hlen : ord.length ≤ 1000000000) (h : RfAt w p F N ρ rt ord) :
    Does Tryz.prog 59 #[.pointer (some ⟨p, 0, none⟩), .slice a L.length c, .int .i64 (ix N m)] w fun v w' => OwnZ w.heap.size w' v ((L.take k ++ m :: L.drop k).map (ix N)) ∧ Below w.heap.size w w' := by
  refine Does_of (args := [.pointer (some ⟨p, 0, none⟩), .slice a L.length c, .int .i64 (ix N m)]) Tryz.func59 (by kernel_rfl) rfl rfl rfl rfl rfl ?_
  (refine Ga ?_)
  refine W_cutB (α := Unit) (fun _ => [(0, .pointer (some ⟨p, 0, none⟩)), (1, .slice a L.length c), (2, .int .i64 (ix N m)), (7, .int .i64 (k : Int))]) (fun _ A => Grown w A) ?_ ?_
  · refine W_loop (α := Nat) (fun i => [(0, .pointer (some ⟨p, 0, none⟩)), (1, .slice a L.length c), (2, .int .i64 (ix N m)), (7, .int .i64 (i : Int))]) (fun i A => i ≤ k ∧ Grown w A) (fun i _ => k - i) 0 ⟨Nat.zero_le _, Below.refl _ _⟩ ⟨rfl, rfl, rfl, rfl, trivial⟩ ?_
    rintro J i A ⟨hik, hbA⟩
    have hA := h.grown hbA
    by_cases hil : i < L.length
    · obtain ⟨g, off, rfl, hcell⟩ := (hv.below hbA (Nat.le_refl _)).at hil
      rw [ix_map_at hil] at hcell
      have hxN := hL _ (List.getElem_mem hil)
      have h1 := hk1 i hil
      have h2 := hk2 i hil
      generalize L[i] = x at *
      (refine Ga ?_)
      (apply Lst_call; (focus rfl); (focus rfl))
      refine (c_farther x m hxN hm hn hu hlN ho hnd hlen hA).mono ?_
      rintro v w2 ⟨rfl, hb2⟩
      have b2 := hbA.trans (hb2.mono hbA.size)
      by_cases hik' : i = k
      · rw [h2 hik']
        subst hik'
        (refine Ga ?_)
        exact cutQ_n () b2 ⟨rfl, rfl, rfl, rfl, trivial⟩
      · rw [h1 (by omega)]
        (refine Ga ?_)
        exact rndQ_n (α := Nat) (i + 1) ⟨by omega, b2⟩ ⟨rfl, rfl, rfl, rfl, trivial⟩ (by omega)
    · obtain rfl : i = k := by omega
      (refine Ga ?_)
      exact cutQ_n () hbA ⟨rfl, rfl, rfl, rfl, trivial⟩
  · intro J _ A hbA
    have hvA := hv.below hbA (Nat.le_refl _)
    have hml : (L.map (ix N)).length = L.length := List.length_map _
    (refine Ga ?_)
    (apply Lst_call; (focus rfl); (focus rfl))
    have hw := c_within k (ix N m) a c (L.map (ix N)) (by rw [hml]; exact hkl) (by rw [hml]; exact hc) (by rw [hml]; exact hLl) A (by rw [hml]; exact hvA)
    rw [hml] at hw
    refine hw.mono ?_
    rintro v w2 ⟨ho2, hb2⟩
    obtain ⟨z1, z2, z3, rfl⟩ := own_slice ho2
    (refine Ga ?_)
    apply retQ1
    focus rfl
    refine ⟨?_, hbA.trans (hb2.mono hbA.size)⟩
    rw [List.map_append, List.map_cons, List.map_take, List.map_drop]
    exact ho2.base hbA.size
end
end Sq
namespace Sq
open Go Go.RowKit Sx Tl
variable {w : World} {p : Nat} {F : Nat → Prop} {N rt ord : List Id} {ρ : Id → Rec}
/-- What is read of it, with whose blocks the rows are. -/
theorem RfAt.viewL (h : RfAt w p F N ρ rt ord) : ∃ a c a1 c1 a2 c2, Blk w p [.slice a N.length c, .slice a1 rt.length c1, .slice a2 ord.length c2] 69 ∧ rt.length ≤ c1 ∧ Lz w F p (.slice a1 rt.length c1) (rt.map (ix N)) ∧ Lz w F p (.slice a2 ord.length c2) (ord.map (ix N)) ∧
    ∀ k ∈ N, ∃ g b b1 d1 b2 d2, a = some ⟨g, 0, none⟩ ∧ (∀ j u, (rcs N (ρ k) b (.slice b1 (ρ k).L.length d1) (.slice b2 (ρ k).R.length d2))[j]? = some u → w.cell? ⟨g, N.idxOf k * 10 + j, none⟩ = some u) ∧ Lz w F p (.slice b1 (ρ k).L.length d1) ((ρ k).L.map (ix N)) ∧ Lz w F p (.slice b2 (ρ k).R.length d2) ((ρ k).R.map (ix N)) := by
  obtain ⟨vl, vm, vo, cs, h1, h2, h3, h4, h5, h6, h7, h8⟩ := h.ex
  have up : ∀ {v : Value} {zs : List Int}, Lz w (fun g => F g ∧ vl.ownBlock ≠ some g) p v zs → Lz w F p v zs := fun h => h.kept (Nat.le_refl _) (fun _ h => h.1) fun _ _ _ => rfl
  have h6' := up h6
  have h7' := up h7
  obtain ⟨a, c, rfl, hc⟩ := own_form h2
  obtain ⟨a1, c1, rfl, hc1⟩ := h6.cap
  obtain ⟨a2, c2, rfl, hc2⟩ := h7.cap
  simp only [List.length_map] at h1 h6' h7' hc1
  refine ⟨a, c, a1, c1, a2, c2, h1, hc1, h6', h7', fun k hk => ?_⟩
  obtain ⟨b, sl, sr, h9, h10, h11⟩ := h8 k hk
  have h10' := up h10
  have h11' := up h11
  obtain ⟨b1, d1, rfl, hd1⟩ := h10.cap
  obtain ⟨b2, d2, rfl, hd2⟩ := h11.cap
  simp only [List.length_map] at h9 h10' h11'
  have hs := SRows.of_own h2 h5 (by decide)
  have hi : N.idxOf k < cs.length := by rw [h4]; exact List.idxOf_lt_length_iff.2 hk
  obtain ⟨g, off, cap, hf | ⟨_, hf⟩, hr⟩ := hs
  · injection hf with e5 e6 e7
    have hoff : off = 0 := by
      rcases h2.2 with ⟨hv, _⟩ | ⟨g', cap', cur, hv, _⟩
      · rw [e5] at hv; cases hv
      · rw [e5] at hv; cases hv; rfl
    subst hoff
    subst e5
    refine ⟨g, b, b1, d1, b2, d2, rfl, fun j u hu => ?_, h10', h11'⟩
    have := (hr _ hi).2 j u (by rw [List.getElem?_eq_getElem hi] at h9; rw [Option.some.inj h9]; exact hu)
    rwa [Nat.zero_add] at this
  · rw [hf] at hi
    exact absurd hi (Nat.not_lt_zero _)
theorem Lz.grown {w w' : World} {v : Value} {zs : List Int} (h : Lz w F p v zs) (hF : ∀ g, F g → g < w.heap.size) (hb : Grown w w') : Lz w' F p v zs := h.kept hb.size (fun _ h => h) fun g hg _ => hb.block g (hF g hg)
theorem Lz.belowB {w w' : World} {B : Nat} {v : Value} {zs : List Int} (h : Lz w F p v zs) (hF : ∀ g, F g → g < B) (hb : Below B w w') : Lz w' F p v zs := h.kept hb.size (fun _ h => h) fun g hg _ => hb.block g (hF g hg)
attribute [local irreducible] W Lst Qst Pu seqQ blkQ rndQ cutQ retQ Does Enters IntKind.wrap bits sb World.alloc World.putObj Blk
theorem c_walk (B : Nat) (hFB : ∀ g, F g → g < B) : ∀ (n : Nat) (x : Fo) (q : Option Id) (a : Option Addr) (c : Nat) (v : Value) (zs : List Int) (w : World), x.sz ≤ n → Fo.Fits ρ q x → (∀ j ∈ x.ids, j ∈ N) → B ≤ w.heap.size → Lz w F p (.slice a x.tips.length c) (x.tips.map (ix N)) → OwnZ B w v zs → zs.length + x.sz ≤ 1000000000 → RfAt w p F N ρ rt ord →
    Does Tryz.prog 60 #[.pointer (some ⟨p, 0, none⟩), .slice a x.tips.length c, v] w fun v' w' => OwnZ B w' v' (zs ++ x.ids.map (ix N)) ∧ Below B w w' := by
  intro n
  induction n using Nat.strongRecOn with
  | _ n ih =>
  intro x q a c v zs w hx hF hN hB hz ho hsz h
  refine Does_of (args := [.pointer (some ⟨p, 0, none⟩), .slice a x.tips.length c, v]) Tryz.func60 (by kernel_rfl) rfl rfl rfl rfl rfl ?_
  (refine Ga ?_)
  refine W_loop (α := Nat × Fo × Value × List Int) (fun y => [(0, .pointer (some ⟨p, 0, none⟩)), (1, .slice a x.tips.length c), (2, y.2.2.1), (7, .int .i64 (y.1 : Int))])
    (fun y A => Fo.Fits ρ q y.2.1 ∧ y.2.1.tips = x.tips.drop y.1 ∧ y.1 + y.2.1.tips.length = x.tips.length ∧ (∀ j ∈ y.2.1.ids, j ∈ N) ∧ y.2.1.sz ≤ n ∧ y.2.2.2 ++ y.2.1.ids.map (ix N) = zs ++ x.ids.map (ix N) ∧ OwnZ B A y.2.2.1 y.2.2.2 ∧ Below B w A) (fun y _ => y.2.1.tips.length) (0, x, v, zs)
    ⟨hF, rfl, Nat.zero_add _, hN, hx, rfl, ho, Below.refl _ _⟩ ⟨rfl, rfl, rfl, rfl, trivial⟩ ?_
  rintro J ⟨i, y, v1, zs1⟩ A ⟨hFy, hty, hil, hNy, hsy, htot, hoA, hbA⟩
  dsimp only at hFy hty hil hNy hsy htot hoA ⊢
  have hA := h.below hbA hFB
  have hzA := hz.belowB hFB hbA
  obtain ⟨x1, x2, x3, rfl⟩ := own_slice hoA
  have htl : zs1.length + y.sz = zs.length + x.sz := by
    have := congrArg List.length htot
    simp only [List.length_append, List.length_map, Fo.ids_len] at this
    exact this
  cases y with
  | nil =>
    have hi : i = x.tips.length := hil
    (refine Ga ?_)
    apply retQ1
    focus rfl
    have : zs1 = zs ++ x.ids.map (ix N) := by rw [← htot]; exact (List.append_nil _).symm
    rw [← this]
    exact ⟨hoA, hbA⟩
  | nd u l r s =>
    obtain ⟨a', c', a1, c1, a2, c2, hS, _, _, _, hnode⟩ := hA.viewL
    have hltp := hS.lt
    have hi : i < x.tips.length := by have : i + (s.tips.length + 1) = x.tips.length := hil; omega
    have hxi : x.tips[i] = u.id := by
      have e := congrArg (fun l => l[0]?) hty
      simp only [List.getElem?_drop, Nat.add_zero] at e
      rw [List.getElem?_eq_getElem hi] at e
      exact (Option.some.inj e).symm
    have hm : ∀ j, j ∈ l.ids ∨ j = u.id ∨ j ∈ r.ids ∨ j ∈ s.ids → j ∈ N := fun j hj => hNy j (by
      rw [Fo.ids_nd]
      simp only [List.mem_append, List.mem_cons]
      rcases hj with h | h | h | h
      · exact .inl (.inl h)
      · exact .inl (.inr (.inl h))
      · exact .inl (.inr (.inr h))
      · exact .inr h)
    have huN := hm u.id (.inr (.inl rfl))
    obtain ⟨g, b, b1, d1, b2, d2, rfl, hcell, hzl, hzr⟩ := hnode u.id huN
    obtain ⟨g2, off, rfl, hci⟩ := hzA.ints.at hi
    rw [ix_map_at hi, hxi] at hci
    unfold ix at hci
    have hg2 : g2 < B := hFB _ (hz.own (by intro e; have := congrArg List.length e; simp only [List.length_map, List.length_nil] at this; omega) g2 off _ _ rfl).1
    have hci0 : w.cell? ⟨g2, off + i, none⟩ = some (.int .i64 (N.idxOf u.id : Int)) := (Below.cell hbA (p := ⟨g2, off + i, none⟩) hg2).symm.trans hci
    have hlt := List.idxOf_lt_length_iff.2 huN
    rw [hFy.1] at hcell hzl hzr
    dsimp only at hcell hzl hzr
    have hcl := hcell 8 _ rfl
    have hcr := hcell 9 _ rfl
    clear hcell hnode
    have hszs : (Fo.nd u l r s).sz = l.sz + 1 + r.sz + s.sz := by
      show (l.flat ++ u :: r.flat ++ s.flat).length = _
      unfold Fo.sz
      simp only [List.length_append, List.length_cons]
      omega
    (refine Ga ?_)
    refine W_draw 13 (Grown A) rfl (by kernel_rfl) (grown_start A) ?_
    (refine Qb ?_)
    apply Qst_loadc
    focus rfl
    focus rfl
    focus rfl
    focus exact fun A9 hA9 => cell_below hA9 hci
    focus rfl
    (refine Qb ?_)
    apply Qst_pu
    · apply P_idxn (j := N.idxOf u.id)
      focus rfl
      focus rfl
      focus rfl
      focus rfl
      focus rfl
      focus exact hlt
    focus rfl
    (refine Qb ?_)
    apply Qst_loadc
    focus rfl
    focus rfl
    focus rfl
    focus exact fun A9 hA9 => cell_below hA9 hcl
    focus rfl
    (refine Qb ?_)
    intro w1 hb1
    have hzl1 := (hzl.grown hA.lt hb1)
    have ho1 := hoA.up hb1
    have h1 := hA.grown hb1
    have bB1 : Below B w w1 := hbA.trans (hb1.mono (Nat.le_trans hB hbA.size))
    (refine Ga ?_)
    (apply Lst_call; (focus rfl); (focus rfl))
    refine (ih (n - 1) (by omega) l (some u.id) b1 d1 _ zs1 w1 (by omega) hFy.2.1 (fun j hj => hm j (.inl hj)) (Nat.le_trans hB bB1.size) hzl1 ho1 (by omega) h1).mono ?_
    rintro v2 w2 ⟨ho2, hb2⟩
    have bB2 := bB1.trans hb2
    obtain ⟨y1, y2, y3, rfl⟩ := own_slice ho2
    have hci2 := (Below.cell bB2 (p := ⟨g2, off + i, none⟩) hg2).trans hci0
    (refine Ga ?_)
    have hl2 : (zs1 ++ l.ids.map (ix N)).length = zs1.length + l.sz := by rw [List.length_append, List.length_map, Fo.ids_len]
    have hs2 := bB2.size
    apply Lst_push (hown := ho2) (bytes := 8)
    ((focus constructor); (focus rfl); (focus rfl); (focus rfl); (focus rfl); (focus rfl); (focus rfl); (focus rfl); (focus rfl); (focus rfl); (focus rfl); (focus simp [Value.oneCell']); (focus rfl); (focus rfl); (focus rfl); (focus rfl); (focus omega); (focus omega); (focus omega))
    intro v3 w3 ho3 hg3 _
    have bB3 : Below B w w3 := Below.own bB2 ho2 hg3 (Nat.le_refl _) (Nat.le_trans hB bB2.size)
    have ho3 : OwnZ B w3 v3 (zs1 ++ l.ids.map (ix N) ++ [ix N u.id]) := by
      unfold OwnZ
      rw [List.length_append, List.map_append]
      exact ho3
    obtain ⟨z1, z2, z3, rfl⟩ := own_slice ho3
    have h3 := h.below bB3 hFB
    clear hS hcl hcr hltp hzl hzr hA hci
    obtain ⟨a', c', a1, c1, a2, c2, hS, _, _, _, hnode⟩ := h3.viewL
    have hltp := hS.lt
    obtain ⟨g, b, b1, d1, b2, d2, rfl, hcell, hzl, hzr⟩ := hnode u.id huN
    rw [hFy.1] at hcell hzl hzr
    dsimp only at hcell hzl hzr
    have hcr3 := hcell 9 _ rfl
    have hci3 := (Below.cell bB3 (p := ⟨g2, off + i, none⟩) hg2).trans hci0
    clear hcell hnode
    (refine Ga ?_)
    refine W_draw 13 (Grown w3) rfl (by kernel_rfl) (grown_start w3) ?_
    (refine Qb ?_)
    apply Qst_loadc
    focus rfl
    focus rfl
    focus rfl
    focus exact fun A9 hA9 => cell_below hA9 hci3
    focus rfl
    (refine Qb ?_)
    apply Qst_pu
    · apply P_idxn (j := N.idxOf u.id)
      focus rfl
      focus rfl
      focus rfl
      focus rfl
      focus rfl
      focus exact hlt
    focus rfl
    (refine Qb ?_)
    apply Qst_loadc
    focus rfl
    focus rfl
    focus rfl
    focus exact fun A9 hA9 => cell_below hA9 hcr3
    focus rfl
    (refine Qb ?_)
    intro w4 hb4
    have hzr4 := (hzr.grown h3.lt hb4)
    have ho4 := ho3.up hb4
    have h4 := h3.grown hb4
    have bB4 : Below B w w4 := bB3.trans (hb4.mono (Nat.le_trans hB bB3.size))
    (refine Ga ?_)
    (apply Lst_call; (focus rfl); (focus rfl))
    refine (ih (n - 1) (by omega) r (some u.id) b2 d2 _ (zs1 ++ l.ids.map (ix N) ++ [ix N u.id]) w4 (by omega) hFy.2.2.1 (fun j hj => hm j (.inr (.inr (.inl hj)))) (Nat.le_trans hB bB4.size) hzr4 ho4 ?_ h4).mono ?_
    · simp only [List.length_append, List.length_map, Fo.ids_len, List.length_singleton]
      omega
    rintro v5 w5 ⟨ho5, hb5⟩
    have bB5 := bB4.trans hb5
    obtain ⟨u1, u2, u3, rfl⟩ := own_slice ho5
    have hxl := tips_le x
    have hlt5 : i + 1 + s.tips.length = x.tips.length := by have : i + (s.tips.length + 1) = x.tips.length := hil; omega
    (refine Ga ?_)
    refine rndQ_n (α := Nat × Fo × Value × List Int) (i + 1, s, .slice u1 u2 u3, zs1 ++ l.ids.map (ix N) ++ [ix N u.id] ++ r.ids.map (ix N)) ⟨hFy.2.2.2, ?_, hlt5, fun j hj => hm j (.inr (.inr (.inr hj))), ?_, ?_, ho5, bB5⟩ ⟨rfl, rfl, rfl, ?_, trivial⟩ ?_
    · rw [← List.drop_drop, ← hty]
      rfl
    · dsimp only
      omega
    · rw [← htot, Fo.ids_nd]
      simp
    · show Value.int .i64 ((i : Int) + 1) = Value.int .i64 ((i + 1 : Nat) : Int)
      rw [Int.natCast_add]
      rfl
    · show s.tips.length < s.tips.length + 1
      omega
end Sq
end Go.Proofs.YtmgipnckojopcaaGreat
