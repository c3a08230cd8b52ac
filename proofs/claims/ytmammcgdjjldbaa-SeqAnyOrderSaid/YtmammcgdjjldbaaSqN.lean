/- Run. -/
import Derived.Test.YtmammcgdjjldbaaSqT
namespace Go.Proofs.Ytmammcgdjjldbaa
set_option maxRecDepth 100000
namespace Sq
open Go Go.RowKit Sx Tl
def freeTo (t : Fo) (u : Un) (n : Nat) : Bool := (List.range n).all fun i => !decide ((u.id.1, u.id.2 + i) ∈ t.ids)
def runOk (t : Fo) (u : Un) (n : Int) : Bool := decide (1 ≤ n) && (Fo.rightId u.id && (decide (n ≤ 9007199254740991 - (u.id.2 : Int) + 1) && (Fo.may t u && freeTo t u n.toNat)))
def runR (t : Fo) (u : Un) (n : Int) : Fo := if runOk t u n then runT (Fo.put t u) u (n.toNat - 1) else t
theorem free_iff {t : Fo} {u : Un} {n : Nat} : freeTo t u n = true ↔ ∀ i, i < n → (u.id.1, u.id.2 + i) ∉ t.ids := by
  unfold freeTo
  rw [List.all_eq_true]
  simp only [List.mem_range, Bool.not_eq_true', decide_eq_false_iff_not]
def ownB (u : Un) (n : Nat) (k : Id) : Bool := k.1 == u.id.1 && decide (u.id.2 < k.2) && decide (k.2 < u.id.2 + n)
theorem fits_uniq {ρ σ : Id → Rec} : ∀ {t : Fo} {p : Option Id}, Fo.Fits ρ p t → Fo.Fits σ p t → ∀ j ∈ t.ids, ρ j = σ j
  | .nil, _, _, _, j, h => by cases h
  | .nd v l r s, p, hF, hG, j, h => by
    rw [Fo.ids_nd] at h
    simp only [List.mem_append, List.mem_cons] at h
    rcases h with (h | rfl | h) | h
    · exact fits_uniq hF.2.1 hG.2.1 j h
    · exact hF.1.trans hG.1.symm
    · exact fits_uniq hF.2.2.1 hG.2.2.1 j h
    · exact fits_uniq hF.2.2.2 hG.2.2.2 j h
theorem put_leaf {ρ σ : Id → Rec} {t : Fo} {u : Un} (hg : Fo.Good t) (hF : Fo.Fits ρ none t) (hm : Fo.Can t u) (hS : Fo.Fits σ none (Fo.put t u)) : (σ u.id).L = [] ∧ (σ u.id).R = [] := by
  obtain ⟨rc, c, V, P, hP⟩ := puts hg hF hm
  have h1 := fits_uniq hS hP.fits u.id ((Fo.put_ids hg.nd _).2 (.inl rfl))
  have hW := hP.hW
  have hl : V.left = true → ∃ p, V.par = some p := fun e => by
    rw [e, if_pos rfl] at hW
    exact ⟨_, hW.2⟩
  have hp : ∀ p, V.par = some p → u.id ≠ p := fun p e he => by
    have : p ∈ t.ids := by
      cases e' : V.left with
      | true =>
        rw [e', if_pos rfl] at hW
        rw [hW.2] at e
        cases e
        exact hW.1.r
      | false =>
        rw [e', if_neg (by simp)] at hW
        rw [hW.2] at e
        unfold parOf at e
        split at e
        · cases e
          assumption
        · cases e
    exact hm.new (he ▸ this)
  rw [h1]
  have h2 := laid_new (ρ := ρ) (rt := t.tips) (u := u) (V := V) hl hp
  unfold bump
  rw [h2]
  exact ⟨rfl, rfl⟩
theorem Turn.blk {F F' : Nat → Prop} {w w' : World} {b : Nat} {l : List Value} {e : TypeId} (h : Turn F F' w w') (hb : Blk w b l e) (hf : ¬ F b) : Blk w' b l e := (h.block b hb.lt hf).trans hb
theorem own_no {t : Fo} {u : Un} {m : Nat} {k : Id} (hf : freeTo t u m = true) (hk : k = Fo.none' ∨ k ∈ t.ids) : ownB u m k = false := by
  cases e : ownB u m k with
  | false => rfl
  | true =>
    exfalso
    unfold ownB at e
    simp only [Bool.and_eq_true, beq_iff_eq, decide_eq_true_eq] at e
    obtain ⟨⟨e1, e2⟩, e3⟩ := e
    rcases hk with rfl | hk
    · have h1 : (Fo.none').2 = 0 := rfl
      omega
    · have h2 := free_iff.1 hf (k.2 - u.id.2) (by omega)
      refine h2 ?_
      have : (u.id.1, u.id.2 + (k.2 - u.id.2)) = k := Prod.ext e1.symm (by show u.id.2 + (k.2 - u.id.2) = k.2; omega)
      rw [this]
      exact hk
attribute [local irreducible] W Lst Qst Pu seqQ blkQ rndQ cutQ retQ Does Enters IntKind.wrap bits sb World.alloc World.putObj Blk
theorem s_may (u : Un) (p : Nat) (F : Nat → Prop) (t : Fo) (w : World) (hs : t.sz ≤ 1000000000) (h : SqAt w p F t) :
    Does Try.prog 32 #[.pointer (some ⟨p, 0, none⟩), .agg (ucs u).toArray] w fun v w' => v = .bool (Fo.may t u) ∧ SqAt w' p F t ∧ Turn F F w w' := by
  obtain ⟨E, ρ, rfl, hF, hfar, hc, hft, hg⟩ := h
  refine (c_may u hfar (fun _ => Iff.rfl) (fun j hj => ⟨hj, fits_u hft j hj⟩) hg.nd (by rw [Fo.ids_len]; exact hs) hc).mono ?_
  rintro v w' ⟨rfl, h2, hk⟩
  exact ⟨by rw [mayV_eq], ⟨E, ρ, rfl, hF, fun g hg => hfar g (Nat.le_trans hk.size hg), h2, hft, hg⟩, .kept hF hk fun t ht => by rcases ht with rfl | rfl <;> simp⟩
theorem s_put (u : Un) (p : Nat) (F : Nat → Prop) (t : Fo) (w : World) (hs : t.sz ≤ 1000000000 - 1) (hM : Fo.Can t u) (h : SqAt w p F t) :
    Does Try.prog 33 #[.pointer (some ⟨p, 0, none⟩), .agg (ucs u).toArray] w fun v w' => v = .tuple #[] ∧ ∃ F', SqAt w' p F' (Fo.put t u) ∧ Turn F F' w w' := by
  obtain ⟨E, ρ, rfl, hF, hfar, hc, hft, hg⟩ := h
  obtain ⟨rc, c, V, P, hP⟩ := puts hg hft hM
  refine (c_put u rc c V P hfar (fits_clo hg.nd hft) (fits_sizes hg.nd hft hs) (fits_selfs hg.nd hft) hM.new (fun _ => Iff.rfl) (fun j hj => ⟨hj, fits_u hft j hj⟩) hg.nd (by rw [Fo.ids_len]; exact hs) hc hP.hrc hP.hW hP.hch hP.hP hP.hPl).mono ?_
  rintro v w3 ⟨rfl, E', hE1, hE2, hE3, hk3, h3⟩
  refine ⟨rfl, fun g => E'.tg g ≠ .other, ⟨E', _, hE1, fun _ => Iff.rfl, hE3, ?_, hP.fits, hg.put hM⟩, hk3.os, hk3.tape, hk3.output, hk3.size, fun g hg => ?_, fun g hg hn => hk3.block g hg fun h => hn ((hF g).2 h)⟩
  · rw [← hP.ids, ← hP.tips]
    refine h3.congr (fun j hj => ?_) (fun j => ?_)
    · rw [hP.ids] at hj
      exact List.mem_cons.2 ((Fo.put_ids hg.nd j).1 hj)
    · rw [hP.ids, Fo.put_ids hg.nd, List.mem_cons]
  · rw [hE2 g hg, hF]
theorem c_own (u : Un) (n : Nat) (k : Id) (b d : Nat) (w : World) (hb : Blk w b (ucs u) 34) (hd : Blk w d [.int .i64 (n : Int)] 3) (hn : n ≤ 9007199254740992) (hu : u.id.2 ≤ 9007199254740991) :
    Does Try.prog 36 #[idv k, .pointer (some ⟨b, 0, none⟩), .pointer (some ⟨d, 0, none⟩)] w fun v w' => v = .bool (ownB u n k) ∧ Below w.heap.size w w' := by
  refine Does_of (args := [idv k, .pointer (some ⟨b, 0, none⟩), .pointer (some ⟨d, 0, none⟩)]) Try.func36 (by kernel_rfl) rfl rfl rfl rfl rfl ?_
  (refine Ga ?_)
  obtain ⟨X, hXe⟩ : ∃ X, w.alloc (.cells (idcs k).toArray 32) = X := ⟨_, rfl⟩
  have hbX : Below w.heap.size w X := by rw [← hXe]; exact Bel
  have kX : Blk X w.heap.size (idcs k) 32 := by rw [← hXe]; exact (by (repeat (first | assumption | (apply Blk.below (hb := hb1); rotate_left; (focus ((try simp only [Sx.sizes]); omega)); rotate_right) | (apply Blk.below (hb := hb2); rotate_left; (focus ((try simp only [Sx.sizes]); omega)); rotate_right) | (apply Blk.below (hb := hb3); rotate_left; (focus ((try simp only [Sx.sizes]); omega)); rotate_right) | (apply Blk.below (hb := hb4); rotate_left; (focus ((try simp only [Sx.sizes]); omega)); rotate_right) | (apply Blk.below (hb := hb5); rotate_left; (focus ((try simp only [Sx.sizes]); omega)); rotate_right) | (apply Blk.below (hb := hb6); rotate_left; (focus ((try simp only [Sx.sizes]); omega)); rotate_right) | (apply Blk.below (hb := hb7); rotate_left; (focus ((try simp only [Sx.sizes]); omega)); rotate_right) | (apply Blk.below (hb := hb8); rotate_left; (focus ((try simp only [Sx.sizes]); omega)); rotate_right) | (apply Blk.below (hb := hb9); rotate_left; (focus ((try simp only [Sx.sizes]); omega)); rotate_right) | exact Blk.newE (by first | rfl | ((try simp only [Sx.sizes]); first | done | omega)) _ _ | exact Blk.put_same (by (try simp only [Sx.sizes]); first | done | omega) _ _ | (apply Blk.put_ne; (focus omega)) | apply Blk.alloc | apply Blk.drew)); done)
  have hbb := hb.below hbX hb.lt
  have hdd := hd.below hbX hd.lt
  rw [hXe]
  clear hXe hb hd
  unfold idcs at kX
  unfold ucs at hbb
  have hcl : (u.id.2 : Int) + (n : Int) = ((u.id.2 + n : Nat) : Int) := by omega
  by_cases e1 : k.1 = u.id.1
  · by_cases e2 : u.id.2 < k.2
    · by_cases e3 : k.2 < u.id.2 + n
      · have hv : ownB u n k = true := by unfold ownB; simp [e1, e2, e3]
        (refine Ga ?_)
        (apply retQ1; (focus rfl))
        exact ⟨by rw [hv]; rfl, hbX⟩
      · have hv : ownB u n k = false := by unfold ownB; simp [e1, e2, e3]
        (refine Ga ?_)
        (apply retQ1; (focus rfl))
        exact ⟨by rw [hv]; rfl, hbX⟩
    · have hv : ownB u n k = false := by unfold ownB; simp [e1, e2]
      (refine Ga ?_)
      (apply retQ1; (focus rfl))
      exact ⟨by rw [hv]; rfl, hbX⟩
  · have hv : ownB u n k = false := by unfold ownB; simp [e1]
    (refine Ga ?_)
    (apply retQ1; (focus rfl))
    exact ⟨by rw [hv]; rfl, hbX⟩
theorem s_chain (E : Env) (ρ : Id → Rec) (u : Un) (m : Nat) (t : Fo) (w : World) (hm0 : 0 < m) (hs : t.sz + m ≤ 1000000000 - 1) (hfar : ∀ g, w.heap.size ≤ g → E.tg g = .other) (hc : Core w E t.ids t.tips t.ids t.ids ρ) (hft : Fo.Fits ρ none t) (hg : Fo.Good t) (hu : u ∈ t.flat) (hL : (ρ u.id).L = []) (hR : (ρ u.id).R = []) (hnew : ∀ k ∈ towI u m, k ∉ t.ids) (hr : Fo.rightId u.id = true) (hclk : u.id.2 + m ≤ 9007199254740991) :
    Does Try.prog 37 #[.pointer (some ⟨E.p, 0, none⟩), pv E u.id, .int .i64 (m : Int)] w fun v w' => v = .tuple #[] ∧ ∃ F', SqAt w' E.p F' (runT t u m) ∧ Turn (fun g => E.tg g ≠ .other) F' w w' := by
  have hui : u.id ∈ t.ids := List.mem_map.2 ⟨u, hu, rfl⟩
  have hrun := run_fits m hg hft hu hL hR hnew hr hclk
  have hsz := fits_sizes hg.nd hft (by omega)
  refine (c_chain u m (Fo.upL t u.id) hfar (fits_clo hg.nd hft) (fun j hj => by have := hsz.n j hj; omega) hm0 (by omega) hui (hft.rec_u u hu) hR hclk hnew ⟨⟨hui, par_up hg.nd hft hui, chain_up hg.nd hft _ _ rfl⟩, List.nodup_cons.2 ⟨Fo.upL_self hg.nd, Fo.upL_nodup _ hg.nd⟩⟩ (fun _ => Iff.rfl) (fun j hj => ⟨hj, fits_u hft j hj⟩) hg.nd (by rw [Fo.ids_len]; omega) hc).mono ?_
  rintro v w3 ⟨rfl, E', hE1, hE2, hE3, hk3, h3⟩
  refine ⟨rfl, fun g => E'.tg g ≠ .other, ⟨E', _, hE1, fun _ => Iff.rfl, hE3, ?_, hrun.1, hrun.2.1⟩, hk3.os, hk3.tape, hk3.output, hk3.size, fun g hg => ?_, fun g hg hn => hk3.block g hg hn⟩
  · rw [hrun.2.2.1]
    have e : (runT t u m).ids = t.ids.take (t.ids.idxOf u.id + 1) ++ towI u m ++ t.ids.drop (t.ids.idxOf u.id + 1) := hrun.2.2.2.1
    have e2 : ∀ k, k ∈ (runT t u m).ids ↔ k ∈ towL t.ids u m := hrun.2.2.2.2
    rw [← e] at h3
    exact h3.congr (fun j hj => (e2 j).1 hj) (fun j => e2 j)
  · rw [hE2 g hg]
set_option maxHeartbeats 2000000 in
theorem c_Run (u : Un) (n : Int) (p : Nat) (F : Nat → Prop) (t : Fo) (w : World) (hs : t.sz + n.toNat ≤ 1000000000 - 1) (hn : n < 9223372036854775808) (h : SqAt w p F t) :
    Does Try.prog 22 #[.pointer (some ⟨p, 0, none⟩), .agg (ucs u).toArray, .int .i64 n] w fun v w' => v = .bool (runOk t u n) ∧ ∃ F', SqAt w' p F' (runR t u n) ∧ Turn F F' w w' := by
  refine Does_of (args := [.pointer (some ⟨p, 0, none⟩), .agg (ucs u).toArray, .int .i64 n]) Try.func22 (by kernel_rfl) rfl rfl rfl rfl rfl ?_
  have hsz := h
  (refine Ga ?_)
  obtain ⟨X, hXe⟩ : ∃ X, (w.alloc (.cells (ucs u).toArray 34)).alloc (.cells [.int .i64 n].toArray 3) = X := ⟨_, rfl⟩
  have hbX : Below w.heap.size w X := by rw [← hXe]; exact Bel
  have kU : Blk X w.heap.size (ucs u) 34 := by rw [← hXe]; exact (by (repeat (first | assumption | (apply Blk.below (hb := hb1); rotate_left; (focus ((try simp only [Sx.sizes]); omega)); rotate_right) | (apply Blk.below (hb := hb2); rotate_left; (focus ((try simp only [Sx.sizes]); omega)); rotate_right) | (apply Blk.below (hb := hb3); rotate_left; (focus ((try simp only [Sx.sizes]); omega)); rotate_right) | (apply Blk.below (hb := hb4); rotate_left; (focus ((try simp only [Sx.sizes]); omega)); rotate_right) | (apply Blk.below (hb := hb5); rotate_left; (focus ((try simp only [Sx.sizes]); omega)); rotate_right) | (apply Blk.below (hb := hb6); rotate_left; (focus ((try simp only [Sx.sizes]); omega)); rotate_right) | (apply Blk.below (hb := hb7); rotate_left; (focus ((try simp only [Sx.sizes]); omega)); rotate_right) | (apply Blk.below (hb := hb8); rotate_left; (focus ((try simp only [Sx.sizes]); omega)); rotate_right) | (apply Blk.below (hb := hb9); rotate_left; (focus ((try simp only [Sx.sizes]); omega)); rotate_right) | exact Blk.newE (by first | rfl | ((try simp only [Sx.sizes]); first | done | omega)) _ _ | exact Blk.put_same (by (try simp only [Sx.sizes]); first | done | omega) _ _ | (apply Blk.put_ne; (focus omega)) | apply Blk.alloc | apply Blk.drew)); done)
  have kN : Blk X (w.heap.size + 1) [.int .i64 n] 3 := by rw [← hXe]; exact (by (repeat (first | assumption | (apply Blk.below (hb := hb1); rotate_left; (focus ((try simp only [Sx.sizes]); omega)); rotate_right) | (apply Blk.below (hb := hb2); rotate_left; (focus ((try simp only [Sx.sizes]); omega)); rotate_right) | (apply Blk.below (hb := hb3); rotate_left; (focus ((try simp only [Sx.sizes]); omega)); rotate_right) | (apply Blk.below (hb := hb4); rotate_left; (focus ((try simp only [Sx.sizes]); omega)); rotate_right) | (apply Blk.below (hb := hb5); rotate_left; (focus ((try simp only [Sx.sizes]); omega)); rotate_right) | (apply Blk.below (hb := hb6); rotate_left; (focus ((try simp only [Sx.sizes]); omega)); rotate_right) | (apply Blk.below (hb := hb7); rotate_left; (focus ((try simp only [Sx.sizes]); omega)); rotate_right) | (apply Blk.below (hb := hb8); rotate_left; (focus ((try simp only [Sx.sizes]); omega)); rotate_right) | (apply Blk.below (hb := hb9); rotate_left; (focus ((try simp only [Sx.sizes]); omega)); rotate_right) | exact Blk.newE (by first | rfl | ((try simp only [Sx.sizes]); first | done | omega)) _ _ | exact Blk.put_same (by (try simp only [Sx.sizes]); first | done | omega) _ _ | (apply Blk.put_ne; (focus omega)) | apply Blk.alloc | apply Blk.drew)); done)
  rw [hXe]
  clear hXe
  have hX := h.below hbX
  have hFU : ¬ F w.heap.size := fun hf => by have := h.lt hf; omega
  have hFN : ¬ F (w.heap.size + 1) := fun hf => by have := h.lt hf; omega
  have hT0 : Turn F F w X := .of hbX
  have no : runOk t u n = false → ∀ w', SqAt w' p F t → Turn F F w w' → ∃ F', SqAt w' p F' (runR t u n) ∧ Turn F F' w w' := fun hf w' h1 h2 => by
    unfold runR
    rw [hf]
    exact ⟨F, h1, h2⟩
  have hRi := fun A => n_Right u.id A
  unfold ucs at kU
  by_cases h1 : 1 ≤ n
  · cases h2 : Fo.rightId u.id with
    | false =>
      rw [h2] at hRi
      have hr : runOk t u n = false := by unfold runOk; rw [h2]; simp
      (refine Ga ?_)
      (apply Lst_call; (focus rfl); (focus rfl))
      refine (hRi X).mono ?_
      rintro v w2 ⟨rfl, hb2⟩
      (refine Ga ?_)
      (apply retQ1; (focus rfl))
      exact ⟨by rw [hr]; rfl, no hr _ (hX.below hb2) (hT0.trans (.of hb2))⟩
    | true =>
      rw [h2] at hRi
      (refine Ga ?_)
      (apply Lst_call; (focus rfl); (focus rfl))
      refine (hRi X).mono ?_
      rintro v w2 ⟨rfl, hb2⟩
      have hX2 := hX.below hb2
      have hT2 := hT0.trans (.of hb2)
      have kU2 := kU.below hb2 kU.lt
      have kN2 := kN.below hb2 kN.lt
      clear kU kN hX hT0 hRi
      have hcl : 1 ≤ u.id.2 ∧ u.id.2 ≤ 9007199254740991 := by
        have := h2
        unfold Fo.rightId Fo.num at this
        simp only [Bool.and_eq_true, decide_eq_true_eq] at this
        exact this.2
      by_cases h3 : n ≤ 9007199254740991 - (u.id.2 : Int) + 1
      · (refine Ga ?_)
        (apply Lst_call; (focus rfl); (focus rfl))
        refine (s_may u p F t w2 (by omega) hX2).mono ?_
        rintro v w3 ⟨rfl, hX3, hT3'⟩
        have hT3 := hT2.trans hT3'
        have kU3 := hT3'.blk kU2 hFU
        have kN3 := hT3'.blk kN2 hFN
        clear kU2 kN2 hT2 hX2 hT3'
        cases h4 : Fo.may t u with
        | false =>
          have hr : runOk t u n = false := by unfold runOk; rw [h4]; simp
          (refine Ga ?_)
          (apply retQ1; (focus rfl))
          exact ⟨by rw [hr]; rfl, no hr _ hX3 hT3⟩
        | true =>
          obtain ⟨m, rfl⟩ : ∃ m : Nat, n = m := ⟨n.toNat, by omega⟩
          rw [Int.toNat_natCast] at hs
          have hM := (Fo.may_iff.1 h4)
          have hrk : runOk t u (m : Int) = freeTo t u m := by
            unfold runOk
            rw [h2, h4, decide_eq_true h1, decide_eq_true h3, Int.toNat_natCast]
            simp
          obtain ⟨E, ρ, hp, hF, hfar, hc, hft, hg⟩ := id hX3
          subst hp
          (refine Ga ?_)
          have hno : ∀ A, Below w3.heap.size w3 A → freeTo t u m = false → ∃ F', SqAt A E.p F' (runR t u m) ∧ Turn F F' w A := fun A hA hf => no (hrk.trans hf) A (hX3.below hA) (hT3.trans (.of hA))
          refine W_cutB (α := Unit) (fun _ => [(0, .pointer (some ⟨E.p, 0, none⟩)), (4, .pointer (some ⟨w.heap.size, 0, none⟩)), (5, .pointer (some ⟨w.heap.size + 1, 0, none⟩))]) (fun _ A => Below w3.heap.size w3 A ∧ freeTo t u m = true) ?_ ?_
          · refine W_loop (α := Nat) (fun i => [(0, .pointer (some ⟨E.p, 0, none⟩)), (4, .pointer (some ⟨w.heap.size, 0, none⟩)), (5, .pointer (some ⟨w.heap.size + 1, 0, none⟩)), (33, .int .i64 (m : Int)), (34, .int .i64 (i : Int))])
              (fun i A => Below w3.heap.size w3 A ∧ i ≤ m ∧ ∀ q, q < i → (u.id.1, u.id.2 + q) ∉ t.ids) (fun i _ => m - i) 0 ⟨Below.refl _ _, Nat.zero_le _, fun q hq => absurd hq (Nat.not_lt_zero _)⟩ ⟨rfl, rfl, rfl, rfl, rfl, trivial⟩ ?_
            rintro J i A ⟨hbA, him, hfr⟩
            have kUA := kU3.below hbA kU3.lt
            have hcA := hc.below hbA
            have ltU := kUA.lt
            obtain ⟨so, sr, fresh, mm, hS, hOo, hR, hMm, hFf⟩ := id hcA.seq
            have ltP := hS.lt
            by_cases hi : i < m
            · obtain ⟨lo, hlo, hloN⟩ := lookPtr (E := E) t.ids (u.id.1, u.id.2 + i)
              (refine Ga ?_)
              refine W_draws (Grown _) rfl (by kernel_rfl) (grown_start _) ?_
              (refine Qb ?_)
              apply Qst_lookup
              focus rfl
              focus rfl
              focus exact fun A9 hA9 => ((hcA.below hA9).lookAll (u.id.1, u.id.2 + i)).trans (by rw [hlo])
              focus rfl
              (refine Qb ?_)
              intro w8 hb8
              have hb8' := hbA.trans (hb8.mono hbA.size)
              cases lo with
              | none =>
                (refine Ga ?_)
                refine rndQ_n (α := Nat) (i + 1) ⟨hb8', hi, fun q hq => ?_⟩ ⟨rfl, rfl, rfl, rfl, ?_, trivial⟩ (by omega)
                · by_cases e : q = i
                  · subst e
                    exact of_decide_eq_false hloN.symm
                  · exact hfr q (by omega)
                · exact congrArg (Value.int .i64) (by omega)
              | some lo =>
                have hff : freeTo t u m = false := by
                  cases e : freeTo t u m with
                  | false => rfl
                  | true => exact absurd (of_decide_eq_true hloN.symm) (free_iff.1 e i hi)
                (refine Ga ?_)
                (apply retQ1; (focus rfl))
                exact ⟨by rw [hrk, hff]; rfl, hno _ hb8' hff⟩
            · obtain rfl : i = m := by omega
              (refine Ga ?_)
              exact cutQ_n () ⟨hbA, free_iff.2 hfr⟩ ⟨rfl, rfl, rfl, trivial⟩
          · rintro J _ A ⟨hbA, hfree⟩
            have hXA := hX3.below hbA
            have hTA := hT3.trans (.of hbA)
            have kUA := kU3.below hbA kU3.lt
            have kNA := kN3.below hbA kN3.lt
            have hok := hrk.trans hfree
            clear hX3 hT3 kU3 kN3 hc hno no
            (refine Ga ?_)
            (apply Lst_call; (focus rfl); (focus rfl))
            refine (c_own u m u.l w.heap.size (w.heap.size + 1) A kUA kNA (by omega) hcl.2).mono ?_
            rintro v w4 ⟨rfl, hb4⟩
            rw [own_no hfree hM.l]
            have kU4 := kUA.below hb4 kUA.lt
            have kN4 := kNA.below hb4 kNA.lt
            (refine Ga ?_)
            (apply Lst_call; (focus rfl); (focus rfl))
            refine (c_own u m u.r w.heap.size (w.heap.size + 1) w4 kU4 kN4 (by omega) hcl.2).mono ?_
            rintro v w5 ⟨rfl, hb5⟩
            rw [own_no hfree hM.r]
            have kU5 := kU4.below hb5 kU4.lt
            have kN5 := kN4.below hb5 kN4.lt
            have hX5 := (hXA.below hb4).below hb5
            have hT5 := (hTA.trans (.of hb4)).trans (.of hb5)
            clear kUA kNA kU4 kN4 hXA hTA hb4 hb5
            (refine Ga ?_)
            (apply Lst_call; (focus rfl); (focus rfl))
            refine (s_put u E.p F t w5 (by omega) hM.toCan hX5).mono ?_
            rintro v w6 ⟨rfl, F6, hX6, hT56⟩
            have kU6 := hT56.blk kU5 hFU
            have kN6 := hT56.blk kN5 hFN
            have hT6 := hT5.trans hT56
            clear kU5 kN5 hX5 hT5 hT56
            have hrr : runR t u (m : Int) = runT (Fo.put t u) u (m - 1) := by
              unfold runR
              rw [hok, if_pos rfl]
              rfl
            by_cases h1m : m = 1
            · subst h1m
              (refine Ga ?_)
              (apply retQ1; (focus rfl))
              rw [hrr]
              exact ⟨by rw [hok]; rfl, F6, hX6, hT6⟩
            · have hm2 : (m : Int) > 1 := by omega
              obtain ⟨E6, ρ6, hp6, hF6, hfar6, hc6, hft6, hg6⟩ := hX6
              obtain ⟨so, sr, fresh, mm, hS, hOo, hR, hMm, hFf⟩ := id hc6.seq
              rw [hp6] at hS
              have ltU := kU6.lt
              have ltN := kN6.lt
              have ltP := hS.lt
              have huN : u.id ∈ (Fo.put t u).ids := (Fo.put_ids hg.nd _).2 (.inl rfl)
              have hmem := (Fo.put_ids (u := u) hg.nd)
              (refine Ga ?_)
              refine W_draw 10 (Grown w6) rfl (by kernel_rfl) (grown_start w6) ?_
              (refine Qb ?_)
              apply Qst_lookup
              focus rfl
              focus rfl
              focus exact fun A9 hA9 => ((hc6.below hA9).lookAll u.id).trans (by rw [if_pos huN])
              focus rfl
              (refine Qb ?_)
              intro w8 hb8
              have hm1 : ((m : Int) - 1) = ((m - 1 : Nat) : Int) := by omega
              have hleaf := put_leaf hg hft hM.toCan hft6
              have hsz1 : (Fo.put t u).sz = t.sz + 1 := by
                obtain ⟨A', B', h1, h2⟩ := Fo.put_in (u := u) hg.nd
                unfold Fo.sz
                rw [h1, h2]
                simp only [List.length_append, List.length_cons]
                omega
              have hch := s_chain E6 ρ6 u (m - 1) (Fo.put t u) w8 (by omega) (by omega) (fun g hg => hfar6 g (Nat.le_trans hb8.size hg)) (hc6.below hb8) hft6 hg6 ((Fo.put_mem hg.nd _).2 (.inl rfl)) hleaf.1 hleaf.2 (fun k hk hm => by
                have h5 := tow_mem hk
                rcases (hmem k).1 hm with rfl | h6
                · omega
                · have h7 := free_iff.1 hfree (k.2 - u.id.2) (by omega)
                  refine h7 ?_
                  have : (u.id.1, u.id.2 + (k.2 - u.id.2)) = k := Prod.ext h5.1.symm (by show u.id.2 + (k.2 - u.id.2) = k.2; omega)
                  rw [this]
                  exact h6) h2 (by omega)
              rw [hp6, ← hm1] at hch
              (apply Lst_call; (focus rfl); (focus rfl))
              refine hch.mono ?_
              rintro v w9 ⟨rfl, F9, hX9, hT9⟩
              (refine Ga ?_)
              (apply retQ1; (focus rfl))
              rw [hrr]
              exact ⟨by rw [hok]; rfl, F9, hX9, (hT6.trans (.of hb8)).trans ⟨hT9.os, hT9.tape, hT9.output, hT9.size, fun g hg => (hT9.own g hg).trans (hF6 g).symm, fun g hg hn => hT9.block g hg fun h => hn ((hF6 g).2 h)⟩⟩
      · have hr : runOk t u n = false := by unfold runOk; rw [decide_eq_false h3]; simp
        (refine Ga ?_)
        (apply retQ1; (focus rfl))
        exact ⟨by rw [hr]; rfl, no hr _ hX2 hT2⟩
  · have hr : runOk t u n = false := by unfold runOk; rw [decide_eq_false h1]; rfl
    (refine Ga ?_)
    (apply retQ1; (focus rfl))
    exact ⟨by rw [hr]; rfl, no hr _ hX hT0⟩
end Sq
end Go.Proofs.Ytmammcgdjjldbaa
