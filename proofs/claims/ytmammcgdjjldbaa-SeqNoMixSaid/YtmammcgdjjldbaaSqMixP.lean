/- Plain: a text written at one place stays in one piece. -/
import Derived.Test.YtmammcgdjjldbaaSqRunsP
import Derived.Test.YtmammcgdjjldbaaSqRf
namespace Go.Proofs.Ytmammcgdjjldbaa
set_option maxRecDepth 100000
namespace Sq
open Go Go.RowKit Sx Tl
/-! ### One unit more: what becomes of the records -/
structure Stepd (ρ σ : Id → Rec) (t : Fo) (u : Un) (V : Where) : Prop where
  fits : Fo.Fits σ none (Fo.put t u)
  par : ∀ x ∈ t.ids, (σ x).par = (ρ x).par
  new : (σ u.id).L = [] ∧ (σ u.id).R = [] ∧ (σ u.id).par = V.par
  left : V.left = true → u.r ∈ t.ids ∧ (u.l ∈ t.ids → u.l ∈ Fo.upL t u.r) ∧ V.par = some u.r ∧ (∀ x ∈ t.ids, (σ x).R = (ρ x).R) ∧ (∀ x ∈ t.ids, x ≠ u.r → (σ x).L = (ρ x).L) ∧ (σ u.r).L = (ρ u.r).L.take V.k ++ u.id :: (ρ u.r).L.drop V.k
  right : V.left = false → (u.r ∈ t.ids → u.l ∈ t.ids ∧ u.l ∉ Fo.upL t u.r) ∧ V.par = parOf t.ids u ∧ (∀ x ∈ t.ids, (σ x).L = (ρ x).L) ∧ (∀ x ∈ t.ids, x ≠ u.l → (σ x).R = (ρ x).R) ∧ (u.l ∈ t.ids → (σ u.l).R = (ρ u.l).R.take V.k ++ u.id :: (ρ u.l).R.drop V.k)
theorem stepd {ρ : Id → Rec} {t : Fo} {u : Un} (hg : Fo.Good t) (hF : Fo.Fits ρ none t) (hM : Fo.Can t u) : ∃ σ V, Stepd ρ σ t u V := by
  obtain ⟨rc, c, V, P, hP⟩ := puts hg hF hM
  have hne : ∀ x ∈ t.ids, x ≠ u.id := fun x hx e => hM.new (e ▸ hx)
  have hrc : u.r ∈ t.ids → rc = Fo.upL t u.r := fun hr => by
    obtain ⟨h1, h2⟩ := hP.hrc hr
    exact chain_uniq h1 (chain_up hg.nd hF _ u.r rfl) (by rw [← h2, par_up hg.nd hF hr])
  have hfits := hP.fits
  obtain ⟨σ, hσ⟩ : ∃ σ, bump 1 c (laid (fset ρ u.id (newRec u)) t.tips u.id V) = σ := ⟨_, rfl⟩
  rw [hσ] at hfits
  refine ⟨σ, V, ?_⟩
  have hW := hP.hW
  cases hv : V.left with
  | true =>
    rw [if_pos hv] at hW
    obtain ⟨⟨hr, hl, _⟩, hpar⟩ := hW
    have hru := hne _ hr
    have e := laid_L (ρ := ρ) (rt := t.tips) (u := u) hv hpar hru
    rw [e] at hσ
    refine ⟨hfits, fun x hx => ?_, ?_, fun _ => ⟨hr, fun h => by rw [← hrc hr]; exact hl h, hpar, fun x hx => ?_, fun x hx hxr => ?_, ?_⟩, fun h => absurd (hv.symm.trans h) (by simp)⟩
    · rw [← hσ]
      show (fset _ _ _ x).par = _
      by_cases ex : x = u.r
      · subst ex
        rw [fset_same]
      · rw [fset_ne ex, fset_ne (hne x hx)]
    · rw [← hσ]
      show (fset _ _ _ u.id).L = [] ∧ (fset _ _ _ u.id).R = [] ∧ (fset _ _ _ u.id).par = _
      rw [fset_ne (Ne.symm hru), fset_same]
      exact ⟨rfl, rfl, rfl⟩
    · rw [← hσ]
      show (fset _ _ _ x).R = _
      by_cases ex : x = u.r
      · subst ex
        rw [fset_same]
      · rw [fset_ne ex, fset_ne (hne x hx)]
    · rw [← hσ]
      show (fset _ _ _ x).L = _
      rw [fset_ne hxr, fset_ne (hne x hx)]
    · rw [← hσ]
      show (fset _ _ _ u.r).L = _
      rw [fset_same]
  | false =>
    rw [if_neg (by rw [hv]; simp)] at hW
    obtain ⟨⟨hr, _⟩, hpar⟩ := hW
    have hr' : u.r ∈ t.ids → u.l ∈ t.ids ∧ u.l ∉ Fo.upL t u.r := fun h => by rw [← hrc h]; exact hr h
    by_cases hl : u.l ∈ t.ids
    · have hpo : parOf t.ids u = some u.l := if_pos hl
      have hlu := hne _ hl
      have e := laid_R (ρ := ρ) (rt := t.tips) (u := u) hv (hpar.trans hpo) hlu
      rw [e] at hσ
      refine ⟨hfits, fun x hx => ?_, ?_, fun h => absurd (hv.symm.trans h) (by simp), fun _ => ⟨hr', hpar, fun x hx => ?_, fun x hx hxl => ?_, fun _ => ?_⟩⟩
      · rw [← hσ]
        show (fset _ _ _ x).par = _
        by_cases ex : x = u.l
        · subst ex
          rw [fset_same]
        · rw [fset_ne ex, fset_ne (hne x hx)]
      · rw [← hσ]
        show (fset _ _ _ u.id).L = [] ∧ (fset _ _ _ u.id).R = [] ∧ (fset _ _ _ u.id).par = _
        rw [fset_ne (Ne.symm hlu), fset_same]
        exact ⟨rfl, rfl, rfl⟩
      · rw [← hσ]
        show (fset _ _ _ x).L = _
        by_cases ex : x = u.l
        · subst ex
          rw [fset_same]
        · rw [fset_ne ex, fset_ne (hne x hx)]
      · rw [← hσ]
        show (fset _ _ _ x).R = _
        rw [fset_ne hxl, fset_ne (hne x hx)]
      · rw [← hσ]
        show (fset _ _ _ u.l).R = _
        rw [fset_same]
    · have hpo : parOf t.ids u = none := if_neg hl
      have e := laid_0 (ρ := ρ) (rt := t.tips) (u := u) hv (hpar.trans hpo)
      rw [e] at hσ
      refine ⟨hfits, fun x hx => ?_, ?_, fun h => absurd (hv.symm.trans h) (by simp), fun _ => ⟨hr', hpar, fun x hx => ?_, fun x hx _ => ?_, fun h => absurd h hl⟩⟩
      · rw [← hσ]
        show (fset _ _ _ x).par = _
        rw [fset_ne (hne x hx)]
      · rw [← hσ]
        show (fset _ _ _ u.id).L = [] ∧ (fset _ _ _ u.id).R = [] ∧ (fset _ _ _ u.id).par = _
        rw [fset_same]
        exact ⟨rfl, rfl, rfl⟩
      · rw [← hσ]
        show (fset _ _ _ x).L = _
        rw [fset_ne (hne x hx)]
      · rw [← hσ]
        show (fset _ _ _ x).R = _
        rw [fset_ne (hne x hx)]
theorem chain_to {ρ σ : Id → Rec} {N N' : List Id} : ∀ {l : List Id}, ChainL ρ N l → (∀ x ∈ N, x ∈ N' ∧ (σ x).par = (ρ x).par) → ChainL σ N' l
  | [], _, _ => trivial
  | j :: _, h, hx => ⟨(hx j h.1).1, ((hx j h.1).2).trans h.2.1, chain_to h.2.2 hx⟩
/-- Those above, in the new tree. -/
theorem stepd_up {ρ σ : Id → Rec} {t : Fo} {u : Un} {V : Where} (hg : Fo.Good t) (hF : Fo.Fits ρ none t) (hM : Fo.Can t u) (h : Stepd ρ σ t u V) : (∀ k ∈ t.ids, Fo.upL (Fo.put t u) k = Fo.upL t k) ∧ (∀ p, V.par = some p → p ∈ t.ids → Fo.upL (Fo.put t u) u.id = p :: Fo.upL t p) := by
  have hg' := hg.put hM
  have hold : ∀ x ∈ t.ids, x ∈ (Fo.put t u).ids ∧ (σ x).par = (ρ x).par := fun x hx => ⟨(Fo.put_ids hg.nd x).2 (.inr hx), h.par x hx⟩
  have h1 : ∀ k ∈ t.ids, Fo.upL (Fo.put t u) k = Fo.upL t k := fun k hk => by
    refine chain_uniq (chain_up hg'.nd h.fits _ k rfl) (chain_to (chain_up hg.nd hF _ k rfl) hold) ?_
    rw [← par_up hg'.nd h.fits (hold k hk).1, ← par_up hg.nd hF hk]
    exact h.par k hk
  refine ⟨h1, fun p hp hpt => ?_⟩
  have hu : u.id ∈ (Fo.put t u).ids := (Fo.put_ids hg.nd _).2 (.inl rfl)
  refine chain_uniq (chain_up hg'.nd h.fits _ u.id rfl) (l' := p :: Fo.upL t p) ⟨(hold p hpt).1, ?_, ?_⟩ ?_
  · rw [← h1 p hpt]
    exact par_up hg'.nd h.fits (hold p hpt).1
  · exact chain_to (chain_up hg.nd hF _ p rfl) hold
  · rw [← par_up hg'.nd h.fits hu, h.new.2.2]
    exact hp
/-- A unit that has none below is above no other. -/
theorem leaf_not {ρ : Id → Rec} {t : Fo} (hn : t.ids.Nodup) (hF : Fo.Fits ρ none t) {a k : Id} (hk : k ∈ t.ids) (hL : (ρ a).L = []) (hR : (ρ a).R = []) : a ∉ Fo.upL t k := leaf_up hn hF hk hL hR
/-! ### Neighbours by their records -/
def Adj (back : Bool) (ρ : Id → Rec) (x y : Id) : Prop := if back then (ρ x).L = [y] ∧ (ρ y).R = [] else (ρ x).R = [y] ∧ (ρ y).L = []
theorem tips_one {t : Fo} {y : Id} (h : t.tips = [y]) : ∃ v l r, t = .nd v l r .nil ∧ v.id = y := by
  cases t with
  | nil => cases h
  | nd v l r s =>
    have h' : v.id :: s.tips = [y] := h
    rw [List.cons.injEq] at h'
    cases s with
    | nil => exact ⟨v, l, r, rfl, h'.1⟩
    | nd v' l' r' s' =>
      have : (v'.id :: s'.tips) = [] := h'.2
      cases this
theorem tips_nil {t : Fo} (h : t.tips = []) : t = .nil := by
  cases t with
  | nil => rfl
  | nd v l r s =>
    have : v.id :: s.tips = [] := h
    cases this
theorem adj_pos {back : Bool} {ρ : Id → Rec} {t : Fo} {x y : Id} (hg : Fo.Good t) (hF : Fo.Fits ρ none t) (hx : x ∈ t.ids) (h : Adj back ρ x y) : y ∈ t.ids ∧ (if back then t.pos y + 1 = t.pos x else t.pos x + 1 = t.pos y) := by
  obtain ⟨A, B, u, l, r, q, hu, hf, hρ, hl, hr⟩ := fits_at hg.nd hF hx
  unfold Adj at h
  cases back with
  | true =>
    rw [if_pos rfl] at h ⊢
    rw [hρ] at h
    obtain ⟨v, l1, r1, rfl, hv⟩ := tips_one h.1
    have h2 := h.2
    rw [← hv, hl.1] at h2
    have hr1 := tips_nil h2
    subst hr1
    have e1 : t.flat = (A ++ l1.flat) ++ v :: (u :: r.flat ++ B) := by
      rw [hf]
      show A ++ (l1.flat ++ v :: Fo.nil.flat ++ Fo.nil.flat) ++ u :: r.flat ++ B = _
      simp [Fo.flat]
    have e2 : t.flat = (A ++ l1.flat ++ [v]) ++ u :: (r.flat ++ B) := by rw [e1]; simp
    rw [← hv, ← hu, Fo.pos_at hg.nd e1, Fo.pos_at hg.nd e2]
    refine ⟨?_, by simp only [List.length_append, List.length_singleton]⟩
    unfold Fo.ids
    rw [e1]
    simp
  | false =>
    rw [if_neg (by simp)] at h ⊢
    rw [hρ] at h
    obtain ⟨v, l1, r1, rfl, hv⟩ := tips_one h.1
    have h2 := h.2
    rw [← hv, hr.1] at h2
    have hl1 := tips_nil h2
    subst hl1
    have e1 : t.flat = (A ++ l.flat) ++ u :: (v :: (r1.flat ++ B)) := by
      rw [hf]
      show A ++ l.flat ++ u :: (Fo.nil.flat ++ v :: r1.flat ++ Fo.nil.flat) ++ B = _
      simp [Fo.flat]
    have e2 : t.flat = (A ++ l.flat ++ [u]) ++ v :: (r1.flat ++ B) := by rw [e1]; simp
    rw [← hv, ← hu, Fo.pos_at hg.nd e1, Fo.pos_at hg.nd e2]
    refine ⟨?_, by simp only [List.length_append, List.length_singleton]⟩
    unfold Fo.ids
    rw [e2]
    simp
theorem pos_put_lt {t : Fo} {u : Un} {a b : Id} (hg : Fo.Good t) (hM : Fo.Can t u) (ha : a ∈ t.ids) (hb : b ∈ t.ids) (h : t.pos a < t.pos b) : (Fo.put t u).pos a < (Fo.put t u).pos b := by
  obtain ⟨A, B, h1, h2⟩ := Fo.put_in (u := u) hg.nd
  have hg' := hg.put hM
  have h2' : (Fo.put t u).flat = (A ++ [u]) ++ B := by rw [h2]; simp
  have ia := (Fo.mem_ids h1).1 ha
  have ib := (Fo.mem_ids h1).1 hb
  rw [List.map_append, List.mem_append] at ia ib
  have hs : (Fo.put t u).ids = A.map (·.id) ++ u.id :: B.map (·.id) := by unfold Fo.ids; rw [h2]; simp
  have ho : t.ids = A.map (·.id) ++ B.map (·.id) := by unfold Fo.ids; rw [h1]; simp
  have nd1 := hg.nd
  rw [ho, List.nodup_append] at nd1
  have key : ∀ k, (k ∈ A.map (·.id) → (Fo.put t u).pos k = t.pos k ∧ t.pos k < A.length) ∧ (k ∈ B.map (·.id) → (Fo.put t u).pos k = t.pos k + 1 ∧ A.length ≤ t.pos k) := fun k => by
    unfold Fo.pos
    rw [hs, ho]
    refine ⟨fun hk => ?_, fun hk => ?_⟩
    · rw [List.idxOf_append, if_pos hk, List.idxOf_append, if_pos hk]
      have := List.idxOf_lt_length_iff.2 hk
      rw [List.length_map] at this
      exact ⟨rfl, this⟩
    · have hn : k ∉ A.map (·.id) := fun hm => nd1.2.2 _ hm _ hk rfl
      have hu : u.id ≠ k := fun e => hM.new (e ▸ (by rw [ho]; exact List.mem_append_right _ hk))
      rw [List.idxOf_append, if_neg hn, List.idxOf_append, if_neg hn, List.idxOf_cons, beq_false_of_ne hu, List.length_map]
      dsimp only [cond_false]
      omega
  rcases ia with ia | ia
  · have k1 := (key a).1 ia
    rcases ib with ib | ib
    · have k2 := (key b).1 ib
      omega
    · have k2 := (key b).2 ib
      omega
  · have k1 := (key a).2 ia
    rcases ib with ib | ib
    · have k2 := (key b).1 ib
      omega
    · have k2 := (key b).2 ib
      omega
/-! ### A writer -/
def wr (back : Bool) (cl : Nat) (l r : Id) (i : Nat) : Un := ⟨(cl, i + 1), if back then l else (if i = 0 then l else (cl, i)), if back then (if i = 0 then r else (cl, i)) else r⟩
def wt (back : Bool) (cl : Nat) (l r : Id) (t : Fo) (k : Nat) : Fo := Fo.putL t ((List.range k).map (wr back cl l r))
theorem wt_succ (back : Bool) (cl : Nat) (l r : Id) (t : Fo) (k : Nat) : wt back cl l r t (k + 1) = Fo.put (wt back cl l r t k) (wr back cl l r k) := by
  unfold wt
  rw [List.range_succ, List.map_append, List.map_singleton, Fo.putL_snoc]
structure WS (t : Fo) (cl : Nat) (l r : Id) : Prop where
  good : Fo.Good t
  fits : ∃ ρ, Fo.Fits ρ none t
  wl : l = Fo.none' ∨ l ∈ t.ids
  wr : r = Fo.none' ∨ r ∈ t.ids
  lr : l = Fo.none' ∨ r = Fo.none' ∨ t.pos l < t.pos r
  num : 1 ≤ cl ∧ cl ≤ 9007199254740991
  free : ∀ j, ((cl, j + 1) : Id) ∉ t.ids
structure WI (back : Bool) (t : Fo) (cl : Nat) (l r : Id) (k : Nat) (tk : Fo) : Prop where
  good : Fo.Good tk
  fits : ∃ ρ, Fo.Fits ρ none tk
  ids : ∀ x, x ∈ tk.ids ↔ x ∈ t.ids ∨ ∃ j, j < k ∧ x = (cl, j + 1)
  ord : ∀ a b, a ∈ t.ids → b ∈ t.ids → t.pos a < t.pos b → tk.pos a < tk.pos b
  link : ∀ ρ σ, Fo.Fits ρ none t → Fo.Fits σ none tk → ∀ x ∈ t.ids, x ≠ l → x ≠ r → (σ x).L = (ρ x).L ∧ (σ x).R = (ρ x).R
  adj : ∀ σ, Fo.Fits σ none tk → ∀ j, j + 1 < k → Adj back σ (cl, j + 1) (cl, j + 2)
  leaf : ∀ σ, Fo.Fits σ none tk → 0 < k → (σ (cl, k)).L = [] ∧ (σ (cl, k)).R = []
  lastF : 0 < k → back = false → r = Fo.none' ∨ tk.pos (cl, k) < tk.pos r
  lastB : 0 < k → back = true → l = Fo.none' ∨ (l ∈ Fo.upL tk (cl, k) ∧ tk.pos l < tk.pos (cl, k))
theorem wi_may {back : Bool} {t : Fo} {cl : Nat} {l r : Id} {k : Nat} {tk : Fo} (hs : WS t cl l r) (hk : k ≤ 1000) (h : WI back t cl l r k tk) : Fo.May tk (wr back cl l r k) := by
  have hin : 0 < k → ((cl, k) : Id) ∈ tk.ids := fun h0 => (h.ids _).2 (.inr ⟨k - 1, by omega, by rw [Nat.sub_add_cancel h0]⟩)
  have hl : l = Fo.none' ∨ l ∈ tk.ids := hs.wl.imp id fun q => (h.ids l).2 (.inl q)
  have hr : r = Fo.none' ∨ r ∈ tk.ids := hs.wr.imp id fun q => (h.ids r).2 (.inl q)
  refine ⟨⟨?_, ?_, ?_, ?_⟩, ?_⟩
  · have := hs.num
    show Fo.rightId (cl, k + 1) = true
    unfold Fo.rightId Fo.num
    simp
    omega
  · intro hm
    rcases (h.ids _).1 hm with q | ⟨j, hj, e⟩
    · exact hs.free k q
    · have e := congrArg Prod.snd e
      have e : k + 1 = j + 1 := e
      omega
  · cases back with
    | true => exact hl
    | false =>
      show (if k = 0 then l else (cl, k)) = _ ∨ (if k = 0 then l else (cl, k)) ∈ _
      by_cases h0 : k = 0
      · rw [if_pos h0]
        exact hl
      · rw [if_neg h0]
        exact .inr (hin (by omega))
  · cases back with
    | false => exact hr
    | true =>
      show (if k = 0 then r else (cl, k)) = _ ∨ (if k = 0 then r else (cl, k)) ∈ _
      by_cases h0 : k = 0
      · rw [if_pos h0]
        exact hr
      · rw [if_neg h0]
        exact .inr (hin (by omega))
  · by_cases h0 : k = 0
    · subst h0
      have e : l = Fo.none' ∨ r = Fo.none' ∨ tk.pos l < tk.pos r := by
        rcases hs.wl with q1 | q1
        · exact .inl q1
        · rcases hs.wr with q2 | q2
          · exact .inr (.inl q2)
          · rcases hs.lr with q | q | q
            · exact .inl q
            · exact .inr (.inl q)
            · exact .inr (.inr (h.ord l r q1 q2 q))
      cases back <;> exact e
    · cases back with
      | true =>
        show l = _ ∨ (if k = 0 then r else (cl, k)) = _ ∨ tk.pos l < tk.pos (if k = 0 then r else (cl, k))
        rw [if_neg h0]
        rcases h.lastB (by omega) rfl with q | q
        · exact .inl q
        · exact .inr (.inr q.2)
      | false =>
        show (if k = 0 then l else (cl, k)) = _ ∨ r = _ ∨ tk.pos (if k = 0 then l else (cl, k)) < tk.pos r
        rw [if_neg h0]
        exact .inr (h.lastF (by omega) rfl)
theorem wi_zero {back : Bool} {t : Fo} {cl : Nat} {l r : Id} (hs : WS t cl l r) : WI back t cl l r 0 t :=
  ⟨hs.good, hs.fits, fun x => ⟨.inl, fun h => h.elim id fun ⟨_, h, _⟩ => absurd h (Nat.not_lt_zero _)⟩, fun _ _ _ _ h => h, fun ρ σ h k x hx _ _ => by rw [fits_uniq k h x hx]; exact ⟨rfl, rfl⟩, fun _ _ j h => absurd h (Nat.not_lt_zero _), fun _ _ h => absurd h (Nat.lt_irrefl _), fun h => absurd h (Nat.lt_irrefl _), fun h => absurd h (Nat.lt_irrefl _)⟩
theorem take_one {x : Id} (n : Nat) : (([] : List Id).take n ++ x :: ([] : List Id).drop n) = [x] := by simp
theorem wi_succ {back : Bool} {t : Fo} {cl : Nat} {l r : Id} {k : Nat} {tk : Fo} (hs : WS t cl l r) (hk : k ≤ 1000) (h : WI back t cl l r k tk) : WI back t cl l r (k + 1) (Fo.put tk (wr back cl l r k)) := by
  have hM := wi_may hs hk h
  obtain ⟨ρk, hFk⟩ := h.fits
  obtain ⟨σ, V, hst⟩ := stepd h.good hFk hM.toCan
  obtain ⟨hup, hupn⟩ := stepd_up h.good hFk hM.toCan hst
  obtain ⟨A, B, hA, hB, hAl, hBr⟩ := Fo.between h.good hFk hM
  have hg' := h.good.put hM.toCan
  have hin : 0 < k → ((cl, k) : Id) ∈ tk.ids := fun h0 => (h.ids _).2 (.inr ⟨k - 1, by omega, by rw [Nat.sub_add_cancel h0]⟩)
  have hold : ∀ x ∈ t.ids, x ∈ tk.ids := fun x hx => (h.ids x).2 (.inl hx)
  have hnin : ∀ x ∈ t.ids, x ≠ ((cl, k) : Id) ∨ k = 0 := fun x hx => by
    by_cases h0 : k = 0
    · exact .inr h0
    · refine .inl fun e => ?_
      have := hs.free (k - 1)
      rw [Nat.sub_add_cancel (by omega), ← e] at this
      exact this hx
  have hadjin : ∀ j, j + 1 < k → ((cl, j + 1) : Id) ∈ tk.ids ∧ ((cl, j + 2) : Id) ∈ tk.ids := fun j hj => ⟨(h.ids _).2 (.inr ⟨j, by omega, rfl⟩), (h.ids _).2 (.inr ⟨j + 1, by omega, rfl⟩)⟩
  have hui : (wr back cl l r k).id = (cl, k + 1) := rfl
  have hB' : (Fo.put tk (wr back cl l r k)).flat = (A ++ [wr back cl l r k]) ++ B := by rw [hB]; simp
  have hpu : (Fo.put tk (wr back cl l r k)).pos (cl, k + 1) = A.length := Fo.pos_at hg'.nd hB
  -- which side
  have hside : 0 < k → V.left = back ∧ V.par = some (cl, k) := fun h0 => by
    cases back with
    | false =>
      have hul : (wr false cl l r k).l = (cl, k) := by
        show (if k = 0 then l else (cl, k)) = _
        rw [if_neg (by omega)]
      have hv : V.left = false := by
        cases hv : V.left with
        | false => rfl
        | true =>
          obtain ⟨q1, q2, _⟩ := hst.left hv
          have q3 := q2 (by rw [hul]; exact hin h0)
          rw [hul] at q3
          obtain ⟨q4, q5⟩ := h.leaf ρk hFk h0
          exact absurd q3 (leaf_not h.good.nd hFk q1 q4 q5)
      refine ⟨hv, ?_⟩
      rw [(hst.right hv).2.1]
      unfold parOf
      rw [hul, if_pos (hin h0)]
    | true =>
      have hur : (wr true cl l r k).r = (cl, k) := by
        show (if k = 0 then r else (cl, k)) = _
        rw [if_neg (by omega)]
      have hv : V.left = true := by
        cases hv : V.left with
        | true => rfl
        | false =>
          obtain ⟨q1, _⟩ := hst.right hv
          have q2 := q1 (by rw [hur]; exact hin h0)
          rw [hur] at q2
          have q3 : l ∈ tk.ids := q2.1
          rcases h.lastB h0 rfl with q | q
          · exact absurd (q ▸ q3) h.good.none
          · exact absurd q.1 q2.2
      refine ⟨hv, ?_⟩
      rw [(hst.left hv).2.2.1, hur]
  refine ⟨hg', ⟨σ, hst.fits⟩, fun x => ?_, fun a b ha hb hlt => pos_put_lt h.good hM.toCan (hold a ha) (hold b hb) (h.ord a b ha hb hlt), fun ρ τ hρ hτ x hx hxl hxr => ?_, fun τ hτ j hj => ?_, fun τ hτ _ => ?_, fun _ hbk => ?_, fun _ hbk => ?_⟩
  · rw [Fo.put_ids h.good.nd, h.ids]
    constructor
    · rintro (rfl | q | ⟨j, hj, rfl⟩)
      · exact .inr ⟨k, by omega, rfl⟩
      · exact .inl q
      · exact .inr ⟨j, by omega, rfl⟩
    · rintro (q | ⟨j, hj, rfl⟩)
      · exact .inr (.inl q)
      · by_cases e : j = k
        · subst e
          exact .inl rfl
        · exact .inr (.inr ⟨j, by omega, rfl⟩)
  · have hxk := hold x hx
    have e1 := fits_uniq hτ hst.fits x ((Fo.put_ids h.good.nd x).2 (.inr hxk))
    obtain ⟨l1, l2⟩ := h.link ρ ρk hρ hFk x hx hxl hxr
    rw [e1, ← l1, ← l2]
    cases hv : V.left with
    | true =>
      obtain ⟨q1, _, q3, q4, q5, _⟩ := hst.left hv
      refine ⟨q5 x hxk ?_, q4 x hxk⟩
      by_cases h0 : k = 0
      · subst h0
        cases back <;> exact hxr
      · have := (hside (by omega)).2
        rw [q3] at this
        rw [Option.some.inj this]
        exact (hnin x hx).resolve_right h0
    | false =>
      obtain ⟨_, q3, q4, q5, _⟩ := hst.right hv
      refine ⟨q4 x hxk, q5 x hxk ?_⟩
      by_cases h0 : k = 0
      · subst h0
        cases back <;> exact hxl
      · have e2 := (hside (by omega)).1
        rw [hv] at e2
        subst e2
        show x ≠ (if k = 0 then l else (cl, k))
        rw [if_neg h0]
        exact (hnin x hx).resolve_right h0
  · have h0 : 0 < k := by omega
    obtain ⟨hvb, hpar⟩ := hside h0
    have eq : ∀ x, x ∈ tk.ids ∨ x = (cl, k + 1) → τ x = σ x := fun x hx => fits_uniq hτ hst.fits x ((Fo.put_ids h.good.nd x).2 (hx.elim .inr fun e => .inl (e.trans hui.symm)))
    by_cases hjk : j + 1 = k
    · have e2 : ((cl, j + 1) : Id) = (cl, k) := by rw [hjk]
      have e3 : ((cl, j + 2) : Id) = (cl, k + 1) := by rw [← hjk]
      rw [e2, e3]
      unfold Adj
      rw [eq _ (.inl (hin h0)), eq _ (.inr rfl)]
      have hnew := hst.new
      rw [hui] at hnew
      obtain ⟨q4, q5⟩ := h.leaf ρk hFk h0
      cases back with
      | true =>
        obtain ⟨_, _, q3, _, _, q6⟩ := hst.left hvb
        rw [q3] at hpar
        rw [Option.some.inj hpar, q4, take_one, hui] at q6
        exact ⟨q6, hnew.2.1⟩
      | false =>
        obtain ⟨_, q3, _, _, q6⟩ := hst.right hvb
        have hul : (wr false cl l r k).l = (cl, k) := by
          show (if k = 0 then l else (cl, k)) = _
          rw [if_neg (by omega)]
        rw [hul] at q6
        have q6 := q6 (hin h0)
        rw [q5, take_one, hui] at q6
        exact ⟨q6, hnew.1⟩
    · have hjk' : j + 1 < k := by omega
      obtain ⟨i1, i2⟩ := hadjin j hjk'
      have hadj := h.adj ρk hFk j hjk'
      unfold Adj at hadj ⊢
      rw [eq _ (.inl i1), eq _ (.inl i2)]
      have hne : ((cl, j + 1) : Id) ≠ (cl, k) := fun e => by
        have e := congrArg Prod.snd e
        have e : j + 1 = k := e
        omega
      cases back with
      | true =>
        obtain ⟨_, _, q3, q4, q5, _⟩ := hst.left hvb
        rw [q3] at hpar
        rw [Option.some.inj hpar] at q5
        rw [if_pos rfl] at hadj ⊢
        rw [q5 _ i1 hne, q4 _ i2]
        exact hadj
      | false =>
        obtain ⟨_, q3, q4, q5, _⟩ := hst.right hvb
        have hul : (wr false cl l r k).l = (cl, k) := by
          show (if k = 0 then l else (cl, k)) = _
          rw [if_neg (by omega)]
        rw [hul] at q5
        rw [if_neg (by simp)] at hadj ⊢
        rw [q5 _ i1 hne, q4 _ i2]
        exact hadj
  · have e1 := fits_uniq hτ hst.fits (cl, k + 1) ((Fo.put_ids h.good.nd _).2 (.inl hui.symm))
    rw [e1]
    have hnew := hst.new
    rw [hui] at hnew
    exact ⟨hnew.1, hnew.2.1⟩
  · subst hbk
    rcases hs.wr with q | q
    · exact .inl q
    · refine .inr ?_
      have hne : r ≠ Fo.none' := fun e => hs.good.none (e ▸ q)
      have h1 := hBr hne
      have h2 := Fo.pos_ge hg'.nd hB' h1
      rw [hpu]
      rw [List.length_append, List.length_singleton] at h2
      have h3 : (wr false cl l r k).r = r := rfl
      rw [h3] at h2
      omega
  · subst hbk
    rcases hs.wl with q | q
    · exact .inl q
    · refine .inr ⟨?_, ?_⟩
      · by_cases h0 : k = 0
        · subst h0
          have hlt : l ∈ tk.ids := hold l q
          cases hv : V.left with
          | true =>
            obtain ⟨q1, q2, q3, _⟩ := hst.left hv
            have := hupn _ q3 q1
            rw [hui] at this
            rw [this]
            exact List.mem_cons_of_mem _ (q2 hlt)
          | false =>
            obtain ⟨_, q3, _⟩ := hst.right hv
            have q4 : V.par = some l := by
              rw [q3]
              exact if_pos hlt
            have := hupn _ q4 hlt
            rw [hui] at this
            rw [this]
            exact List.mem_cons_self ..
        · have := hupn _ (hside (by omega)).2 (hin (by omega))
          rw [hui] at this
          rw [this]
          rcases h.lastB (by omega) rfl with q' | q'
          · exact absurd (q' ▸ q) hs.good.none
          · exact List.mem_cons_of_mem _ q'.1
      · have hne : l ≠ Fo.none' := fun e => hs.good.none (e ▸ q)
        have h1 := hAl hne
        have h2 := Fo.pos_lt hB h1
        rw [hpu]
        exact h2
theorem wi_all {back : Bool} {t : Fo} {cl : Nat} {l r : Id} (hs : WS t cl l r) : ∀ k, k ≤ 1000 → WI back t cl l r k (wt back cl l r t k)
  | 0, _ => wi_zero hs
  | k + 1, hk => by
    rw [wt_succ]
    exact wi_succ hs (by omega) (wi_all hs k (by omega))
end Sq
end Go.Proofs.Ytmammcgdjjldbaa
