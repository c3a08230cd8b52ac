/- Plain: runs: what a chain is as a tree. -/
import Derived.Test.YtmammcgdjjldbaaSqC
namespace Go.Proofs.Ytmammcgdjjldbaa
set_option maxRecDepth 100000
namespace Sq
open Go Go.RowKit Sx Tl
/-- Each behind the one ahead. -/
def runT (t : Fo) (u : Un) : Nat → Fo
  | 0 => t
  | m + 1 => runT (Fo.put t (nx u)) (nx u) m
theorem chain_uniq {ρ : Id → Rec} {N : List Id} : ∀ {l l' : List Id}, ChainL ρ N l → ChainL ρ N l' → l.head? = l'.head? → l = l'
  | [], [], _, _, _ => rfl
  | [], _ :: _, _, _, h => by cases h
  | _ :: _, [], _, _, h => by cases h
  | j :: l, j' :: l', h, h', e => by
    cases e
    rw [chain_uniq h.2.2 h'.2.2 (h.2.1.symm.trans h'.2.1)]
theorem fits_child {ρ : Id → Rec} : ∀ {t : Fo} {p : Option Id}, Fo.Fits ρ p t → ∀ j ∈ t.ids, ((ρ j).par = p ∧ j ∈ t.tips) ∨ ∃ q ∈ t.ids, (ρ j).par = some q ∧ (j ∈ (ρ q).L ∨ j ∈ (ρ q).R)
  | .nil, _, _, j, h => by cases h
  | .nd v l r s, p, hF, j, h => by
    obtain ⟨h1, hl, hr, hs⟩ := hF
    have hin : ∀ i, i ∈ l.ids ∨ i = v.id ∨ i ∈ r.ids ∨ i ∈ s.ids → i ∈ (Fo.nd v l r s).ids := fun i hi => by
      rw [Fo.ids_nd]
      simp only [List.mem_append, List.mem_cons]
      rcases hi with h | h | h | h
      · exact .inl (.inl h)
      · exact .inl (.inr (.inl h))
      · exact .inl (.inr (.inr h))
      · exact .inr h
    rw [Fo.ids_nd] at h
    simp only [List.mem_append, List.mem_cons] at h
    rcases h with (h | rfl | h) | h
    · rcases fits_child hl j h with ⟨a, b⟩ | ⟨q, a, b⟩
      · exact .inr ⟨v.id, hin _ (.inr (.inl rfl)), a, .inl (by rw [h1]; exact b)⟩
      · exact .inr ⟨q, hin _ (.inl a), b⟩
    · exact .inl ⟨by rw [h1], List.mem_cons_self ..⟩
    · rcases fits_child hr j h with ⟨a, b⟩ | ⟨q, a, b⟩
      · exact .inr ⟨v.id, hin _ (.inr (.inl rfl)), a, .inr (by rw [h1]; exact b)⟩
      · exact .inr ⟨q, hin _ (.inr (.inr (.inl a))), b⟩
    · rcases fits_child hs j h with ⟨a, b⟩ | ⟨q, a, b⟩
      · exact .inl ⟨a, List.mem_cons_of_mem _ b⟩
      · exact .inr ⟨q, hin _ (.inr (.inr (.inr a))), b⟩
theorem chain_has {ρ : Id → Rec} {N : List Id} : ∀ {l : List Id} {k a : Id}, k ∈ N → (ρ k).par = l.head? → ChainL ρ N l → a ∈ l → ∃ j ∈ N, (ρ j).par = some a
  | [], _, _, _, _, _, h => by cases h
  | b :: l, k, a, hk, hp, hc, h => by
    rcases List.mem_cons.1 h with rfl | h
    · exact ⟨k, hk, hp⟩
    · exact chain_has hc.1 hc.2.1 hc.2.2 h
/-- One that has no children is above none. -/
theorem leaf_up {ρ : Id → Rec} {t : Fo} (hn : t.ids.Nodup) (hF : Fo.Fits ρ none t) {a k : Id} (hk : k ∈ t.ids) (hL : (ρ a).L = []) (hR : (ρ a).R = []) : a ∉ Fo.upL t k := fun h => by
  obtain ⟨j, hj, hp⟩ := chain_has hk (par_up hn hF hk) (chain_up hn hF _ _ rfl) h
  rcases fits_child hF j hj with ⟨e, _⟩ | ⟨q, _, e, h'⟩
  · rw [hp] at e; cases e
  · rw [hp] at e
    cases e
    rw [hL, hR] at h'
    rcases h' with h' | h' <;> cases h'
/-- One behind the last one: all that is told. -/
theorem run_one {ρ : Id → Rec} {t : Fo} {u : Un} (hg : Fo.Good t) (hF : Fo.Fits ρ none t) (hu : u ∈ t.flat) (hL : (ρ u.id).L = []) (hR : (ρ u.id).R = []) (hc : Fo.Can t (nx u)) :
    ∃ k P, Puts ρ t (nx u) (Fo.upL t u.r) (u.id :: Fo.upL t u.id) ⟨false, some u.id, k⟩ P := by
  have hui : u.id ∈ t.ids := List.mem_map.2 ⟨u, hu, rfl⟩
  have hl : Fo.isL t (nx u) = false := by
    unfold Fo.isL
    by_cases hr : u.r ∈ t.ids
    · have h1 : (nx u).r ∈ t.ids := hr
      have h2 : (nx u).l ∈ t.ids := hui
      have h3 : (nx u).l ∉ Fo.upL t (nx u).r := leaf_up hg.nd hF hr hL hR
      simp [h1, h2, h3]
    · have h1 : (nx u).r ∉ t.ids := hr
      simp [h1]
  exact puts_right_l hg hF hc hl hui
theorem towL_mem : ∀ {m : Nat} {N : List Id} {u : Un} {k : Id}, k ∈ towL N u m ↔ k ∈ N ∨ k ∈ towI u m
  | 0, N, u, k => ⟨.inl, fun h => h.elim id fun h => by cases h⟩
  | m + 1, N, u, k => by
    show k ∈ towL ((nx u).id :: N) (nx u) m ↔ _
    rw [towL_mem, towI_succ, List.mem_cons, List.mem_cons]
    exact ⟨fun h => h.elim (fun h => h.elim (fun e => .inr (.inl e)) .inl) (fun h => .inr (.inr h)), fun h => h.elim (fun h => .inl (.inr h)) (fun h => h.elim (fun e => .inl (.inl e)) .inr)⟩
theorem run_fits : ∀ (m : Nat) {ρ : Id → Rec} {t : Fo} {u : Un}, Fo.Good t → Fo.Fits ρ none t → u ∈ t.flat → (ρ u.id).L = [] → (ρ u.id).R = [] → (∀ k ∈ towI u m, k ∉ t.ids) → Fo.rightId u.id = true → u.id.2 + m ≤ 9007199254740991 →
    Fo.Fits (towR (bump m (u.id :: Fo.upL t u.id) ρ) u m) none (runT t u m) ∧ Fo.Good (runT t u m) ∧ (runT t u m).tips = t.tips ∧ (runT t u m).ids = t.ids.take (t.pos u.id + 1) ++ towI u m ++ t.ids.drop (t.pos u.id + 1) ∧ (∀ k, k ∈ (runT t u m).ids ↔ k ∈ towL t.ids u m)
  | 0, ρ, t, u, hg, hF, hu, hL, hR, hnew, hr, hclk => by
    have e : bump 0 (u.id :: Fo.upL t u.id) ρ = ρ := funext fun j => by
      unfold bump
      split <;> rfl
    refine ⟨by unfold towR; rw [e]; exact hF, hg, rfl, ?_, fun k => Iff.rfl⟩
    show t.ids = _ ++ [] ++ _
    rw [List.append_nil, List.take_append_drop]
  | m + 1, ρ, t, u, hg, hF, hu, hL, hR, hnew, hr, hclk => by
    have hui : u.id ∈ t.ids := List.mem_map.2 ⟨u, hu, rfl⟩
    have hx : (nx u).id ∉ t.ids := hnew _ (by rw [towI_succ]; exact List.mem_cons_self ..)
    have hxr : Fo.rightId (nx u).id = true := by
      unfold Fo.rightId Fo.num at hr ⊢
      simp only [Bool.and_eq_true, decide_eq_true_eq] at hr ⊢
      have e1 : (nx u).id.1 = u.id.1 := rfl
      have e2 : (nx u).id.2 = u.id.2 + 1 := rfl
      omega
    have hc : Fo.Can t (nx u) := ⟨hxr, hx, .inr hui, (hg.org u hu).2⟩
    obtain ⟨k, P, hP⟩ := run_one hg hF hu hL hR hc
    have hg1 := hg.put hc
    have hk0 : k = 0 := by
      have h1 := hP.hW
      rw [if_neg (by simp)] at h1
      have h2 := h1.1.kl
      rw [← h1.2] at h2
      have h3 : (rowOf ρ t.tips (some u.id)).length = 0 := by show (ρ u.id).R.length = 0; rw [hR]; rfl
      dsimp only at h2
      omega
    subst hk0
    have hF1 := hP.fits
    have hxne := nx_ne u
    have hxc : (nx u).id ∉ u.id :: Fo.upL t u.id := fun h => (List.mem_cons.1 h).elim hxne fun h => hx (Fo.upL_sub h)
    have hlx := laid_new (ρ := ρ) (rt := t.tips) (u := nx u) (V := ⟨false, some u.id, 0⟩) (fun h => by cases h) (fun p e => by cases e; exact hxne)
    have hlu : laid (fset ρ (nx u).id (newRec (nx u))) t.tips (nx u).id ⟨false, some u.id, 0⟩ u.id = { ρ u.id with R := [(nx u).id] } := by
      have e : (fset ρ (nx u).id (newRec (nx u))) u.id = ρ u.id := fset_ne (Ne.symm hxne)
      unfold laid recR
      rw [if_neg (by simp)]
      dsimp only [rowOf]
      rw [fset_same, fset_ne (Ne.symm hxne), e, hR]
      rfl
    have hlo : ∀ j, j ≠ (nx u).id → j ≠ u.id → laid (fset ρ (nx u).id (newRec (nx u))) t.tips (nx u).id ⟨false, some u.id, 0⟩ j = ρ j := fun j h1 h2 => laid_far h1 (fun p e => by cases e; exact h2)
    have hPp : P = t.pos u.id + 1 := by
      have h1 := hP.hP
      rw [if_neg (by simp), List.take_zero] at h1
      dsimp only [place0] at h1
      rw [findV_pos hui] at h1
      have h2 : sumN ρ [] = 0 := rfl
      omega
    have hids := hP.ids
    have htips := hP.tips
    rw [if_neg (by simp)] at htips
    dsimp only [rtR] at htips
    have hmem : ∀ k, k ∈ (Fo.put t (nx u)).ids ↔ k = (nx u).id ∨ k ∈ t.ids := Fo.put_ids hg.nd
    have hPl := hP.hPl
    have hch := hP.hch.1
    clear hP
    generalize laid (fset ρ (nx u).id (newRec (nx u))) t.tips (nx u).id ⟨false, some u.id, 0⟩ = τ at *
    have hup : Fo.upL (Fo.put t (nx u)) (nx u).id = u.id :: Fo.upL t u.id := by
      have h1 := par_up hg1.nd hF1 ((hmem _).2 (.inl rfl))
      rw [bump_out hxc, hlx] at h1
      refine chain_uniq (chain_up hg1.nd hF1 _ _ rfl) (ChainL.congr (fun j hj => ⟨(hmem j).2 (.inr hj), ?_⟩) hch) h1.symm
      show (τ j).par = _
      by_cases e : j = u.id
      · subst e
        rw [hlu]
      · rw [hlo j (fun e' => hx (e' ▸ hj)) e]
    have ih := run_fits m hg1 hF1 ((Fo.put_mem hg.nd _).2 (.inl rfl)) (by rw [bump_out hxc, hlx]) (by rw [bump_out hxc, hlx]) (fun k hk hm => by
      rcases (hmem k).1 hm with rfl | h
      · exact Nat.lt_irrefl _ (tow_mem hk).2.1
      · exact hnew k (by rw [towI_succ]; exact List.mem_cons_of_mem _ hk) h) hxr (by show u.id.2 + 1 + m ≤ _; omega)
    rw [hup] at ih
    have heq : bump m ((nx u).id :: u.id :: Fo.upL t u.id) (bump 1 (u.id :: Fo.upL t u.id) τ) = fset (fset (bump (m + 1) (u.id :: Fo.upL t u.id) ρ) (nx u).id ⟨nx u, some u.id, [], [], m + 1⟩) u.id { bump (m + 1) (u.id :: Fo.upL t u.id) ρ u.id with R := [(nx u).id] } := funext fun j => by
      by_cases e1 : j = u.id
      · subst e1
        rw [fset_same]
        unfold bump
        rw [if_pos (List.mem_cons_of_mem _ (List.mem_cons_self ..)), if_pos (List.mem_cons_self ..), if_pos (List.mem_cons_self ..), hlu]
        simp only [Rec.mk.injEq, true_and]
        omega
      · rw [fset_ne e1]
        by_cases e2 : j = (nx u).id
        · subst e2
          rw [fset_same]
          unfold bump
          rw [if_pos (List.mem_cons_self ..), if_neg hxc, hlx]
          simp only [Rec.mk.injEq, true_and]
          omega
        · rw [fset_ne e2]
          unfold bump
          rw [hlo j e2 e1]
          have h1 : j ∈ (nx u).id :: u.id :: Fo.upL t u.id ↔ j ∈ u.id :: Fo.upL t u.id := by rw [List.mem_cons]; exact ⟨fun h => h.resolve_left e2, .inr⟩
          simp only [h1]
          simp only [Rec.mk.injEq, true_and]
          split <;> omega
    have hpx : (Fo.put t (nx u)).pos (nx u).id = P := by
      unfold Fo.pos
      rw [← hids, List.idxOf_append, if_neg (fun h => hx (List.mem_of_mem_take h)), List.idxOf_cons_self, List.length_take]
      omega
    refine ⟨?_, ih.2.1, ih.2.2.1.trans htips.symm, ?_, fun k => ?_⟩
    · have h1 := ih.1
      rw [heq] at h1
      exact h1
    · have h1 := ih.2.2.2.1
      show (runT (Fo.put t (nx u)) (nx u) m).ids = _
      rw [h1, hpx, ← hids, towI_succ, ← hPp]
      have e1 : (t.ids.take P ++ (nx u).id :: t.ids.drop P).take (P + 1) = t.ids.take P ++ [(nx u).id] := by
        rw [List.take_append, List.take_of_length_le (by rw [List.length_take]; omega), List.length_take]
        have : P + 1 - min P t.ids.length = 1 := by omega
        rw [this]
        rfl
      have e2 : (t.ids.take P ++ (nx u).id :: t.ids.drop P).drop (P + 1) = t.ids.drop P := by
        rw [List.drop_append, List.drop_of_length_le (by rw [List.length_take]; omega), List.length_take]
        have : P + 1 - min P t.ids.length = 1 := by omega
        rw [this]
        rfl
      rw [e1, e2]
      simp
    · show k ∈ (runT (Fo.put t (nx u)) (nx u) m).ids ↔ k ∈ towL ((nx u).id :: t.ids) (nx u) m
      rw [ih.2.2.2.2 k, towL_mem, towL_mem, hmem, List.mem_cons]
end Sq
end Go.Proofs.Ytmammcgdjjldbaa
