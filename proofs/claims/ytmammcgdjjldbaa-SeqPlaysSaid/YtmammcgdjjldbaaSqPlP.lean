/- Plain: a run, unit by unit, each of which may. -/
import Derived.Test.YtmammcgdjjldbaaSqRunsP
namespace Go.Proofs.Ytmammcgdjjldbaa
set_option maxRecDepth 100000
namespace Sq
open Go Go.RowKit Sx Tl
theorem fits_put {ρ : Id → Rec} {t : Fo} {u : Un} (hg : Fo.Good t) (hF : Fo.Fits ρ none t) (hm : Fo.Can t u) : ∃ σ, Fo.Fits σ none (Fo.put t u) := by
  obtain ⟨rc, c, V, P, hP⟩ := puts hg hF hm
  exact ⟨_, hP.fits⟩
/-- A run that is taken: each unit may when it comes. -/
theorem trun_may {t : Fo} {u : Un} {m : Nat} (hg : Fo.Good t) (hF : ∃ ρ, Fo.Fits ρ none t) (hM : Fo.May t u) (hfree : ∀ i, i < m → (u.id.1, u.id.2 + i) ∉ t.ids) (hc : u.id.2 + m ≤ 9007199254740992) : ∀ i, i ≤ m →
    Fo.Good (trun t u i) ∧ (∃ ρ, Fo.Fits ρ none (trun t u i)) ∧ (trun t u i).sz = t.sz + i ∧ (∀ k, k ∈ (trun t u i).ids ↔ k ∈ t.ids ∨ ∃ j, j < i ∧ k = (u.id.1, u.id.2 + j)) ∧ (i < m → Fo.May (trun t u i) (nxs u i))
  | 0, _ => ⟨hg, hF, rfl, fun k => ⟨.inl, fun h => h.elim id fun ⟨j, hj, _⟩ => absurd hj (Nat.not_lt_zero _)⟩, fun _ => by rw [nxs_zero]; exact hM⟩
  | i + 1, hi => by
    obtain ⟨h1, ⟨ρ, h2⟩, h3, h4, h5⟩ := trun_may hg hF hM hfree hc i (by omega)
    have h5 := h5 (by omega)
    rw [trun_succ]
    have hg2 := h1.put h5.toCan
    obtain ⟨A, B, b1, b2, b3, b4⟩ := Fo.between h1 h2 h5
    have hid : (nxs u i).id = (u.id.1, u.id.2 + i) := rfl
    have hids : ∀ k, k ∈ (Fo.put (trun t u i) (nxs u i)).ids ↔ k ∈ t.ids ∨ ∃ j, j < i + 1 ∧ k = (u.id.1, u.id.2 + j) := fun k => by
      rw [Fo.put_ids h1.nd, h4, hid]
      constructor
      · rintro (h | h | ⟨j, hj, h⟩)
        · exact .inr ⟨i, Nat.lt_succ_self i, h⟩
        · exact .inl h
        · exact .inr ⟨j, by omega, h⟩
      · rintro (h | ⟨j, hj, h⟩)
        · exact .inr (.inl h)
        · rcases Nat.lt_succ_iff_lt_or_eq.1 hj with hj | rfl
          · exact .inr (.inr ⟨j, hj, h⟩)
          · exact .inl h
    refine ⟨hg2, fits_put h1 h2 h5.toCan, by rw [Fo.put_sz h1.nd, h3]; omega, hids, fun hlt => ?_⟩
    rw [nxs_succ]
    have hr := h5.right
    unfold Fo.rightId Fo.num at hr
    simp only [Bool.and_eq_true, decide_eq_true_eq] at hr
    rw [hid] at hr
    dsimp only at hr
    refine ⟨⟨?_, fun hm => ?_, .inr ((Fo.put_ids h1.nd _).2 (.inl rfl)), ?_⟩, ?_⟩
    · unfold Fo.rightId Fo.num
      simp only [Bool.and_eq_true, decide_eq_true_eq]
      omega
    · rcases (hids _).1 hm with h | ⟨j, hj, h⟩
      · exact hfree (i + 1) hlt h
      · have := congrArg Prod.snd h
        dsimp only at this
        omega
    · show u.r = Fo.none' ∨ u.r ∈ _
      rcases h5.r with h | h
      · exact .inl h
      · exact .inr ((Fo.put_ids h1.nd _).2 (.inr h))
    · show _ ∨ u.r = Fo.none' ∨ _ < Fo.pos _ u.r
      by_cases h : u.r = Fo.none'
      · exact .inr (.inl h)
      · refine .inr (.inr ?_)
        have p1 := Fo.pos_at hg2.nd b2
        have p2 := Fo.pos_ge (A := A ++ [nxs u i]) (B := B) hg2.nd (by rw [b2]; simp) (b4 h)
        rw [hid] at p1
        rw [List.length_append, List.length_singleton] at p2
        show Fo.pos _ (u.id.1, u.id.2 + i) < _
        have e : (nxs u i).r = u.r := rfl
        rw [e] at p2
        omega
/-- What the program's Run leaves, as a run. -/
theorem runR_trun {t : Fo} {u : Un} {n : Int} (h : runOk t u n = true) : runR t u n = trun t u n.toNat := by
  unfold runR
  rw [h, if_pos rfl]
  have hn : 1 ≤ n := by
    unfold runOk at h
    simp only [Bool.and_eq_true, decide_eq_true_eq] at h
    exact h.1
  have := run_trun t u (n.toNat - 1) 0
  rw [trun_succ, trun_zero, nxs_zero] at this
  rw [this]
  congr 1
  omega
end Sq
end Go.Proofs.Ytmammcgdjjldbaa
