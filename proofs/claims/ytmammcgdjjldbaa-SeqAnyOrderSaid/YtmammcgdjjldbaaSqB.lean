/- Plain: a new unit stands between its origins. -/
import Derived.Test.YtmammcgdjjldbaaSqY
namespace Go.Proofs.Ytmammcgdjjldbaa
set_option maxRecDepth 100000
namespace Sq
open Go Go.RowKit Sx Tl
namespace Fo
theorem up_up {t : Fo} (hn : t.ids.Nodup) : ∀ (c : List Id) {k j : Id}, upL t k = c → j ∈ c → ∀ x ∈ upL t j, x ∈ c
  | [], _, _, _, h, _, _ => by cases h
  | a :: c, k, j, hc, hj, x, hx => by
    have h1 := upL_tail hn hc
    rcases List.mem_cons.1 hj with rfl | hj
    · rw [h1] at hx
      exact List.mem_cons_of_mem _ hx
    · exact List.mem_cons_of_mem _ (up_up hn c h1 hj x hx)
theorem up_not {t : Fo} (hn : t.ids.Nodup) {k j : Id} (h : k ∈ upL t j) : j ∉ upL t k := fun hj => upL_self hn (up_up hn _ rfl hj k h)
theorem below_up {ρ : Id → Rec} {t : Fo} (hn : t.ids.Nodup) (hF : Fits ρ none t) {k : Id} : ∀ {l : Fo} {q : Id}, Fits ρ (some q) l → (∀ j ∈ l.ids, j ∈ t.ids) → (q = k ∨ k ∈ upL t q) → ∀ j ∈ l.ids, k ∈ upL t j
  | nil, _, _, _, _, _, h => by cases h
  | nd u l r s, q, h, hm, hq, j, hj => by
    have hin : ∀ i, i ∈ l.ids ∨ i = u.id ∨ i ∈ r.ids ∨ i ∈ s.ids → i ∈ t.ids := fun i hi => hm i (by
      rw [ids_nd]
      simp only [List.mem_append, List.mem_cons]
      rcases hi with h | h | h | h
      · exact .inl (.inl h)
      · exact .inl (.inr (.inl h))
      · exact .inl (.inr (.inr h))
      · exact .inr h)
    have hu : k ∈ upL t u.id := by
      have hut := hin u.id (.inr (.inl rfl))
      have h1 := par_up hn hF hut
      rw [h.1] at h1
      cases hc : upL t u.id with
      | nil => rw [hc] at h1; cases h1
      | cons a c =>
        rw [hc] at h1
        have e : q = a := Option.some.inj h1
        subst e
        rcases hq with rfl | hq
        · exact List.mem_cons_self ..
        · have := upL_tail hn hc
          rw [this] at hq
          exact List.mem_cons_of_mem _ hq
    by_cases e : u.id = j
    · rw [← e]
      exact hu
    · rcases mem_nd hj e with h1 | h1 | h1
      · exact below_up hn hF h.2.1 (fun i hi => hin i (.inl hi)) (.inr hu) j h1
      · exact below_up hn hF h.2.2.1 (fun i hi => hin i (.inr (.inr (.inl hi)))) (.inr hu) j h1
      · exact below_up hn hF h.2.2.2 (fun i hi => hin i (.inr (.inr (.inr hi)))) hq j h1
theorem mem_ids {l : List Un} {k : Id} {t : Fo} (h : t.flat = l) : k ∈ t.ids ↔ k ∈ l.map (·.id) := by unfold ids; rw [h]
theorem pos_at {t : Fo} {A B : List Un} {u : Un} (hn : t.ids.Nodup) (hf : t.flat = A ++ u :: B) : pos t u.id = A.length := by
  unfold pos
  have e : t.ids = A.map (·.id) ++ u.id :: B.map (·.id) := by unfold ids; rw [hf]; simp
  rw [e] at hn ⊢
  rw [List.nodup_append] at hn
  rw [List.idxOf_append, if_neg (fun hm => hn.2.2 _ hm _ (List.mem_cons_self ..) rfl), List.idxOf_cons_self, List.length_map]
  exact Nat.zero_add _
theorem pos_lt {t : Fo} {A B : List Un} {k : Id} (hf : t.flat = A ++ B) (hk : k ∈ A.map (·.id)) : pos t k < A.length := by
  unfold pos
  have e : t.ids = A.map (·.id) ++ B.map (·.id) := by unfold ids; rw [hf]; simp
  rw [e, List.idxOf_append, if_pos hk]
  have := List.idxOf_lt_length_iff.2 hk
  rwa [List.length_map] at this
theorem pos_ge {t : Fo} {A B : List Un} {k : Id} (hn : t.ids.Nodup) (hf : t.flat = A ++ B) (hk : k ∈ B.map (·.id)) : A.length ≤ pos t k := by
  unfold pos
  have e : t.ids = A.map (·.id) ++ B.map (·.id) := by unfold ids; rw [hf]; simp
  rw [e] at hn ⊢
  rw [List.nodup_append] at hn
  rw [List.idxOf_append, if_neg (fun hm => hn.2.2 _ hm _ hk rfl), List.length_map]
  omega
theorem between {ρ : Id → Rec} {t : Fo} {u : Un} (hg : Good t) (hF : Fits ρ none t) (hM : May t u) : ∃ A B, t.flat = A ++ B ∧ (put t u).flat = A ++ u :: B ∧ (u.l ≠ none' → u.l ∈ A.map (·.id)) ∧ (u.r ≠ none' → u.r ∈ B.map (·.id)) := by
  have hn := hg.nd
  cases hL : isL t u with
  | true =>
    have hL' := hL
    unfold isL at hL'
    simp only [Bool.and_eq_true, Bool.or_eq_true, Bool.not_eq_true', decide_eq_true_eq, decide_eq_false_iff_not] at hL'
    obtain ⟨hr, hl⟩ := hL'
    obtain ⟨A, B, v, l, r, hv, hf, hp, hsp⟩ := put_left hn hL hr
    obtain ⟨_, hFl, _⟩ := hsp ρ none hF
    have hmem := mem_split hf
    refine ⟨A ++ (fst (pass (fun a => lt a.id u.id) l) l).flat, (rst (pass (fun a => lt a.id u.id) l) l).flat ++ v :: r.flat ++ B, ?_, ?_, fun hne => ?_, fun _ => ?_⟩
    · rw [hf]
      conv => lhs; rw [← fst_rst (pass (fun a => lt a.id u.id) l) l]
      simp
    · rw [hp]
      simp
    · have hlt := hM.l.resolve_left hne
      have hup := hl.resolve_left fun h => h hlt
      have hnl : u.l ∉ l.ids := fun h => up_not hn (below_up hn hF hFl hmem.1 (.inl rfl) u.l h) hup
      have hpos : pos t u.l < pos t u.r := by
        rcases hM.lr with h | h | h
        · exact absurd h hne
        · exact absurd (h ▸ hr) hg.none
        · exact h
      have hpr := pos_split hn hf
      rw [hv] at hpr
      have hin : u.l ∈ (A ++ l.flat).map (·.id) := by
        refine Classical.byContradiction fun hno => ?_
        have hf2 : t.flat = (A ++ l.flat) ++ (v :: r.flat ++ B) := by rw [hf]; simp
        have : u.l ∈ ((v :: r.flat ++ B).map (·.id)) := by
          have := (mem_ids hf2).1 hlt
          rw [List.map_append] at this
          exact (List.mem_append.1 this).resolve_left hno
        have := pos_ge hn hf2 this
        rw [List.length_append] at this
        unfold sz at hpr
        omega
      rw [List.map_append, List.mem_append] at hin ⊢
      exact .inl (hin.resolve_right hnl)
    · rw [← hv]
      simp
  | false =>
    have hLr : u.r ∈ t.ids → u.l ∈ t.ids ∧ u.l ∉ upL t u.r := fun hr => by
      unfold isL at hL
      simp only [hr, decide_true, Bool.true_and, Bool.or_eq_false_iff, Bool.not_eq_false', decide_eq_true_eq, decide_eq_false_iff_not] at hL
      exact hL
    by_cases hl : u.l ∈ t.ids
    · obtain ⟨A, B, v, l, r, hv, hf, hp, hsp⟩ := put_right hn hL hl
      obtain ⟨_, _, hFr⟩ := hsp ρ none hF
      have hmem := mem_split hf
      have hf3 : t.flat = A ++ l.flat ++ v :: (fst (pass (fun a => ahead t a u) r) r).flat ++ ((rst (pass (fun a => ahead t a u) r) r).flat ++ B) := by
        rw [hf]
        conv => lhs; rw [← fst_rst (pass (fun a => ahead t a u) r) r]
        simp
      refine ⟨A ++ l.flat ++ v :: (fst (pass (fun a => ahead t a u) r) r).flat, (rst (pass (fun a => ahead t a u) r) r).flat ++ B, hf3, ?_, fun _ => ?_, fun hne => ?_⟩
      · rw [hp]
        simp
      · rw [← hv]
        simp
      · have hrt := hM.r.resolve_left hne
        have hnr : u.r ∉ r.ids := fun h => (hLr hrt).2 (below_up hn hF hFr hmem.2 (.inl rfl) u.r h)
        have hpos : pos t u.l < pos t u.r := by
          rcases hM.lr with h | h | h
          · exact absurd (h ▸ hl) hg.none
          · exact absurd h hne
          · exact h
        have hpl := pos_split hn hf
        rw [hv] at hpl
        have hin : u.r ∈ B.map (·.id) := by
          refine Classical.byContradiction fun hno => ?_
          have hf2 : t.flat = (A ++ l.flat ++ [v]) ++ (r.flat ++ B) := by rw [hf]; simp
          have h1 := (mem_ids hf2).1 hrt
          rw [List.map_append, List.mem_append, List.map_append (l₁ := r.flat), List.mem_append] at h1
          have h2 := h1.resolve_right fun h => h.elim hnr hno
          have h3 := pos_lt hf2 h2
          simp only [List.length_append, List.length_singleton] at h3
          unfold sz at hpl
          omega
        rw [List.map_append, List.mem_append]
        exact .inr hin
    · have h0 := hM.l.resolve_right hl
      have hr0 : u.r = none' := hM.r.resolve_right fun h => hl (hLr h).1
      exact ⟨_, _, (fst_rst _ t).symm, put_root hL hl, fun h => absurd h0 h, fun h => absurd hr0 h⟩
/-- Between neighbours. -/
theorem put_at {ρ : Id → Rec} {t : Fo} {u : Un} (hg : Good t) (hF : Fits ρ none t) (hM : May t u) {n : Nat} (hl : u.l = none' → n = 0) (hl2 : u.l ≠ none' → pos t u.l + 1 = n) (hr : u.r = none' → n = t.sz) (hr2 : u.r ≠ none' → pos t u.r = n) : pos (put t u) u.id = n := by
  obtain ⟨A, B, h1, h2, h3, h4⟩ := between hg hF hM
  rw [pos_at (put_nodup hg.nd hM.new) h2]
  have hlen : A.length + B.length = t.sz := by unfold sz; rw [h1, List.length_append]
  have e1 : n ≤ A.length := by
    by_cases e : u.l = none'
    · have := hl e
      omega
    · have := pos_lt h1 (h3 e)
      have := hl2 e
      omega
  have e2 : A.length ≤ n := by
    by_cases e : u.r = none'
    · have := hr e
      omega
    · have := pos_ge hg.nd h1 (h4 e)
      have := hr2 e
      omega
  omega
theorem pos_get {t : Fo} (hn : t.ids.Nodup) {n : Nat} (h : n < t.sz) : pos t (t.flat.getD n default).id = n ∧ (t.flat.getD n default).id ∈ t.ids := by
  have h1 : n < t.flat.length := h
  have h2 : n < t.ids.length := by rw [ids_len]; exact h
  rw [List.getD_eq_getElem?_getD, List.getElem?_eq_getElem h1]
  have h3 : t.ids[n] = (t.flat[n]).id := by simp only [ids, List.getElem_map]
  show pos t (t.flat[n]).id = n ∧ (t.flat[n]).id ∈ t.ids
  rw [← h3]
  exact ⟨idxOf_at hn h2, List.getElem_mem h2⟩
end Fo
theorem SqAt.fits {w : World} {p : Nat} {F : Nat → Prop} {t : Fo} (h : SqAt w p F t) : ∃ ρ, Fo.Fits ρ none t := by
  obtain ⟨E, ρ, _, _, _, _, h, _⟩ := h
  exact ⟨ρ, h⟩
end Sq
end Go.Proofs.Ytmammcgdjjldbaa
