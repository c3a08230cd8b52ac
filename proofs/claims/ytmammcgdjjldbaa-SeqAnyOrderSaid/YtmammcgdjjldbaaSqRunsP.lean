/- Plain: a run stands in one piece. -/
import Derived.Test.YtmammcgdjjldbaaSqB
import Derived.Test.YtmammcgdjjldbaaSqN
import Derived.Test.YtmammcgdjjldbaaSqRh
namespace Go.Proofs.Ytmammcgdjjldbaa
set_option maxRecDepth 100000
namespace Sq
open Go Go.RowKit Sx Tl
/-- The run's units. -/
def nxs (u : Un) (i : Nat) : Un := ⟨(u.id.1, u.id.2 + i), if i = 0 then u.l else (u.id.1, u.id.2 + i - 1), u.r⟩
theorem nxs_zero (u : Un) : nxs u 0 = u := rfl
theorem nxs_succ (u : Un) (i : Nat) : nxs u (i + 1) = ⟨(u.id.1, u.id.2 + (i + 1)), (u.id.1, u.id.2 + i), u.r⟩ := by
  unfold nxs
  rw [if_neg (Nat.succ_ne_zero i)]
  rfl
theorem nx_nxs (u : Un) (i : Nat) : nx (nxs u i) = nxs u (i + 1) := by
  rw [nxs_succ]
  rfl
def trun (t : Fo) (u : Un) (k : Nat) : Fo := Fo.putL t ((List.range k).map (nxs u))
theorem trun_zero (t : Fo) (u : Un) : trun t u 0 = t := rfl
theorem trun_succ (t : Fo) (u : Un) (k : Nat) : trun t u (k + 1) = Fo.put (trun t u k) (nxs u k) := by
  unfold trun
  rw [List.range_succ, List.map_append, List.map_singleton, Fo.putL_snoc]
theorem run_trun (t : Fo) (u : Un) : ∀ (j k : Nat), runT (trun t u (k + 1)) (nxs u k) j = trun t u (k + 1 + j)
  | 0, _ => rfl
  | j + 1, k => by
    show runT (Fo.put (trun t u (k + 1)) (nx (nxs u k))) (nx (nxs u k)) j = _
    rw [nx_nxs, ← trun_succ, run_trun t u j (k + 1)]
    congr 1
    omega
namespace Fo
theorem put_flat {ρ : Id → Rec} {t : Fo} {u : Un} {A B : List Un} (hg : Good t) (hF : Fits ρ none t) (hM : May t u) (h : t.flat = A ++ B) (hl : u.l = none' → A = []) (hl2 : u.l ≠ none' → pos t u.l + 1 = A.length) (hr : u.r = none' → B = []) (hr2 : u.r ≠ none' → pos t u.r = A.length) : (put t u).flat = A ++ u :: B := by
  obtain ⟨A', B', h1, h2, h3, h4⟩ := between hg hF hM
  have e1 : A.length ≤ A'.length := by
    by_cases e : u.l = none'
    · rw [hl e]
      exact Nat.zero_le _
    · have := pos_lt h1 (h3 e)
      have := hl2 e
      omega
  have hlen : A.length + B.length = A'.length + B'.length := by rw [← List.length_append, ← List.length_append, ← h, ← h1]
  have e2 : A'.length ≤ A.length := by
    by_cases e : u.r = none'
    · rw [hr e, List.length_nil] at hlen
      omega
    · have := pos_ge hg.nd h1 (h4 e)
      have := hr2 e
      omega
  obtain ⟨rfl, rfl⟩ := List.append_inj (h.symm.trans h1) (by omega)
  exact h2
end Fo
/-- Where a run goes: between neighbours. -/
structure Site (t : Fo) (u : Un) (A B : List Un) (m : Nat) : Prop where
  good : Fo.Good t
  fits : ∃ ρ, Fo.Fits ρ none t
  flat : t.flat = A ++ B
  l : (u.l = Fo.none' ∧ A = []) ∨ (∃ A' a, A = A' ++ [a] ∧ a.id = u.l)
  r : (u.r = Fo.none' ∧ B = []) ∨ (∃ b B', B = b :: B' ∧ b.id = u.r)
  free : ∀ i, i < m → (u.id.1, u.id.2 + i) ∉ t.ids
  num : 1 ≤ u.id.1 ∧ u.id.1 ≤ 9007199254740991 ∧ 1 ≤ u.id.2 ∧ u.id.2 + m ≤ 9007199254740992
theorem site_run {t : Fo} {u : Un} {A B : List Un} {m : Nat} (h : Site t u A B m) : ∀ k, k ≤ m → (Fo.Good (trun t u k) ∧ (∃ ρ, Fo.Fits ρ none (trun t u k)) ∧ (trun t u k).flat = A ++ (List.range k).map (nxs u) ++ B) ∧ (k < m → Fo.May (trun t u k) (nxs u k))
  | 0, hk => by
    have hin : ∀ {X : List Un} {v : Un} {Y : List Un}, t.flat = X ++ v :: Y → v.id ∈ t.ids := fun {X v Y} e => by
      unfold Fo.ids
      rw [e]
      simp
    refine ⟨⟨h.good, h.fits, by rw [trun_zero]; simpa using h.flat⟩, fun hm => ⟨⟨?_, h.free 0 hm, ?_, ?_⟩, ?_⟩⟩
    · have := h.num
      show Fo.rightId (u.id.1, u.id.2 + 0) = true
      unfold Fo.rightId Fo.num
      simp
      omega
    · rcases h.l with ⟨h1, _⟩ | ⟨A', a, h1, h2⟩
      · exact .inl h1
      · refine .inr ?_
        show u.l ∈ t.ids
        rw [← h2]
        exact hin (X := A') (Y := B) (by rw [h.flat, h1]; simp)
    · rcases h.r with ⟨h1, _⟩ | ⟨b, B', h1, h2⟩
      · exact .inl h1
      · refine .inr ?_
        show u.r ∈ t.ids
        rw [← h2]
        exact hin (X := A) (Y := B') (by rw [h.flat, h1])
    · rcases h.l with ⟨h1, _⟩ | ⟨A', a, h1, h2⟩
      · exact .inl h1
      · rcases h.r with ⟨k1, _⟩ | ⟨b, B', k1, k2⟩
        · exact .inr (.inl k1)
        · refine .inr (.inr ?_)
          show t.pos u.l < t.pos u.r
          have e1 : t.flat = A' ++ a :: B := by rw [h.flat, h1]; simp
          have e2 : t.flat = A ++ b :: B' := by rw [h.flat, k1]
          rw [← h2, ← k2, Fo.pos_at h.good.nd e1, Fo.pos_at h.good.nd e2, h1, List.length_append]
          exact Nat.lt_succ_self _
  | k + 1, hk => by
    obtain ⟨⟨hg, ⟨ρ, hF⟩, hf⟩, hM⟩ := site_run h k (by omega)
    have hM := hM (by omega)
    have hno := h.good.none
    have hnoA : ∀ {X : List Un} {v : Un} {Y : List Un}, t.flat = X ++ v :: Y → v.id ≠ Fo.none' := fun {X v Y} e e' => hno (by
      rw [← e']
      unfold Fo.ids
      rw [e]
      simp)
    have hlen : ((List.range k).map (nxs u)).length = k := by rw [List.length_map, List.length_range]
    have hflat : (Fo.put (trun t u k) (nxs u k)).flat = (A ++ (List.range k).map (nxs u)) ++ nxs u k :: B := by
      refine Fo.put_flat hg hF hM hf (fun e => ?_) (fun e => ?_) (fun e => ?_) (fun e => ?_)
      · cases k with
        | zero =>
          rcases h.l with ⟨_, h1⟩ | ⟨A', a, h1, h2⟩
          · rw [h1]
            rfl
          · have e : u.l = Fo.none' := e
            exact absurd (h2.trans e) (hnoA (X := A') (Y := B) (by rw [h.flat, h1]; simp))
        | succ k =>
          exfalso
          unfold nxs at e
          rw [if_neg (by omega)] at e
          have := h.num
          have e' := congrArg Prod.fst e
          dsimp only [Fo.none'] at e'
          omega
      · cases k with
        | zero =>
          rcases h.l with ⟨h1, _⟩ | ⟨A', a, h1, h2⟩
          · exact absurd h1 e
          · show t.pos u.l + 1 = _
            have e1 : t.flat = A' ++ a :: B := by rw [h.flat, h1]; simp
            rw [← h2, Fo.pos_at h.good.nd e1, h1]
            simp
        | succ k =>
          have hid : (nxs u (k + 1)).l = (nxs u k).id := by
            unfold nxs
            rw [if_neg (by omega)]
            rfl
          rw [hid]
          have e1 : (trun t u (k + 1)).flat = (A ++ (List.range k).map (nxs u)) ++ nxs u k :: B := by rw [hf, List.range_succ, List.map_append]; simp
          rw [Fo.pos_at hg.nd e1, List.length_append, List.length_append, hlen, List.length_map, List.length_range]
          omega
      · rcases h.r with ⟨_, h1⟩ | ⟨b, B', h1, h2⟩
        · exact h1
        · have e : u.r = Fo.none' := e
          exact absurd (h2.trans e) (hnoA (X := A) (Y := B') (by rw [h.flat, h1]))
      · rcases h.r with ⟨h1, _⟩ | ⟨b, B', h1, h2⟩
        · exact absurd h1 e
        · show (trun t u k).pos u.r = _
          have e1 : (trun t u k).flat = (A ++ (List.range k).map (nxs u)) ++ b :: B' := by rw [hf, h1]
          rw [← h2, Fo.pos_at hg.nd e1]
    have hg' : Fo.Good (trun t u (k + 1)) := by rw [trun_succ]; exact hg.put hM.toCan
    have hf' : (trun t u (k + 1)).flat = A ++ (List.range (k + 1)).map (nxs u) ++ B := by
      rw [trun_succ, hflat, List.range_succ, List.map_append]
      simp
    refine ⟨⟨hg', ?_, hf'⟩, fun hm => ?_⟩
    · obtain ⟨rc, c, V, P, hP⟩ := puts hg hF hM.toCan
      rw [trun_succ]
      exact ⟨_, hP.fits⟩
    · have hin : ∀ v ∈ A ++ (List.range (k + 1)).map (nxs u) ++ B, v.id ∈ (trun t u (k + 1)).ids := fun v hv => by
        unfold Fo.ids
        rw [hf']
        exact List.mem_map.2 ⟨v, hv, rfl⟩
      refine ⟨⟨?_, ?_, ?_, ?_⟩, ?_⟩
      · have := h.num
        show Fo.rightId (u.id.1, u.id.2 + (k + 1)) = true
        unfold Fo.rightId Fo.num
        simp
        omega
      · intro hmem
        unfold Fo.ids at hmem
        rw [hf'] at hmem
        obtain ⟨v, hv, he⟩ := List.mem_map.1 hmem
        have he : v.id = (u.id.1, u.id.2 + (k + 1)) := he
        have hvt : v ∈ A ++ B → False := fun hv => by
          have : v.id ∈ t.ids := by
            unfold Fo.ids
            rw [h.flat]
            exact List.mem_map.2 ⟨v, hv, rfl⟩
          rw [he] at this
          exact h.free (k + 1) hm this
        rcases List.mem_append.1 hv with hv | hv
        · rcases List.mem_append.1 hv with hv | hv
          · exact hvt (List.mem_append_left _ hv)
          · obtain ⟨i, hi, rfl⟩ := List.mem_map.1 hv
            rw [List.mem_range] at hi
            have e := congrArg Prod.snd he
            have e : u.id.2 + i = u.id.2 + (k + 1) := e
            omega
        · exact hvt (List.mem_append_right _ hv)
      · refine .inr ?_
        have hid : (nxs u (k + 1)).l = (nxs u k).id := by
          unfold nxs
          rw [if_neg (by omega)]
          rfl
        rw [hid]
        exact hin _ (List.mem_append_left _ (List.mem_append_right _ (List.mem_map.2 ⟨k, List.mem_range.2 (by omega), rfl⟩)))
      · rcases h.r with ⟨h1, _⟩ | ⟨b, B', h1, h2⟩
        · exact .inl h1
        · refine .inr ?_
          show u.r ∈ _
          rw [← h2]
          exact hin _ (List.mem_append_right _ (by rw [h1]; exact List.mem_cons_self ..))
      · rcases h.r with ⟨h1, _⟩ | ⟨b, B', h1, h2⟩
        · exact .inr (.inl h1)
        · refine .inr (.inr ?_)
          have hid : (nxs u (k + 1)).l = (nxs u k).id := by
            unfold nxs
            rw [if_neg (by omega)]
            rfl
          show Fo.pos _ (nxs u (k + 1)).l < Fo.pos _ u.r
          rw [hid, ← h2]
          have e1 : (trun t u (k + 1)).flat = (A ++ (List.range k).map (nxs u)) ++ nxs u k :: B := by rw [hf', List.range_succ, List.map_append]; simp
          have e2 : (trun t u (k + 1)).flat = (A ++ (List.range (k + 1)).map (nxs u)) ++ b :: B' := by rw [hf', h1]
          rw [Fo.pos_at hg'.nd e1, Fo.pos_at hg'.nd e2]
          simp only [List.length_append, List.length_map, List.length_range]
          omega
theorem site_pos {t : Fo} {u : Un} {A B : List Un} {m : Nat} (h : Site t u A B m) {i : Nat} (hi : i < m) : (nxs u i).id ∈ (trun t u m).ids ∧ (trun t u m).pos (nxs u i).id = A.length + i := by
  obtain ⟨⟨hg, _, hf⟩, _⟩ := site_run h m (Nat.le_refl _)
  have e : (List.range m).map (nxs u) = (List.range i).map (nxs u) ++ nxs u i :: ((List.range m).drop (i + 1)).map (nxs u) := by
    have e0 : List.range m = (List.range m).take i ++ (List.range m)[i]'(by rw [List.length_range]; exact hi) :: (List.range m).drop (i + 1) := by
      rw [List.getElem_cons_drop, List.take_append_drop]
    rw [List.getElem_range, List.take_range, Nat.min_eq_left (by omega)] at e0
    conv => lhs; rw [e0]
    rw [List.map_append, List.map_cons]
  have e1 : (trun t u m).flat = (A ++ (List.range i).map (nxs u)) ++ nxs u i :: (((List.range m).drop (i + 1)).map (nxs u) ++ B) := by
    rw [hf, e]
    simp
  refine ⟨?_, ?_⟩
  · unfold Fo.ids
    rw [e1]
    simp
  · rw [Fo.pos_at hg.nd e1, List.length_append, List.length_map, List.length_range]
end Sq
end Go.Proofs.Ytmammcgdjjldbaa
