/- Merged: SqRunsP, SqPlP, SqPlR, SqTwo, SqRow, SqRowU, SqAll, SqAnP. -/
import Derived.Test.YtmgipnckojopcaaJSqNToSqRe
import Derived.Test.YtmgipnckojopcaaJSqRfToSqRh
import Derived.Test.YtmgipnckojopcaaJSxRToSxF
import Derived.Test.YtmgipnckojopcaaJPlaceToSqW
import Derived.Test.YtmgipnckojopcaaSxB
import Derived.ProofKit
import Derived.OpenShut
import Derived.Carry
import Derived.SizedLaws
import Derived.Test.YtmgipnckojopcaaSxC
import Derived.Test.YtmgipnckojopcaaJSqVToSqT
namespace Go.Proofs.Ytmgipnckojopcaa
set_option maxRecDepth 100000
namespace Sq
open Go Go.RowKit Sx Tl
/-- The run's units. -/
def nxs (u : Un) (i : Nat) : Un := ⟨(u.id.1, u.id.2 + i), if i = 0 then u.l else (u.id.1, u.id.2 + i - 1), u.r⟩
theorem nxs_zero (u : Un) : nxs u 0 = u := rfl
theorem nxs_succ (u : Un) (i : Nat) : nxs u (i + 1) = ⟨(u.id.1, u.id.2 + (i + 1)), (u.id.1, u.id.2 + i), u.r⟩ := by
  unfold nxs
  rw [if_neg (Nat.succ_ne_zero i)]
  rfl
theorem nx_nxs (u : Un) (i : Nat) : nx (nxs u i) = nxs u (i + 1) := by
  rw [nxs_succ]
  rfl
def trun (t : Fo) (u : Un) (k : Nat) : Fo := Fo.putL t ((List.range k).map (nxs u))
theorem trun_zero (t : Fo) (u : Un) : trun t u 0 = t := rfl
theorem trun_succ (t : Fo) (u : Un) (k : Nat) : trun t u (k + 1) = Fo.put (trun t u k) (nxs u k) := by
  unfold trun
  rw [List.range_succ, List.map_append, List.map_singleton, Fo.putL_snoc]
theorem run_trun (t : Fo) (u : Un) : ∀ (j k : Nat), runT (trun t u (k + 1)) (nxs u k) j = trun t u (k + 1 + j)
  | 0, _ => rfl
  | j + 1, k => by
    show runT (Fo.put (trun t u (k + 1)) (nx (nxs u k))) (nx (nxs u k)) j = _
    rw [nx_nxs, ← trun_succ, run_trun t u j (k + 1)]
    congr 1
    omega
namespace Fo
theorem put_flat {ρ : Id → Rec} {t : Fo} {u : Un} {A B : List Un} (hg : Good t) (hF : Fits ρ none t) (hM : May t u) (h : t.flat = A ++ B) (hl : u.l = none' → A = []) (hl2 : u.l ≠ none' → pos t u.l + 1 = A.length) (hr : u.r = none' → B = []) (hr2 : u.r ≠ none' → pos t u.r = A.length) : (put t u).flat = A ++ u :: B := by
  obtain ⟨A', B', h1, h2, h3, h4⟩ := between hg hF hM
  have e1 : A.length ≤ A'.length := by
    by_cases e : u.l = none'
    · rw [hl e]
      exact Nat.zero_le _
    · have := pos_lt h1 (h3 e)
      have := hl2 e
      omega
  have hlen : A.length + B.length = A'.length + B'.length := by rw [← List.length_append, ← List.length_append, ← h, ← h1]
  have e2 : A'.length ≤ A.length := by
    by_cases e : u.r = none'
    · rw [hr e, List.length_nil] at hlen
      omega
    · have := pos_ge hg.nd h1 (h4 e)
      have := hr2 e
      omega
  obtain ⟨rfl, rfl⟩ := List.append_inj (h.symm.trans h1) (by omega)
  exact h2
end Fo
/-- Where a run goes: between neighbours. -/
structure Site (t : Fo) (u : Un) (A B : List Un) (m : Nat) : Prop where
  good : Fo.Good t
  fits : ∃ ρ, Fo.Fits ρ none t
  flat : t.flat = A ++ B
  l : (u.l = Fo.none' ∧ A = []) ∨ (∃ A' a, A = A' ++ [a] ∧ a.id = u.l)
  r : (u.r = Fo.none' ∧ B = []) ∨ (∃ b B', B = b :: B' ∧ b.id = u.r)
  free : ∀ i, i < m → (u.id.1, u.id.2 + i) ∉ t.ids
  num : 1 ≤ u.id.1 ∧ u.id.1 ≤ 9007199254740991 ∧ 1 ≤ u.id.2 ∧ u.id.2 + m ≤ 9007199254740992
theorem site_run {t : Fo} {u : Un} {A B : List Un} {m : Nat} (h : Site t u A B m) : ∀ k, k ≤ m → (Fo.Good (trun t u k) ∧ (∃ ρ, Fo.Fits ρ none (trun t u k)) ∧ (trun t u k).flat = A ++ (List.range k).map (nxs u) ++ B) ∧ (k < m → Fo.May (trun t u k) (nxs u k))
  | 0, hk => by
    have hin : ∀ {X : List Un} {v : Un} {Y : List Un}, t.flat = X ++ v :: Y → v.id ∈ t.ids := fun {X v Y} e => by
      unfold Fo.ids
      rw [e]
      simp
    refine ⟨⟨h.good, h.fits, by rw [trun_zero]; simpa using h.flat⟩, fun hm => ⟨⟨?_, h.free 0 hm, ?_, ?_⟩, ?_⟩⟩
    · have := h.num
      show Fo.rightId (u.id.1, u.id.2 + 0) = true
      unfold Fo.rightId Fo.num
      simp
      omega
    · rcases h.l with ⟨h1, _⟩ | ⟨A', a, h1, h2⟩
      · exact .inl h1
      · refine .inr ?_
        show u.l ∈ t.ids
        rw [← h2]
        exact hin (X := A') (Y := B) (by rw [h.flat, h1]; simp)
    · rcases h.r with ⟨h1, _⟩ | ⟨b, B', h1, h2⟩
      · exact .inl h1
      · refine .inr ?_
        show u.r ∈ t.ids
        rw [← h2]
        exact hin (X := A) (Y := B') (by rw [h.flat, h1])
    · rcases h.l with ⟨h1, _⟩ | ⟨A', a, h1, h2⟩
      · exact .inl h1
      · rcases h.r with ⟨k1, _⟩ | ⟨b, B', k1, k2⟩
        · exact .inr (.inl k1)
        · refine .inr (.inr ?_)
          show t.pos u.l < t.pos u.r
          have e1 : t.flat = A' ++ a :: B := by rw [h.flat, h1]; simp
          have e2 : t.flat = A ++ b :: B' := by rw [h.flat, k1]
          rw [← h2, ← k2, Fo.pos_at h.good.nd e1, Fo.pos_at h.good.nd e2, h1, List.length_append]
          exact Nat.lt_succ_self _
  | k + 1, hk => by
    obtain ⟨⟨hg, ⟨ρ, hF⟩, hf⟩, hM⟩ := site_run h k (by omega)
    have hM := hM (by omega)
    have hno := h.good.none
    have hnoA : ∀ {X : List Un} {v : Un} {Y : List Un}, t.flat = X ++ v :: Y → v.id ≠ Fo.none' := fun {X v Y} e e' => hno (by
      rw [← e']
      unfold Fo.ids
      rw [e]
      simp)
    have hlen : ((List.range k).map (nxs u)).length = k := by rw [List.length_map, List.length_range]
    have hflat : (Fo.put (trun t u k) (nxs u k)).flat = (A ++ (List.range k).map (nxs u)) ++ nxs u k :: B := by
      refine Fo.put_flat hg hF hM hf (fun e => ?_) (fun e => ?_) (fun e => ?_) (fun e => ?_)
      · cases k with
        | zero =>
          rcases h.l with ⟨_, h1⟩ | ⟨A', a, h1, h2⟩
          · rw [h1]
            rfl
          · have e : u.l = Fo.none' := e
            exact absurd (h2.trans e) (hnoA (X := A') (Y := B) (by rw [h.flat, h1]; simp))
        | succ k =>
          exfalso
          unfold nxs at e
          rw [if_neg (by omega)] at e
          have := h.num
          have e' := congrArg Prod.fst e
          dsimp only [Fo.none'] at e'
          omega
      · cases k with
        | zero =>
          rcases h.l with ⟨h1, _⟩ | ⟨A', a, h1, h2⟩
          · exact absurd h1 e
          · show t.pos u.l + 1 = _
            have e1 : t.flat = A' ++ a :: B := by rw [h.flat, h1]; simp
            rw [← h2, Fo.pos_at h.good.nd e1, h1]
            simp
        | succ k =>
          have hid : (nxs u (k + 1)).l = (nxs u k).id := by
            unfold nxs
            rw [if_neg (by omega)]
            rfl
          rw [hid]
          have e1 : (trun t u (k + 1)).flat = (A ++ (List.range k).map (nxs u)) ++ nxs u k :: B := by rw [hf, List.range_succ, List.map_append]; simp
          rw [Fo.pos_at hg.nd e1, List.length_append, List.length_append, hlen, List.length_map, List.length_range]
          omega
      · rcases h.r with ⟨_, h1⟩ | ⟨b, B', h1, h2⟩
        · exact h1
        · have e : u.r = Fo.none' := e
          exact absurd (h2.trans e) (hnoA (X := A) (Y := B') (by rw [h.flat, h1]))
      · rcases h.r with ⟨h1, _⟩ | ⟨b, B', h1, h2⟩
        · exact absurd h1 e
        · show (trun t u k).pos u.r = _
          have e1 : (trun t u k).flat = (A ++ (List.range k).map (nxs u)) ++ b :: B' := by rw [hf, h1]
          rw [← h2, Fo.pos_at hg.nd e1]
    have hg' : Fo.Good (trun t u (k + 1)) := by rw [trun_succ]; exact hg.put hM.toCan
    have hf' : (trun t u (k + 1)).flat = A ++ (List.range (k + 1)).map (nxs u) ++ B := by
      rw [trun_succ, hflat, List.range_succ, List.map_append]
      simp
    refine ⟨⟨hg', ?_, hf'⟩, fun hm => ?_⟩
    · obtain ⟨rc, c, V, P, hP⟩ := puts hg hF hM.toCan
      rw [trun_succ]
      exact ⟨_, hP.fits⟩
    · have hin : ∀ v ∈ A ++ (List.range (k + 1)).map (nxs u) ++ B, v.id ∈ (trun t u (k + 1)).ids := fun v hv => by
        unfold Fo.ids
        rw [hf']
        exact List.mem_map.2 ⟨v, hv, rfl⟩
      refine ⟨⟨?_, ?_, ?_, ?_⟩, ?_⟩
      · have := h.num
        show Fo.rightId (u.id.1, u.id.2 + (k + 1)) = true
        unfold Fo.rightId Fo.num
        simp
        omega
      · intro hmem
        unfold Fo.ids at hmem
        rw [hf'] at hmem
        obtain ⟨v, hv, he⟩ := List.mem_map.1 hmem
        have he : v.id = (u.id.1, u.id.2 + (k + 1)) := he
        have hvt : v ∈ A ++ B → False := fun hv => by
          have : v.id ∈ t.ids := by
            unfold Fo.ids
            rw [h.flat]
            exact List.mem_map.2 ⟨v, hv, rfl⟩
          rw [he] at this
          exact h.free (k + 1) hm this
        rcases List.mem_append.1 hv with hv | hv
        · rcases List.mem_append.1 hv with hv | hv
          · exact hvt (List.mem_append_left _ hv)
          · obtain ⟨i, hi, rfl⟩ := List.mem_map.1 hv
            rw [List.mem_range] at hi
            have e := congrArg Prod.snd he
            have e : u.id.2 + i = u.id.2 + (k + 1) := e
            omega
        · exact hvt (List.mem_append_right _ hv)
      · refine .inr ?_
        have hid : (nxs u (k + 1)).l = (nxs u k).id := by
          unfold nxs
          rw [if_neg (by omega)]
          rfl
        rw [hid]
        exact hin _ (List.mem_append_left _ (List.mem_append_right _ (List.mem_map.2 ⟨k, List.mem_range.2 (by omega), rfl⟩)))
      · rcases h.r with ⟨h1, _⟩ | ⟨b, B', h1, h2⟩
        · exact .inl h1
        · refine .inr ?_
          show u.r ∈ _
          rw [← h2]
          exact hin _ (List.mem_append_right _ (by rw [h1]; exact List.mem_cons_self ..))
      · rcases h.r with ⟨h1, _⟩ | ⟨b, B', h1, h2⟩
        · exact .inr (.inl h1)
        · refine .inr (.inr ?_)
          have hid : (nxs u (k + 1)).l = (nxs u k).id := by
            unfold nxs
            rw [if_neg (by omega)]
            rfl
          show Fo.pos _ (nxs u (k + 1)).l < Fo.pos _ u.r
          rw [hid, ← h2]
          have e1 : (trun t u (k + 1)).flat = (A ++ (List.range k).map (nxs u)) ++ nxs u k :: B := by rw [hf', List.range_succ, List.map_append]; simp
          have e2 : (trun t u (k + 1)).flat = (A ++ (List.range (k + 1)).map (nxs u)) ++ b :: B' := by rw [hf', h1]
          rw [Fo.pos_at hg'.nd e1, Fo.pos_at hg'.nd e2]
          simp only [List.length_append, List.length_map, List.length_range]
          omega
theorem site_pos {t : Fo} {u : Un} {A B : List Un} {m : Nat} (h : Site t u A B m) {i : Nat} (hi : i < m) : (nxs u i).id ∈ (trun t u m).ids ∧ (trun t u m).pos (nxs u i).id = A.length + i := by
  obtain ⟨⟨hg, _, hf⟩, _⟩ := site_run h m (Nat.le_refl _)
  have e : (List.range m).map (nxs u) = (List.range i).map (nxs u) ++ nxs u i :: ((List.range m).drop (i + 1)).map (nxs u) := by
    have e0 : List.range m = (List.range m).take i ++ (List.range m)[i]'(by rw [List.length_range]; exact hi) :: (List.range m).drop (i + 1) := by
      rw [List.getElem_cons_drop, List.take_append_drop]
    rw [List.getElem_range, List.take_range, Nat.min_eq_left (by omega)] at e0
    conv => lhs; rw [e0]
    rw [List.map_append, List.map_cons]
  have e1 : (trun t u m).flat = (A ++ (List.range i).map (nxs u)) ++ nxs u i :: (((List.range m).drop (i + 1)).map (nxs u) ++ B) := by
    rw [hf, e]
    simp
  refine ⟨?_, ?_⟩
  · unfold Fo.ids
    rw [e1]
    simp
  · rw [Fo.pos_at hg.nd e1, List.length_append, List.length_map, List.length_range]
end Sq
namespace Sq
open Go Go.RowKit Sx Tl
theorem fits_put {ρ : Id → Rec} {t : Fo} {u : Un} (hg : Fo.Good t) (hF : Fo.Fits ρ none t) (hm : Fo.Can t u) : ∃ σ, Fo.Fits σ none (Fo.put t u) := by
  obtain ⟨rc, c, V, P, hP⟩ := puts hg hF hm
  exact ⟨_, hP.fits⟩
/-- A run that is taken: each unit may when it comes. -/
theorem trun_may {t : Fo} {u : Un} {m : Nat} (hg : Fo.Good t) (hF : ∃ ρ, Fo.Fits ρ none t) (hM : Fo.May t u) (hfree : ∀ i, i < m → (u.id.1, u.id.2 + i) ∉ t.ids) (hc : u.id.2 + m ≤ 9007199254740992) : ∀ i, i ≤ m →
    Fo.Good (trun t u i) ∧ (∃ ρ, Fo.Fits ρ none (trun t u i)) ∧ (trun t u i).sz = t.sz + i ∧ (∀ k, k ∈ (trun t u i).ids ↔ k ∈ t.ids ∨ ∃ j, j < i ∧ k = (u.id.1, u.id.2 + j)) ∧ (i < m → Fo.May (trun t u i) (nxs u i))
  | 0, _ => ⟨hg, hF, rfl, fun k => ⟨.inl, fun h => h.elim id fun ⟨j, hj, _⟩ => absurd hj (Nat.not_lt_zero _)⟩, fun _ => by rw [nxs_zero]; exact hM⟩
  | i + 1, hi => by
    obtain ⟨h1, ⟨ρ, h2⟩, h3, h4, h5⟩ := trun_may hg hF hM hfree hc i (by omega)
    have h5 := h5 (by omega)
    rw [trun_succ]
    have hg2 := h1.put h5.toCan
    obtain ⟨A, B, b1, b2, b3, b4⟩ := Fo.between h1 h2 h5
    have hid : (nxs u i).id = (u.id.1, u.id.2 + i) := rfl
    have hids : ∀ k, k ∈ (Fo.put (trun t u i) (nxs u i)).ids ↔ k ∈ t.ids ∨ ∃ j, j < i + 1 ∧ k = (u.id.1, u.id.2 + j) := fun k => by
      rw [Fo.put_ids h1.nd, h4, hid]
      constructor
      · rintro (h | h | ⟨j, hj, h⟩)
        · exact .inr ⟨i, Nat.lt_succ_self i, h⟩
        · exact .inl h
        · exact .inr ⟨j, by omega, h⟩
      · rintro (h | ⟨j, hj, h⟩)
        · exact .inr (.inl h)
        · rcases Nat.lt_succ_iff_lt_or_eq.1 hj with hj | rfl
          · exact .inr (.inr ⟨j, hj, h⟩)
          · exact .inl h
    refine ⟨hg2, fits_put h1 h2 h5.toCan, by rw [Fo.put_sz h1.nd, h3]; omega, hids, fun hlt => ?_⟩
    rw [nxs_succ]
    have hr := h5.right
    unfold Fo.rightId Fo.num at hr
    simp only [Bool.and_eq_true, decide_eq_true_eq] at hr
    rw [hid] at hr
    dsimp only at hr
    refine ⟨⟨?_, fun hm => ?_, .inr ((Fo.put_ids h1.nd _).2 (.inl rfl)), ?_⟩, ?_⟩
    · unfold Fo.rightId Fo.num
      simp only [Bool.and_eq_true, decide_eq_true_eq]
      omega
    · rcases (hids _).1 hm with h | ⟨j, hj, h⟩
      · exact hfree (i + 1) hlt h
      · have := congrArg Prod.snd h
        dsimp only at this
        omega
    · show u.r = Fo.none' ∨ u.r ∈ _
      rcases h5.r with h | h
      · exact .inl h
      · exact .inr ((Fo.put_ids h1.nd _).2 (.inr h))
    · show _ ∨ u.r = Fo.none' ∨ _ < Fo.pos _ u.r
      by_cases h : u.r = Fo.none'
      · exact .inr (.inl h)
      · refine .inr (.inr ?_)
        have p1 := Fo.pos_at hg2.nd b2
        have p2 := Fo.pos_ge (A := A ++ [nxs u i]) (B := B) hg2.nd (by rw [b2]; simp) (b4 h)
        rw [hid] at p1
        rw [List.length_append, List.length_singleton] at p2
        show Fo.pos _ (u.id.1, u.id.2 + i) < _
        have e : (nxs u i).r = u.r := rfl
        rw [e] at p2
        omega
/-- What the program's Run leaves, as a run. -/
theorem runR_trun {t : Fo} {u : Un} {n : Int} (h : runOk t u n = true) : runR t u n = trun t u n.toNat := by
  unfold runR
  rw [h, if_pos rfl]
  have hn : 1 ≤ n := by
    unfold runOk at h
    simp only [Bool.and_eq_true, decide_eq_true_eq] at h
    exact h.1
  have := run_trun t u (n.toNat - 1) 0
  rw [trun_succ, trun_zero, nxs_zero] at this
  rw [this]
  congr 1
  omega
end Sq
namespace Sq
open Go Go.RowKit Sx Tl
variable {w : World} {p : Nat} {F : Nat → Prop} {t : Fo}
theorem r_has (k : Id) (hs : t.sz ≤ 1000000000) (h : RefAt w p F t) : Does Try.prog 50 #[.pointer (some ⟨p, 0, none⟩), idv k] w fun v w' => (∃ x : Int, v = .int .i64 x ∧ -1 ≤ x ∧ x ≤ 1000000000 ∧ (0 ≤ x ↔ k ∈ t.ids)) ∧ Below w.heap.size w w' := by
  obtain ⟨N, ρ, h, hF, hg, hn, hN⟩ := h
  have hlen := len_of hn hg hN
  refine (c_rfind k hn (fun j hj => fits_u hF j ((hN j).1 hj)) (by omega) h).mono ?_
  rintro v w' ⟨rfl, hb⟩
  refine ⟨⟨fx N k, rfl, ?_⟩, hb⟩
  unfold fx
  by_cases hk : k ∈ N
  · have h1 := List.idxOf_lt_length_of_mem hk
    rw [if_pos hk]
    unfold ix
    refine ⟨by omega, by omega, fun _ => (hN k).1 hk, fun _ => by omega⟩
  · rw [if_neg hk]
    exact ⟨by omega, by omega, fun h => by omega, fun h => absurd ((hN k).2 h) hk⟩
theorem Turn.putB {F F' : Nat → Prop} {w w' : World} (h : Turn F F' w w') {b : Nat} (hb : w.heap.size ≤ b) (o : Obj) : Turn F F' w (w'.putObj b o) :=
  ⟨h.os, h.tape, h.output, by rw [World.putObj_size]; exact h.size, h.own, fun g hg hn => (World.putObj_heap_other (by omega)).trans (h.block g hg hn)⟩
theorem RefAt.grown {A : World} (h : RefAt w p F t) (hb : Below w.heap.size w A) : RefAt A p F t := h.below hb
attribute [local irreducible] W Lst Qst Pu seqQ blkQ rndQ cutQ retQ Does Enters IntKind.wrap bits sb World.alloc World.putObj Blk
set_option maxHeartbeats 4000000 in
theorem c_rRun (u : Un) (n : Int) (hs : t.sz ≤ 100000) (hn : n ≤ 1000) (hn0 : -9223372036854775808 ≤ n) (h : RefAt w p F t) :
    Does Try.prog 34 #[.pointer (some ⟨p, 0, none⟩), .agg (ucs u).toArray, .int .i64 n] w fun v w' => v = .bool (runOk t u n) ∧ ∃ F', RefAt w' p F' (runR t u n) ∧ Turn F F' w w' := by
  refine Does_of (args := [.pointer (some ⟨p, 0, none⟩), .agg (ucs u).toArray, .int .i64 n]) Try.func34 (by kernel_rfl) rfl rfl rfl rfl rfl ?_
  have hno : runOk t u n = false → runR t u n = t := fun e => by unfold runR; rw [e]; rfl
  (refine Ga ?_)
  obtain ⟨X, hXe⟩ : ∃ X, w.alloc (.cells (ucs u).toArray 53) = X := ⟨_, rfl⟩
  have hbX : Below w.heap.size w X := by rw [← hXe]; exact Bel
  have kX : Blk X w.heap.size (ucs u) 53 := by rw [← hXe]; exact (by (repeat (first | assumption | (apply Blk.below (hb := hb1); rotate_left; (focus ((try simp only [Sx.sizes]); omega)); rotate_right) | (apply Blk.below (hb := hb2); rotate_left; (focus ((try simp only [Sx.sizes]); omega)); rotate_right) | (apply Blk.below (hb := hb3); rotate_left; (focus ((try simp only [Sx.sizes]); omega)); rotate_right) | (apply Blk.below (hb := hb4); rotate_left; (focus ((try simp only [Sx.sizes]); omega)); rotate_right) | (apply Blk.below (hb := hb5); rotate_left; (focus ((try simp only [Sx.sizes]); omega)); rotate_right) | (apply Blk.below (hb := hb6); rotate_left; (focus ((try simp only [Sx.sizes]); omega)); rotate_right) | (apply Blk.below (hb := hb7); rotate_left; (focus ((try simp only [Sx.sizes]); omega)); rotate_right) | (apply Blk.below (hb := hb8); rotate_left; (focus ((try simp only [Sx.sizes]); omega)); rotate_right) | (apply Blk.below (hb := hb9); rotate_left; (focus ((try simp only [Sx.sizes]); omega)); rotate_right) | exact Blk.newE (by first | rfl | ((try simp only [Sx.sizes]); first | done | omega)) _ _ | exact Blk.put_same (by (try simp only [Sx.sizes]); first | done | omega) _ _ | (apply Blk.put_ne; (focus omega)) | apply Blk.alloc | apply Blk.drew)); done)
  rw [hXe]
  clear hXe
  have hX := h.below hbX
  have hTX : Turn F F w X := .of hbX
  have hnF : ¬ F w.heap.size := fun hf => by have := h.lt hf; omega
  generalize hbe : w.heap.size = b at *
  have lX := kX.lt
  have kX' := kX
  unfold ucs at kX
  by_cases h1 : n < 1
  · have hr : runOk t u n = false := by
      unfold runOk
      rw [decide_eq_false (show ¬ (1 ≤ n) by omega)]
      rfl
    (refine Ga ?_)
    (apply retQ1; (focus rfl))
    exact ⟨by rw [hr]; rfl, F, by rw [hno hr]; exact hX, hTX⟩
  (refine Ga ?_)
  (apply Lst_call; (focus rfl); (focus rfl))
  refine (r_Right u.id X).mono ?_
  rintro v X1 ⟨rfl, hb1⟩
  have hX1 := hX.below hb1
  have hT1 : Turn F F w X1 := hTX.trans (.of hb1)
  have k1 := kX.below hb1 lX
  have k1' := kX'.below hb1 lX
  have l1 := k1.lt
  cases hR : Fo.rightId u.id with
  | false =>
    have hr : runOk t u n = false := by
      unfold runOk
      rw [hR]
      simp
    (refine Ga ?_)
    (apply retQ1; (focus rfl))
    exact ⟨by rw [hr]; rfl, F, by rw [hno hr]; exact hX1, hT1⟩
  | true =>
    have hR' := hR
    unfold Fo.rightId Fo.num at hR'
    simp only [Bool.and_eq_true, decide_eq_true_eq] at hR'
    obtain ⟨⟨c1, c2⟩, c3, c4⟩ := hR'
    have hMx : (9007199254740991 : Int) - (u.id.2 : Int) ≥ 0 := by omega
    by_cases h2 : n - 1 > 9007199254740991 - (u.id.2 : Int)
    · have hr : runOk t u n = false := by
        unfold runOk
        rw [decide_eq_false (show ¬ (n ≤ 9007199254740991 - (u.id.2 : Int) + 1) by omega)]
        simp
      (refine Ga ?_)
      (apply retQ1; (focus rfl))
      exact ⟨by rw [hr]; rfl, F, by rw [hno hr]; exact hX1, hT1⟩
    obtain ⟨m, rfl⟩ : ∃ m : Nat, n = (m : Int) := ⟨n.toNat, by omega⟩
    have hm1 : 1 ≤ m := by omega
    have hclk : u.id.2 + m ≤ 9007199254740992 := by omega
    have hrun : runOk t u (m : Int) = (Fo.may t u && freeTo t u m) := by
      unfold runOk
      rw [decide_eq_true (show (1 : Int) ≤ (m : Int) by omega), hR, decide_eq_true (show (m : Int) ≤ 9007199254740991 - (u.id.2 : Int) + 1 by omega), Int.toNat_natCast]
      rfl
    (refine Ga ?_)
    refine W_loop (α := Nat) (fun i => [(0, .pointer (some ⟨p, 0, none⟩)), (2, .int .i64 (m : Int)), (4, .pointer (some ⟨b, 0, none⟩)), (7, .int .i64 (i : Int))]) (fun i A => i ≤ m ∧ Grown X1 A ∧ ∀ j, j < i → (u.id.1, u.id.2 + j) ∉ t.ids) (fun i _ => m - i) 0 ⟨Nat.zero_le _, Below.refl _ _, fun j hj => absurd hj (Nat.not_lt_zero _)⟩ ⟨rfl, rfl, rfl, rfl, trivial⟩ ?_
    rintro J i A ⟨hi, hbA, hfr⟩
    have hA := hX1.below hbA
    have kA := k1.below hbA l1
    have kA' := k1'.below hbA l1
    have lA := kA.lt
    have hTA : Turn F F w A := hT1.trans (.of hbA)
    by_cases hil : i < m
    · (refine Ga ?_)
      (apply Lst_call; (focus rfl); (focus rfl))
      refine (r_has (u.id.1, u.id.2 + i) (by omega) hA).mono ?_
      rintro v A1 ⟨⟨x, rfl, hx1, hx2, hx⟩, hbA1⟩
      by_cases h0 : 0 ≤ x
      · have hr : runOk t u (m : Int) = false := by
          rw [hrun]
          have : freeTo t u m = false := by
            cases e : freeTo t u m with
            | false => rfl
            | true => exact absurd (hx.1 h0) (free_iff.1 e i hil)
          rw [this]
          simp
        (refine Ga ?_)
        (apply retQ1; (focus rfl))
        exact ⟨by rw [hr]; rfl, F, by rw [hno hr]; exact hA.below hbA1, hTA.trans (.of hbA1)⟩
      · (refine Ga ?_)
        refine rndQ_n (α := Nat) (i + 1) ⟨hil, hbA.trans (hbA1.mono hbA.size), fun j hj => ?_⟩ ⟨rfl, rfl, rfl, ?_, trivial⟩ (by omega)
        · rcases Nat.lt_succ_iff_lt_or_eq.1 hj with h | rfl
          · exact hfr j h
          · exact fun hm => h0 (hx.2 hm)
        · exact congrArg (Value.int .i64) (by omega)
    · obtain rfl : i = m := by omega
      have hft : freeTo t u i = true := free_iff.2 hfr
      (refine Ga ?_)
      (apply Lst_call; (focus rfl); (focus rfl))
      refine (c_rInsert u t (by omega) hA).mono ?_
      rintro v A1 ⟨rfl, F1, hS1, hTI⟩
      cases hmay : Fo.may t u with
      | false =>
        have hr : runOk t u (i : Int) = false := by
          rw [hrun, hmay]
          rfl
        have hins : (Fo.insert t u).1 = t := by unfold Fo.insert; rw [hmay]; rfl
        rw [hins] at hS1
        (refine Ga ?_)
        (apply retQ1; (focus rfl))
        exact ⟨by rw [hr]; rfl, F1, by rw [hno hr]; exact hS1, hTA.trans hTI⟩
      | true =>
        have hM := Fo.may_iff.1 hmay
        have hr : runOk t u (i : Int) = true := by
          rw [hrun, hmay, hft]
          rfl
        have hfit : ∃ ρ, Fo.Fits ρ none t := by
          obtain ⟨N, ρ, _, hF, _⟩ := h
          exact ⟨ρ, hF⟩
        have hall := trun_may h.good hfit hM hfr hclk
        have hins : (Fo.insert t u).1 = trun t u 1 := by
          unfold Fo.insert
          rw [hmay, trun_succ, trun_zero, nxs_zero]
          rfl
        rw [hins] at hS1
        rw [hr, runR_trun hr, Int.toNat_natCast]
        have k2 := hTI.blk kA' hnF
        have hn2 : ¬ F1 b := fun hf => hnF ((hTI.own _ lA).1 hf)
        have kb : Blk A1 b (ucs (nxs u 0)) 53 := by rw [nxs_zero]; exact k2
        have hTw : Turn F F1 w A1 := hTA.trans hTI
        clear hTI hfr kA kA' hA hbA hTA k1 k1' kX kX' lX l1 hX hX1 hT1 hTX
        have lb := kb.lt
        have hwb : b < A1.heap.size := lb
        (refine Ga ?_)
        refine W_loop (α := Nat × (Nat → Prop)) (fun x => [(0, .pointer (some ⟨p, 0, none⟩)), (2, .int .i64 (i : Int)), (4, .pointer (some ⟨b, 0, none⟩)), (8, .int .i64 ((x.1 + 1 : Nat) : Int))]) (fun x A => x.1 + 1 ≤ i ∧ RefAt A p x.2 (trun t u (x.1 + 1)) ∧ Turn F x.2 w A ∧ Blk A b (ucs (nxs u x.1)) 53 ∧ ¬ x.2 b) (fun x _ => i - x.1) (0, F1) ⟨hm1, hS1, hTw, kb, hn2⟩ ⟨rfl, rfl, rfl, rfl, trivial⟩ ?_
        clear hS1 hTw kb hn2 lb hwb
        rintro J ⟨k, G⟩ A ⟨hk, hS, hT, kb, hnb⟩
        dsimp only at hk hS hT kb hnb ⊢
        have lb := kb.lt
        by_cases hkl : k + 1 < i
        · obtain ⟨_, _, hsz, _, hmy⟩ := hall (k + 1) (by omega)
          have hmy := hmy hkl
          rw [nxs_succ] at hmy
          have hv2 : (nxs u k).id.2 + 1 ≤ 9007199254740992 := by
            show u.id.2 + k + 1 ≤ _
            omega
          unfold ucs at kb
          obtain ⟨W2, hW2⟩ : ∃ W2, (A.putObj b (.cells [.int .u64 ((nxs u k).id.1 : Int), .int .u64 ((nxs u k).id.2 : Int), .int .u64 ((nxs u k).id.1 : Int), .int .u64 ((nxs u k).id.2 : Int), .int .u64 ((nxs u k).r.1 : Int), .int .u64 ((nxs u k).r.2 : Int)].toArray 53)).putObj b (.cells [.int .u64 ((nxs u k).id.1 : Int), .int .u64 (((nxs u k).id.2 : Int) + 1), .int .u64 ((nxs u k).id.1 : Int), .int .u64 ((nxs u k).id.2 : Int), .int .u64 ((nxs u k).r.1 : Int), .int .u64 ((nxs u k).r.2 : Int)].toArray 53) = W2 := ⟨_, rfl⟩
          have kW2 : Blk W2 b (ucs ⟨(u.id.1, u.id.2 + (k + 1)), (u.id.1, u.id.2 + k), u.r⟩) 53 := by
            rw [← hW2]
            exact Blk.put_same (by rw [World.putObj_size]; exact lb) _ _
          have hS2 : RefAt W2 p G (trun t u (k + 1)) := by rw [← hW2]; exact (hS.put hnb _).put hnb _
          have hT2 : Turn F G w W2 := by rw [← hW2]; exact (hT.putB (Nat.le_of_eq hbe) _).putB (Nat.le_of_eq hbe) _
          have l2 := kW2.lt
          have kW2' := kW2
          unfold ucs at kW2
          (refine Ga ?_)
          rw [hW2]
          clear hW2
          (apply Lst_call; (focus rfl); (focus rfl))
          refine (c_rInsert ⟨(u.id.1, u.id.2 + (k + 1)), (u.id.1, u.id.2 + k), u.r⟩ (trun t u (k + 1)) (by omega) hS2).mono ?_
          rintro v A3 ⟨rfl, G3, hS3, hT3⟩
          have hins : (Fo.insert (trun t u (k + 1)) ⟨(u.id.1, u.id.2 + (k + 1)), (u.id.1, u.id.2 + k), u.r⟩).1 = trun t u (k + 1 + 1) := by
            rw [trun_succ t u (k + 1), nxs_succ]
            unfold Fo.insert
            rw [Fo.may_iff.2 hmy]
            rfl
          rw [hins] at hS3
          have k3 := hT3.blk kW2' hnb
          have n3 : ¬ G3 b := fun hf => hnb ((hT3.own _ l2).1 hf)
          (refine Ga ?_)
          refine rndQ_n (α := Nat × (Nat → Prop)) (k + 1, G3) ⟨hkl, hS3, hT2.trans hT3, by rw [nxs_succ]; exact k3, n3⟩ ⟨rfl, rfl, rfl, ?_, trivial⟩ (by dsimp only; omega)
          exact congrArg (Value.int .i64) (by dsimp only; omega)
        · obtain rfl : i = k + 1 := by omega
          (refine Ga ?_)
          (apply retQ1; (focus rfl))
          exact ⟨rfl, G, hS, hT⟩
end Sq
namespace Sq
open Go Go.RowKit Sx Tl
theorem take_put {us : List Un} {k : Nat} (hk : k < us.length) (h : Fo.okL .nil us) : Fo.may (Fo.putL .nil (us.take k)) us[k] = true ∧ (Fo.insert (Fo.putL .nil (us.take k)) us[k]).1 = Fo.putL .nil (us.take (k + 1)) := by
  have key : ∀ (us : List Un) (t : Fo) (k : Nat) (hk : k < us.length), Fo.okL t us → Fo.may (Fo.putL t (us.take k)) us[k] = true := by
    intro us
    induction us with
    | nil => intro t k hk; exact absurd hk (Nat.not_lt_zero _)
    | cons u us ih =>
      intro t k hk h
      cases k with
      | zero => exact h.1
      | succ k => exact ih (Fo.put t u) k (Nat.lt_of_succ_lt_succ hk) h.2
  have h1 := key us .nil k hk h
  refine ⟨h1, ?_⟩
  unfold Fo.insert
  rw [h1, List.take_succ_eq_append_getElem hk, Fo.putL_snoc]
  rfl
theorem take_ok {us : List Un} : ∀ (k : Nat) {t : Fo}, Fo.okL t us → Fo.okL t (us.take k) := by
  induction us with
  | nil => intro k t _; rw [List.take_nil]; trivial
  | cons u us ih =>
    intro k t h
    cases k with
    | zero => trivial
    | succ k => exact ⟨h.1, ih k h.2⟩
theorem unit_at {w : World} {v1 : Option Addr} {n c : Nat} {us : List Un} (h : SRows w 6 (.slice v1 n c) (us.map ucs)) {k : Nat} (hk : k < us.length) : ∃ g off, v1 = some ⟨g, off, none⟩ ∧ ∀ A, Grown w A → ∀ j u, (ucs us[k])[j]? = some u → A.cell? ⟨g, off + k * 6 + j, none⟩ = some u := by
  obtain ⟨b, off, rfl, _, hc⟩ := h.at (i := k) (by rw [List.length_map]; exact hk)
  refine ⟨b, off, rfl, fun A hA j u hu => cell_below hA (hc j u ?_)⟩
  rw [List.getElem_map]
  exact hu
theorem P_idxm {P : Program} {G : Fr} {ty t e b o len c j : Nat} {x y : Operand} {k : IntKind} {i : TypeInfo} {sz : Nat} (hx : ev G x = .slice (some ⟨b, o, none⟩) len c) (hq : ev G y = .int k (j : Int)) (ht : P.underlying t = some (.slice e)) (hi : P.info? e = some i) (hs : i.size = sz) (h1 : j < len) : Pu P G (.indexAddr t x y) ty (.pointer (some ⟨b, o + j * sz, none⟩)) := by
  have := P_idx (ty := ty) hx hq ht hi hs (by omega) (by omega)
  simpa using this
theorem nil_sz : Fo.nil.sz = 0 := rfl
/-- Two sequences that have nothing of one another. -/
structure Two (w0 A : World) (pa : Nat) (Fa : Nat → Prop) (ta : Fo) (pb : Nat) (Fb : Nat → Prop) (tb : Fo) : Prop where
  sa : SqAt A pa Fa ta
  sb : SqAt A pb Fb tb
  dis : ∀ g, Fa g → ¬ Fb g
  la : ∀ g, Fa g → w0.heap.size ≤ g
  lb : ∀ g, Fb g → w0.heap.size ≤ g
  bel : Below w0.heap.size w0 A
variable {w0 A A' : World} {pa pb : Nat} {Fa Fb F' : Nat → Prop} {ta tb t' : Fo}
theorem Two.a (h : Two w0 A pa Fa ta pb Fb tb) (hS : SqAt A' pa F' t') (hT : Turn Fa F' A A') : Two w0 A' pa F' t' pb Fb tb := by
  have h1 := hT.low h.la h.bel.size
  exact ⟨hS, h.sb.other hT fun g hg hf => h.dis g hf hg, fun g hg hb => h.dis g ((hT.own g (h.sb.lt hb)).1 hg) hb, h1.1, h.lb, h.bel.trans h1.2⟩
theorem Two.b (h : Two w0 A pa Fa ta pb Fb tb) (hS : SqAt A' pb F' t') (hT : Turn Fb F' A A') : Two w0 A' pa Fa ta pb F' t' := by
  have h1 := hT.low h.lb h.bel.size
  exact ⟨h.sa.other hT h.dis, hS, fun g hg hb => h.dis g hg ((hT.own g (h.sa.lt hg)).1 hb), h.la, h1.1, h.bel.trans h1.2⟩
theorem Two.grown (h : Two w0 A pa Fa ta pb Fb tb) (hb : Below A.heap.size A A') : Two w0 A' pa Fa ta pb Fb tb :=
  ⟨h.sa.below hb, h.sb.below hb, h.dis, h.la, h.lb, h.bel.trans (hb.mono h.bel.size)⟩
theorem Two.put {b : Nat} (h : Two w0 A pa Fa ta pb Fb tb) (ha : ¬ Fa b) (hb : ¬ Fb b) (hw : w0.heap.size ≤ b) (o : Obj) : Two w0 (A.putObj b o) pa Fa ta pb Fb tb :=
  ⟨h.sa.kept rfl rfl rfl (by rw [World.putObj_size]; exact Nat.le_refl _) fun g hg => World.putObj_heap_other fun e => ha (e ▸ hg), h.sb.kept rfl rfl rfl (by rw [World.putObj_size]; exact Nat.le_refl _) fun g hg => World.putObj_heap_other fun e => hb (e ▸ hg), h.dis, h.la, h.lb, Sx.Below.put h.bel hw _⟩
/-- The site between neighbours. -/
theorem site_of {t : Fo} {u : Un} {n m : Nat} (hg : Fo.Good t) (hF : ∃ ρ, Fo.Fits ρ none t) (hn : n ≤ t.sz) (hl : u.l = if n = 0 then (0, 0) else (t.flat.getD (n - 1) default).id) (hr : u.r = if n = t.sz then (0, 0) else (t.flat.getD n default).id)
    (hf : ∀ i, i < m → (u.id.1, u.id.2 + i) ∉ t.ids) (hu : 1 ≤ u.id.1 ∧ u.id.1 ≤ 9007199254740991 ∧ 1 ≤ u.id.2 ∧ u.id.2 + m ≤ 9007199254740992) : Site t u (t.flat.take n) (t.flat.drop n) m := by
  have hsz : t.flat.length = t.sz := rfl
  refine ⟨hg, hF, (List.take_append_drop n t.flat).symm, ?_, ?_, hf, hu⟩
  · by_cases h0 : n = 0
    · rw [if_pos h0] at hl
      exact .inl ⟨hl, by rw [h0]; rfl⟩
    · rw [if_neg h0] at hl
      have h1 : n - 1 < t.flat.length := by omega
      refine .inr ⟨t.flat.take (n - 1), t.flat[n - 1], ?_, ?_⟩
      · rw [← List.take_succ_eq_append_getElem h1, Nat.sub_add_cancel (by omega)]
      · rw [hl, List.getD_eq_getElem?_getD, List.getElem?_eq_getElem h1]
        rfl
  · by_cases h0 : n = t.sz
    · rw [if_pos h0] at hr
      exact .inl ⟨hr, by rw [h0, ← hsz, List.drop_length]⟩
    · rw [if_neg h0] at hr
      have h1 : n < t.flat.length := by omega
      refine .inr ⟨t.flat[n], t.flat.drop (n + 1), ?_, ?_⟩
      · rw [List.getElem_cons_drop]
      · rw [hr, List.getD_eq_getElem?_getD, List.getElem?_eq_getElem h1]
        rfl
end Sq
namespace Sq
open Go Go.RowKit Go.ChangeShapes Go.WideShapes Sx
section
variable {H : Type} {enc : TypeId × Value → H} {P : Program}
theorem args_stay (hl : laidOutB P = true) {W W' : World} (hb : Below W.heap.size W W') : ∀ (ts : List TypeId) (vs : List Value) (ds : List (DataW H)) (ps : List MemPlace), (ts.all fun t => P.readableRec t && decide (t < P.types.size)) = true →
    DataW.TrodAll enc P W 0 (fun _ => true) true ts vs ds ps → DataW.TrodAll enc P W' 0 (fun b => decide (b < W.heap.size)) true ts vs ds ps
  | [], vs, ds, ps, _, h => by
    obtain ⟨rfl, rfl, rfl⟩ := trodAll_nil h
    exact trodAll_mk0
  | t :: ts, vs, ds, ps, hr, h => by
    have hlt := DataW.TrodAll.lt h
    obtain ⟨v, vs', d, ds', p, q, rfl, rfl, rfl, h1, h2⟩ := trodAll_cons h
    simp only [List.all_cons, Bool.and_eq_true, decide_eq_true_eq] at hr
    exact trodAll_cons_mk (Below.trod hl hr.1.1 hr.1.2 h1 hb (fun x hx => hlt x (by simp [hx]))) (args_stay hl hb ts vs' ds' q (by simpa using hr.2) h2)
end
end Sq
namespace Sq
open Go Go.RowKit Go.ChangeShapes Go.WideShapes Sx
section
variable {H : Type} {enc : TypeId × Value → H} {P : Program}
theorem cell_ltU {w : World} {a : Addr} {v : Value} (h : w.cell? a = some v) : a.block < w.heap.size := by
  rcases Nat.lt_or_ge a.block w.heap.size with hl | hl
  · exact hl
  · simp [World.cell?, Array.getElem?_eq_none hl] at h
theorem open_u16 {t e : TypeId} {w : World} {v : Value} {d : DataW H} {ps : List MemPlace} (ht : P.underlying t = some (.slice e)) (he : P.underlying e = some (.int .u16)) (hc : P.cellsOf e = 1) {b0 : Nat} (hval : Value.okWide P w .any b0 t v)
    (hd : DataW.Trod enc P w 0 (fun _ => true) true t v d ps) : ∃ (zs : List Int) (a : Option Addr) (c : Nat), v = .slice a zs.length c ∧ Ints w .u16 (.slice a zs.length c) zs ∧ ∀ z ∈ zs, 0 ≤ z ∧ z < 65536 := by
  obtain ⟨a0, len0, cap0, rfl⟩ := okWide_slice ht hval
  obtain ⟨fuel, hf⟩ := hd
  rcases open_ints ht he hc hf with ⟨hcs, hx⟩ | ⟨a, len, cap, zs, hcs, _, hl, hm, hz, hx, hcell, hwz⟩
  · have hcs : [Value.slice a0 len0 cap0] = [.slice none 0 0] := by simpa [Value.cells] using hcs
    simp only [List.cons.injEq, Value.slice.injEq, and_true] at hcs
    obtain ⟨rfl, rfl, rfl⟩ := hcs
    exact ⟨[], none, 0, rfl, ⟨0, 0, 0, .inr ⟨⟨none, rfl⟩, rfl⟩, fun e => absurd rfl e, fun j hj => absurd hj (Nat.not_lt_zero _)⟩, fun z hz => by cases hz⟩
  · have hcs : [Value.slice a0 len0 cap0] = [.slice (some a) len cap] := by simpa [Value.cells] using hcs
    simp only [List.cons.injEq, Value.slice.injEq, and_true] at hcs
    obtain ⟨rfl, rfl, rfl⟩ := hcs
    have hspot : a.spot = none := by
      simp only [Value.okWide, ht, Cell.okWide, Cell.ok] at hval
      exact hval.2.2.2.1
    obtain ⟨b, off, sp⟩ := a
    dsimp only at hspot
    subst hspot
    simp only [if_true] at hz
    have hlen : (zs.take len0).length = len0 := by rw [List.length_take]; omega
    refine ⟨zs.take len0, some ⟨b, off, none⟩, cap0, by rw [hlen], ⟨b, off, cap0, .inl rfl, fun hne => ?_, fun j hj => ?_⟩, fun z hz' => ?_⟩
    · have : 0 < zs.length := by
        rcases Nat.eq_zero_or_pos zs.length with h0 | h0
        · exact absurd (List.eq_nil_of_length_eq_zero (by rw [hlen]; omega)) hne
        · exact h0
      exact cell_ltU (hcell 0 this)
    · have hj' : j < zs.length := by rw [hlen] at hj; omega
      have := hcell j hj'
      rw [add_none] at this
      rw [this]
      simp [List.getD, hj']
    · have := hwz z (List.mem_of_mem_take hz')
      simp only [Lit.wf, IntKind.min, IntKind.max, IntKind.signed, IntKind.bits] at this
      simp at this
      omega
end
end Sq
namespace Sq
open Go Go.RowKit Sx Tl
/-- The cells of these blocks are kept. -/
structure KeepX (X : Nat → Prop) (A A' : World) : Prop where
  size : A.heap.size ≤ A'.heap.size
  same : ∀ (k : Nat) (o : Obj), X k → A.heap[k]? = some o → o.isCells = true → A'.heap[k]? = some o
theorem KeepX.refl (X : Nat → Prop) (A : World) : KeepX X A A := ⟨Nat.le_refl _, fun _ _ _ h _ => h⟩
theorem KeepX.trans {X : Nat → Prop} {A B C : World} (h : KeepX X A B) (k : KeepX X B C) : KeepX X A C := ⟨Nat.le_trans h.size k.size, fun i o hx hi ho => k.same i o hx (h.same i o hx hi ho) ho⟩
theorem KeepX.blk {X : Nat → Prop} {A A' : World} {b : Nat} {l : List Value} {e : TypeId} (h : KeepX X A A') (hx : X b) (hb : Blk A b l e) : Blk A' b l e := h.same _ _ hx hb rfl
theorem KeepX.cell {X : Nat → Prop} {A A' : World} {p : Addr} {v : Value} (h : KeepX X A A') (hx : X p.block) (hb : A.cell? p = some v) : A'.cell? p = some v := by
  unfold World.cell? at hb ⊢
  cases hx' : A.heap[p.block]? with
  | none => simp [hx'] at hb
  | some o =>
    have : o.isCells = true := by
      cases o <;> simp [hx'] at hb <;> rfl
    rw [h.same _ _ hx hx' this]
    rw [hx'] at hb
    exact hb
theorem KeepX.put {X : Nat → Prop} {w : World} (A : World) (l : Nat) (r r' : Loop) (_ : w.heap.size ≤ l) (h : A.heap[l]? = some (.loop r)) : KeepX X A (A.putObj l (.loop r')) :=
  ⟨by rw [World.putObj_size]; exact Nat.le_refl _, fun k o _ hk ho => by
    by_cases e : k = l
    · subst e
      rw [h] at hk
      cases hk
      cases ho
    · exact (World.putObj_heap_other e).trans hk⟩
theorem KeepX.of {X : Nat → Prop} {A A' : World} (hs : A.heap.size ≤ A'.heap.size) (h : ∀ g, g < A.heap.size → X g → A'.heap[g]? = A.heap[g]?) : KeepX X A A' := ⟨hs, fun k _ hx hk _ => (h k (lt_of_some hk) hx).trans hk⟩
/-- What the iterator hands over. -/
def encT (t : Fo) (k : Nat) : List Value := [.int .i64 (k : Int), .agg (ucs (t.flat.getD k default)).toArray]
theorem KF.put {A : World} {B b : Nat} {l : List Value} {e : TypeId} (h : Blk A b l e) (o : Obj) : KeepsFrom B A (A.putObj b o) := ⟨by rw [World.putObj_size]; exact Nat.le_refl _, fun k x _ hk hc => by
  by_cases e' : k = b
  · subst e'
    rw [show A.heap[k]? = _ from h] at hk
    cases hk
    cases hc
  · exact (World.putObj_heap_other e').trans hk⟩
theorem KF.grown {A A' : World} {B B' e sz n : Nat} {v : Value} {xs : List Value} (h : A.ownsRow B' e sz v n xs) (hg : A.grownBy A' v.ownBlock) : KeepsFrom B A A' := ⟨hg.size, fun k x _ hk hc => by
  by_cases e' : some k = v.ownBlock
  · rcases h.2 with ⟨rfl, _⟩ | ⟨g, cap, cur, rfl, _, hh, _⟩
    · cases e'
    · cases e'
      rw [hh] at hk
      cases hk
      cases hc
  · exact (hg.block k (lt_of_some hk) e').trans hk⟩
theorem Blk_grown {w w' : World} {b : Nat} {l : List Value} {e : TypeId} {row : Option Nat} (h : Blk w b l e) (hg : w.grownBy w' row) (hne : some b ≠ row) : Blk w' b l e := (hg.block b h.lt hne).trans h
theorem own_lowA {w : World} {B B' e sz n : Nat} {v : Value} {xs : List Value} (h : w.ownsRow B e sz v n xs) (hB : B' ≤ B) : w.ownsRow B' e sz v n xs := by
  refine ⟨h.1, ?_⟩
  rcases h.2 with h1 | ⟨g, cap, cur, h1, h2, h3⟩
  · exact .inl h1
  · exact .inr ⟨g, cap, cur, h1, Nat.le_trans hB h2, h3⟩
variable {w : World} {p : Nat} {F : Nat → Prop} {t : Fo}
attribute [local irreducible] W Lst Qst Pu seqQ blkQ rndQ cutQ retQ Does Enters IntKind.wrap bits sb World.alloc World.putObj Blk
set_option maxHeartbeats 2000000 in
theorem g_AllS (B : Nat) (hB : Blk w B [.pointer (some ⟨p, 0, none⟩)] 37) (h : SqAt w p F t) (hlen : t.sz ≤ 1000000000) :
    Gives Try.prog 65 #[.pointer (some ⟨B, 0, none⟩)] t.sz (fun k => (encT t k).toArray) (KeepX (fun g => F g ∨ g = B)) w := by
  intro l J Jx W1 hb1 hJ hJx hY h0
  have hB1 := hB.below hb1 hB.lt
  obtain ⟨E, ρ, rfl, hF, hfar, h1, hft, hg⟩ := h.below hb1
  obtain ⟨so, sr, fresh, m, hS, hO, _, _, _⟩ := h1.seq
  have hFO : ∀ q, so.ownBlock = some q → F q := fun q hq => (hF q).2 (by rw [hO.tag q hq]; simp)
  have hFN : ∀ j ∈ t.ids, F (E.ad j) := fun j hj => (hF _).2 (by rw [(h1.nodes j hj).tag]; simp)
  obtain ⟨a, c, rfl, hc, hcell⟩ := hO.at
  have hcell : ∀ i (hi : i < t.sz), ∃ g, a = some ⟨g, 0, none⟩ ∧ W1.cell? ⟨g, 0 + i, none⟩ = some (pv E (t.ids[i]'(by rw [Fo.ids_len]; exact hi))) := fun i hi => hcell i _
  rw [Fo.ids_len] at hS hc hFO
  have hd : Does Try.prog 65 #[.func (.yield l) #[] #[], .pointer (some ⟨B, 0, none⟩)] W1 fun v A' => (J t.sz A' ∨ ∃ k, 0 < k ∧ k ≤ t.sz ∧ Jx k A') := by
    refine Does_of (args := [.func (.yield l) #[] #[], .pointer (some ⟨B, 0, none⟩)]) Try.func65 (by kernel_rfl) rfl rfl rfl rfl rfl ?_
    (refine Ga ?_)
    refine W_loop (α := Nat) (fun i => [(0, .func (.yield l) #[] #[]), (8, .slice a t.sz c), (9, .int .i64 (t.sz : Int)), (10, .int .i64 (i : Int))]) (fun i A => i ≤ t.sz ∧ J i A ∧ KeepX (fun g => F g ∨ g = B) W1 A) (fun i _ => t.sz - i) 0 ⟨Nat.zero_le _, h0, KeepX.refl _ _⟩ ⟨rfl, rfl, rfl, rfl, trivial⟩ ?_
    rintro K i A ⟨hi, hj, hk⟩
    by_cases hil : i < t.sz
    · have hil' : i < t.ids.length := by rw [Fo.ids_len]; exact hil
      obtain ⟨g, rfl, hci⟩ := hcell i hil
      have hin := List.getElem_mem hil'
      obtain ⟨_, sl, sr', hn, _, _⟩ := h1.nodes _ hin
      have hci := hk.cell (.inl (hFO g rfl)) hci
      have hn := hk.blk (.inl (hFN _ hin)) hn
      have hρ : (ρ t.ids[i]).u = t.flat.getD i default := by
        have := fits_ord hft i hil
        rwa [List.getD_eq_getElem?_getD, List.getElem?_eq_getElem hil'] at this
      have hy := hY i A hil hj
      dsimp only at hy
      unfold encT at hy
      rw [← hρ] at hy
      unfold ucs at hy
      unfold ncs pv at *
      generalize t.ids[i] = j at *
      (refine Ga ?_)
      apply Lst_yield
      focus rfl
      focus rfl
      obtain ⟨fn, tmps, assign, body, y1, y2⟩ := hy
      refine ⟨fn, tmps, assign, body, y1, y2.mono ?_⟩
      rintro e A' (⟨rfl, hj', hkp⟩ | ⟨rfl, hjx⟩)
      · refine ⟨_, rfl, ?_⟩
        (refine Ga ?_)
        refine rndQ_n (α := Nat) (i + 1) ⟨hil, hj', hk.trans hkp⟩ ⟨rfl, rfl, rfl, ?_, trivial⟩ (by omega)
        exact congrArg (Value.int .i64) (by omega)
      · refine ⟨_, rfl, ?_⟩
        (refine Ga ?_)
        exact retQ0 (.inr ⟨i + 1, by omega, hil, hjx⟩)
    · obtain rfl : i = t.sz := by omega
      (refine Ga ?_)
      exact retQ0n (.inl hj)
  unfold Does at hd
  refine hd.2.mono ?_
  rintro e A ⟨v, rfl, h⟩
  exact ⟨⟨v, rfl⟩, h⟩
/-- A row of ids of one's own. -/
def OwnI (B : Nat) (w : World) (v : Value) (ks : List Id) : Prop := w.ownsRow B 25 2 v ks.length (ks.map idcs).flatten
theorem OwnI.nil (B : Nat) (w : World) : OwnI B w (.slice none 0 0) [] := ⟨rfl, .inl ⟨rfl, rfl⟩⟩
theorem OwnI.rows {B : Nat} {w : World} {v : Value} {us : List Id} (h : OwnI B w v us) : SRows w 2 v (us.map idcs) := by
  have h' : w.ownsRow B 25 2 v (us.map idcs).length (us.map idcs).flatten := by rw [List.length_map]; exact h
  exact SRows.of_own h' (fun l hl => by obtain ⟨u, _, rfl⟩ := List.mem_map.1 hl; rfl) (by decide)
theorem below_calm {B : Nat} {w0 A A' : World} (h : Below w0.heap.size w0 A) (hc : Sx.Calm B A A') (hs : w0.heap.size ≤ B) : Below w0.heap.size w0 A' :=
  ⟨hc.os.trans h.os, hc.tape.trans h.tape, hc.output.trans h.output, Nat.le_trans h.size hc.size, fun k hk => by
    have hl : k < A.heap.size := Nat.lt_of_lt_of_le hk h.size
    rw [← h.block k hk]
    exact (hc.same k _ (Array.getElem?_eq_getElem hl) (.inl (Nat.lt_of_lt_of_le hk hs))).trans (Array.getElem?_eq_getElem hl).symm⟩
end Sq
namespace Sq
namespace Fo
theorem pos_put {t : Fo} {v : Un} (hn : t.ids.Nodup) (hv : v.id ∉ t.ids) : ∃ a, a ≤ t.sz ∧ ∀ k ∈ t.ids, pos (put t v) k = if pos t k < a then pos t k else pos t k + 1 := by
  obtain ⟨A, B, h1, h2⟩ := put_in (u := v) hn
  have h3 := ids_at h1 h2
  refine ⟨A.length, by unfold sz; rw [h1, List.length_append]; omega, fun k hk => ?_⟩
  have hA : t.ids = A.map (·.id) ++ B.map (·.id) := by unfold ids; rw [h1, List.map_append]
  have hS : (put t v).ids = A.map (·.id) ++ v.id :: B.map (·.id) := by unfold ids; rw [h2, List.map_append, List.map_cons]
  have hne : v.id ≠ k := fun e => hv (e ▸ hk)
  have hcons : (v.id :: B.map (·.id)).idxOf k = (B.map (·.id)).idxOf k + 1 := by
    rw [List.idxOf_cons, beq_eq_false_iff_ne.2 hne]
    rfl
  unfold pos
  rw [hS, hA, List.idxOf_append, List.idxOf_append]
  by_cases hm : k ∈ A.map (·.id)
  · rw [if_pos hm, if_pos hm, if_pos]
    have := List.idxOf_lt_length_of_mem hm
    rwa [List.length_map] at this
  · rw [if_neg hm, if_neg hm, hcons, List.length_map, if_neg (by omega)]
    omega
/-- What an origin may be. -/
def At (t : Fo) (k : Id) : Prop := k = none' ∨ k ∈ t.ids
theorem far_put {t : Fo} {v : Un} (hn : t.ids.Nodup) (hv : v.id ∉ t.ids) : ∃ a, a ≤ t.sz ∧ ∀ x : Un, At t x.r → far (put t v) x = if far t x < a then far t x else far t x + 1 := by
  obtain ⟨a, ha, h⟩ := pos_put hn hv
  refine ⟨a, ha, fun x hx => ?_⟩
  unfold far
  by_cases e : x.r = none'
  · rw [if_pos e, if_pos e, put_sz hn, if_neg (by omega)]
  · rw [if_neg e, if_neg e]
    exact h _ (hx.resolve_left e)
theorem ahead_put {t : Fo} {v x y : Un} (hn : t.ids.Nodup) (hv : v.id ∉ t.ids) (hx : At t x.r) (hy : At t y.r) : ahead (put t v) x y = ahead t x y := by
  obtain ⟨a, _, h⟩ := far_put hn hv
  unfold ahead
  rw [h x hx, h y hy]
  by_cases e : far t x = far t y
  · rw [if_pos (by rw [e]), if_pos e]
  · rw [if_neg (by split <;> split <;> omega), if_neg e]
    apply decide_eq_decide.2
    split <;> split <;> omega
/-! ### Those above stay -/
theorem ins_ids {p : Un → Bool} {x : Un} : ∀ {t : Fo} {k : Id}, k ∈ (insBy p x t).ids ↔ k = x.id ∨ k ∈ t.ids
  | nil, k => by simp [insBy, ids, flat]
  | nd u l r s, k => by
    unfold insBy
    split
    · rw [ids_nd, ids_nd]
      simp only [List.mem_append, List.mem_cons, ins_ids (t := s)]
      constructor
      · rintro ((h | h | h) | h | h)
        · exact .inr (.inl (.inl h))
        · exact .inr (.inl (.inr (.inl h)))
        · exact .inr (.inl (.inr (.inr h)))
        · exact .inl h
        · exact .inr (.inr h)
      · rintro (h | (h | h | h) | h)
        · exact .inr (.inl h)
        · exact .inl (.inl h)
        · exact .inl (.inr (.inl h))
        · exact .inl (.inr (.inr h))
        · exact .inr (.inr h)
    · rw [ids_nd x]
      simp only [List.mem_append, List.mem_cons]
      constructor
      · rintro ((h | h | h) | h)
        · cases h
        · exact .inl h
        · cases h
        · exact .inr h
      · rintro (h | h)
        · exact .inl (.inr (.inl h))
        · exact .inr h
theorem upL_ins {p : Un → Bool} {x : Un} : ∀ {t : Fo} {k : Id}, k ≠ x.id → upL (insBy p x t) k = upL t k
  | nil, k, h => by
    show upL (nd x nil nil nil) k = _
    rw [upL_nd, if_neg (Ne.symm h), if_neg (by intro h; cases h), if_neg (by intro h; cases h)]
  | nd u l r s, k, h => by
    unfold insBy
    split
    · rw [upL_nd, upL_nd, upL_ins (t := s) h]
    · rw [upL_nd x, if_neg (Ne.symm h), if_neg (by intro h; cases h), if_neg (by intro h; cases h)]
/-- What a forest does that only lays a new leaf. -/
structure Leaf (x : Id) (f : Fo → Fo) : Prop where
  ids : ∀ (t : Fo) (k : Id), k ≠ x → (k ∈ (f t).ids ↔ k ∈ t.ids)
  up : ∀ (t : Fo) (k : Id), k ≠ x → upL (f t) k = upL t k
theorem Leaf.id' (x : Id) : Leaf x id := ⟨fun _ _ _ => Iff.rfl, fun _ _ _ => rfl⟩
theorem Leaf.ins (p : Un → Bool) (x : Un) : Leaf x.id (insBy p x) := ⟨fun _ _ h => ins_ids.trans ⟨fun h' => h'.resolve_left h, .inr⟩, fun _ _ h => upL_ins h⟩
theorem Leaf.mod {x k' : Id} {f g : Fo → Fo} (hf : Leaf x f) (hg : Leaf x g) : Leaf x (mod k' f g) := by
  have h1 : ∀ (t : Fo) (k : Id), k ≠ x → (k ∈ (Fo.mod k' f g t).ids ↔ k ∈ t.ids) := by
    intro t k h
    induction t with
    | nil => exact Iff.rfl
    | nd u l r s il ir is =>
      unfold Fo.mod
      split
      · rw [ids_nd, ids_nd]
        simp only [List.mem_append, List.mem_cons, hf.ids _ _ h, hg.ids _ _ h]
      · rw [ids_nd, ids_nd]
        simp only [List.mem_append, List.mem_cons, il, ir, is]
  refine ⟨h1, fun t k h => ?_⟩
  induction t with
  | nil => rfl
  | nd u l r s il ir is =>
    unfold Fo.mod
    split
    · rw [upL_nd, upL_nd, hf.up _ _ h, hg.up _ _ h]
      simp only [hf.ids _ _ h, hg.ids _ _ h]
    · rw [upL_nd, upL_nd, il, ir, is]
      simp only [h1 _ _ h]
theorem upL_put {t : Fo} {v : Un} {k : Id} (h : k ≠ v.id) : upL (put t v) k = upL t k := by
  unfold put
  split
  · exact (Leaf.mod (Leaf.ins _ v) (Leaf.id' _)).up t k h
  · split
    · exact (Leaf.mod (Leaf.id' _) (Leaf.ins _ v)).up t k h
    · exact (Leaf.ins _ v).up t k h
theorem isL_put {t : Fo} {u v : Un} (hn : t.ids.Nodup) (hl : u.l ≠ v.id) (hr : u.r ≠ v.id) : isL (put t v) u = isL t u := by
  unfold isL
  rw [upL_put hr]
  have h1 : ∀ k, k ≠ v.id → (k ∈ (put t v).ids ↔ k ∈ t.ids) := fun k hk => (put_ids hn k).trans ⟨fun h => h.resolve_left hk, .inr⟩
  rw [decide_eq_decide.2 (h1 _ hr), decide_eq_decide.2 (h1 _ hl)]
/-! ### Laying commutes -/
theorem ins_ins {p q : Un → Bool} {u v : Un} (h1 : p v = !q u) (h2 : ∀ a, p a = true → q a = false → p v = true) (h3 : ∀ a, q a = true → p a = false → q u = true) : ∀ s : Fo, insBy p u (insBy q v s) = insBy q v (insBy p u s)
  | nil => by
    show insBy p u (nd v nil nil nil) = insBy q v (nd u nil nil nil)
    simp only [insBy, h1]
    cases q u <;> rfl
  | nd a l r s => by
    have ih := ins_ins h1 h2 h3 s
    cases hp : p a <;> cases hq : q a <;> simp only [insBy, hp, hq, if_true, if_false, Bool.false_eq_true]
    · rw [h1]
      cases q u <;> simp
    · have hh := h3 a hq hp
      simp [hh]
    · have hh := h2 a hp hq
      simp [hh]
    · simp [ih]
theorem ins_mod {p : Un → Bool} {x : Un} {k : Id} {f g : Fo → Fo} (h : x.id ≠ k) : ∀ s : Fo, insBy p x (mod k f g s) = mod k f g (insBy p x s)
  | nil => by
    show nd x nil nil nil = mod k f g (nd x nil nil nil)
    unfold mod
    rw [if_neg h]
    rfl
  | nd v l r s => by
    have ih := ins_mod (p := p) (f := f) (g := g) h s
    by_cases e : v.id = k
    · cases hp : p v <;> simp [mod, insBy, e, hp, h]
    · cases hp : p v <;> simp [mod, insBy, e, hp, h, ih]
theorem mod_mod {k k' : Id} {f g f' g' : Fo → Fo} (hne : k ≠ k') (hf : ∀ s, f (mod k' f' g' s) = mod k' f' g' (f s)) (hg : ∀ s, g (mod k' f' g' s) = mod k' f' g' (g s)) (hf' : ∀ s, f' (mod k f g s) = mod k f g (f' s)) (hg' : ∀ s, g' (mod k f g s) = mod k f g (g' s)) :
    ∀ t : Fo, mod k f g (mod k' f' g' t) = mod k' f' g' (mod k f g t)
  | nil => rfl
  | nd u l r s => by
    have il := mod_mod hne hf hg hf' hg' l
    have ir := mod_mod hne hf hg hf' hg' r
    have is := mod_mod hne hf hg hf' hg' s
    by_cases e : u.id = k
    · have e' : u.id ≠ k' := fun h => hne (e.symm.trans h)
      simp only [mod, if_pos e, if_neg e', hf, hg]
    · by_cases e' : u.id = k'
      · simp only [mod, if_neg e, if_pos e', hf', hg']
      · simp only [mod, if_neg e, if_neg e', il, ir, is]
theorem mod_same {k : Id} {f g f' g' : Fo → Fo} : ∀ t : Fo, mod k f g (mod k f' g' t) = mod k (fun s => f (f' s)) (fun s => g (g' s)) t
  | nil => rfl
  | nd u l r s => by
    by_cases e : u.id = k
    · simp only [mod, if_pos e]
    · simp only [mod, if_neg e, mod_same l, mod_same r, mod_same s]
theorem ins_congr {p q : Un → Bool} {x : Un} : ∀ {s : Fo}, (∀ a ∈ s.flat, p a = q a) → insBy p x s = insBy q x s
  | nil, _ => rfl
  | nd u l r s, h => by
    have h1 : p u = q u := h u (by simp [flat])
    have h2 := ins_congr (p := p) (q := q) (x := x) (s := s) fun a ha => h a (by simp [flat, ha])
    unfold insBy
    rw [h1, h2]
theorem mod_congr {p q : Un → Bool} {x : Un} {k : Id} : ∀ {s : Fo}, (∀ a ∈ s.flat, p a = q a) → mod k id (insBy p x) s = mod k id (insBy q x) s
  | nil, _ => rfl
  | nd u l r s, h => by
    have hl := mod_congr (p := p) (q := q) (x := x) (k := k) (s := l) fun a ha => h a (by simp [flat, ha])
    have hr := mod_congr (p := p) (q := q) (x := x) (k := k) (s := r) fun a ha => h a (by simp [flat, ha])
    have hs := mod_congr (p := p) (q := q) (x := x) (k := k) (s := s) fun a ha => h a (by simp [flat, ha])
    have hi := ins_congr (p := p) (q := q) (x := x) (s := r) fun a ha => h a (by simp [flat, ha])
    unfold mod
    rw [hl, hr, hs, hi]
/-- What put does to another tree than the one that tells where. -/
def lay (t : Fo) (u : Un) (s : Fo) : Fo :=
  if isL t u then mod u.r (insBy (fun a => lt a.id u.id) u) id s
  else if u.l ∈ t.ids then mod u.l id (insBy (fun a => ahead t a u) u) s
  else insBy (fun a => ahead t a u) u s
theorem Good.at {t : Fo} (h : Good t) {x : Un} (hx : x ∈ t.flat) : At t x.l ∧ At t x.r := h.org x hx
theorem At.ne {t : Fo} {k : Id} {v : Un} (h : At t k) (hv : v.id ∉ t.ids) (hr : rightId v.id = true) : k ≠ v.id := fun e => by
  rcases h with h | h
  · rw [← e, h] at hr
    exact Bool.noConfusion hr
  · exact hv (e ▸ h)
theorem put_eq (s : Fo) (u : Un) : put s u = if isL s u then mod u.r (insBy (fun a => lt a.id u.id) u) id s else if u.l ∈ s.ids then mod u.l id (insBy (fun a => ahead s a u) u) s else insBy (fun a => ahead s a u) u s := rfl
theorem put_lay {t : Fo} {u v : Un} (hg : Good t) (hu : Can t u) (hv : Can t v) : put (put t v) u = lay t u (put t v) := by
  have hl : u.l ≠ v.id := At.ne hu.l hv.new hv.right
  have hr : u.r ≠ v.id := At.ne hu.r hv.new hv.right
  have hm : u.l ∈ (put t v).ids ↔ u.l ∈ t.ids := (put_ids hg.nd _).trans ⟨fun h => h.resolve_left hl, .inr⟩
  have hc : ∀ a ∈ (put t v).flat, ahead (put t v) a u = ahead t a u := fun a ha => by
    refine ahead_put hg.nd hv.new ?_ hu.r
    rcases (put_mem hg.nd a).1 ha with rfl | ha
    · exact hv.r
    · exact (hg.at ha).2
  rw [put_eq (put t v) u]
  unfold lay
  rw [isL_put hg.nd hl hr, mod_congr hc, ins_congr hc]
  simp only [hm]
theorem lt_or {a b : Id} (h : lt a b = false) : lt b a = true ∨ a = b := by
  by_cases e : a = b
  · exact .inr e
  · exact .inl (lt_total h e)
theorem ins_lt {u v : Un} (hne : u.id ≠ v.id) (s : Fo) : insBy (fun a => lt a.id u.id) u (insBy (fun a => lt a.id v.id) v s) = insBy (fun a => lt a.id v.id) v (insBy (fun a => lt a.id u.id) u s) := by
  refine ins_ins ?_ (fun a h1 h2 => ?_) (fun a h1 h2 => ?_) s
  · cases h : lt u.id v.id with
    | true => exact lt_asymm h
    | false => exact lt_total h hne
  · rcases lt_or h2 with h | h
    · exact lt_trans h h1
    · rw [← h]; exact h1
  · rcases lt_or h2 with h | h
    · exact lt_trans h h1
    · rw [← h]; exact h1
theorem ahead_iff {t : Fo} {a b : Un} : ahead t a b = true ↔ far t b < far t a ∨ (far t a = far t b ∧ lt a.id b.id = true) := by
  unfold ahead
  by_cases e : far t a = far t b
  · rw [if_pos e]
    exact ⟨fun h => .inr ⟨e, h⟩, fun h => h.elim (fun h => by omega) fun h => h.2⟩
  · rw [if_neg e, decide_eq_true_eq]
    exact ⟨.inl, fun h => h.elim id fun h => absurd h.1 e⟩
theorem ahead_no {t : Fo} {a b : Un} (h : ahead t a b = false) : far t a < far t b ∨ (far t a = far t b ∧ (lt b.id a.id = true ∨ a.id = b.id)) := by
  unfold ahead at h
  by_cases e : far t a = far t b
  · rw [if_pos e] at h
    exact .inr ⟨e, lt_or h⟩
  · rw [if_neg e, decide_eq_false_iff_not] at h
    exact .inl (by omega)
theorem ins_ahead {t : Fo} {u v : Un} (hne : u.id ≠ v.id) (s : Fo) : insBy (fun a => ahead t a u) u (insBy (fun a => ahead t a v) v s) = insBy (fun a => ahead t a v) v (insBy (fun a => ahead t a u) u s) := by
  have tr : ∀ {a u v : Un}, ahead t a u = true → ahead t a v = false → ahead t v u = true := fun {a u v} h1 h2 => by
    rw [ahead_iff] at h1 ⊢
    rcases ahead_no h2 with h2 | ⟨h2, h3⟩
    · rcases h1 with h1 | ⟨h1, _⟩
      · exact .inl (by omega)
      · exact .inl (by omega)
    · rcases h1 with h1 | ⟨h1, h4⟩
      · exact .inl (by omega)
      · refine .inr ⟨by omega, ?_⟩
        rcases h3 with h3 | h3
        · exact lt_trans h3 h4
        · rw [← h3]; exact h4
  refine ins_ins (p := fun a => ahead t a u) (q := fun a => ahead t a v) ?_ (fun a => tr) (fun a => tr) s
  cases h : ahead t u v with
  | true =>
    cases h' : ahead t v u with
    | false => rfl
    | true =>
      rw [ahead_iff] at h h'
      rcases h with h | ⟨h, k⟩
      · rcases h' with h' | ⟨h', _⟩ <;> omega
      · rcases h' with h' | ⟨_, k'⟩
        · omega
        · rw [lt_asymm k] at k'; cases k'
  | false =>
    show ahead t v u = true
    rw [ahead_iff]
    rcases ahead_no h with h | ⟨h, k⟩
    · exact .inl h
    · exact .inr ⟨h.symm, k.resolve_right hne⟩
theorem lay_lay {t : Fo} {u v : Un} (hne : u.id ≠ v.id) (hu : Can t u) (hv : Can t v) (s : Fo) : lay t u (lay t v s) = lay t v (lay t u s) := by
  have nu : ∀ k ∈ t.ids, u.id ≠ k := fun k hk e => hu.new (e ▸ hk)
  have nv : ∀ k ∈ t.ids, v.id ≠ k := fun k hk e => hv.new (e ▸ hk)
  have inr : ∀ {x : Un}, isL t x = true → x.r ∈ t.ids := fun {x} h => by
    unfold isL at h
    simp only [Bool.and_eq_true, decide_eq_true_eq] at h
    exact h.1
  have ni : ∀ k, ∀ (p : Un → Bool) (f g : Fo → Fo), k ∈ t.ids → (∀ s, insBy p u (mod k f g s) = mod k f g (insBy p u s)) ∧ ∀ s, insBy p v (mod k f g s) = mod k f g (insBy p v s) := fun k p f g hk => ⟨ins_mod (nu k hk), ins_mod (nv k hk)⟩
  unfold lay
  cases hLu : isL t u with
  | true =>
    have hru := inr hLu
    cases hLv : isL t v with
    | true =>
      have hrv := inr hLv
      simp only [if_true]
      by_cases e : u.r = v.r
      · rw [e, mod_same, mod_same]
        have : (fun s => insBy (fun a => lt a.id u.id) u (insBy (fun a => lt a.id v.id) v s)) = fun s => insBy (fun a => lt a.id v.id) v (insBy (fun a => lt a.id u.id) u s) := funext fun s => ins_lt hne s
        rw [this]
      · exact mod_mod e (ni _ _ _ _ hrv).1 (by intro; rfl) (ni _ _ _ _ hru).2 (by intro; rfl) s
    | false =>
      simp only [if_true, Bool.false_eq_true, if_false]
      by_cases hl : v.l ∈ t.ids
      · simp only [if_pos hl]
        by_cases e : u.r = v.l
        · rw [e, mod_same, mod_same]
          rfl
        · exact mod_mod e (ni _ _ _ _ hl).1 (by intro; rfl) (by intro; rfl) (ni _ _ _ _ hru).2 s
      · simp only [if_neg hl]
        exact ((ni _ _ _ _ hru).2 s).symm
  | false =>
    simp only [Bool.false_eq_true, if_false]
    cases hLv : isL t v with
    | true =>
      have hrv := inr hLv
      simp only [if_true]
      by_cases hl : u.l ∈ t.ids
      · simp only [if_pos hl]
        by_cases e : u.l = v.r
        · rw [e, mod_same, mod_same]
          rfl
        · exact mod_mod e (by intro; rfl) (ni _ _ _ _ hrv).1 (ni _ _ _ _ hl).2 (by intro; rfl) s
      · simp only [if_neg hl]
        exact (ni _ _ _ _ hrv).1 s
    | false =>
      simp only [Bool.false_eq_true, if_false]
      by_cases hl : u.l ∈ t.ids
      · simp only [if_pos hl]
        by_cases hl' : v.l ∈ t.ids
        · simp only [if_pos hl']
          by_cases e : u.l = v.l
          · rw [e, mod_same, mod_same]
            have : (fun s => insBy (fun a => ahead t a u) u (insBy (fun a => ahead t a v) v s)) = fun s => insBy (fun a => ahead t a v) v (insBy (fun a => ahead t a u) u s) := funext fun s => ins_ahead hne s
            rw [this]
          · exact mod_mod e (by intro; rfl) (ni _ _ _ _ hl').1 (by intro; rfl) (ni _ _ _ _ hl).2 s
        · simp only [if_neg hl']
          exact ((ni _ _ _ _ hl).2 s).symm
      · simp only [if_neg hl]
        by_cases hl' : v.l ∈ t.ids
        · simp only [if_pos hl']
          exact (ni _ _ _ _ hl').1 s
        · simp only [if_neg hl']
          exact ins_ahead hne s
/-- In either order: the same. -/
theorem put_put {t : Fo} {u v : Un} (hg : Good t) (hne : u.id ≠ v.id) (hu : Can t u) (hv : Can t v) : put (put t v) u = put (put t u) v := by
  rw [put_lay hg hu hv, put_lay hg hv hu]
  exact lay_lay hne hu hv t
/-! ### Units in another order -/
theorem pos_mono {t : Fo} {v : Un} {a b : Id} (hn : t.ids.Nodup) (hv : v.id ∉ t.ids) (ha : a ∈ t.ids) (hb : b ∈ t.ids) : pos (put t v) a < pos (put t v) b ↔ pos t a < pos t b := by
  obtain ⟨n, _, h⟩ := pos_put hn hv
  rw [h a ha, h b hb]
  split <;> split <;> omega
theorem At.put {t : Fo} {k : Id} {v : Un} (hn : t.ids.Nodup) (h : At t k) : At (Fo.put t v) k := h.imp id fun h => (put_ids hn k).2 (.inr h)
theorem May.put {t : Fo} {u v : Un} (hg : Good t) (hu : May t u) (hv : Can t v) (hne : u.id ≠ v.id) : May (Fo.put t v) u :=
  ⟨⟨hu.right, fun h => ((put_ids hg.nd _).1 h).elim hne hu.new, At.put hg.nd hu.l, At.put hg.nd hu.r⟩, by
    rcases hu.lr with h | h | h
    · exact .inl h
    · exact .inr (.inl h)
    · by_cases h1 : u.l = none'
      · exact .inl h1
      · by_cases h2 : u.r = none'
        · exact .inr (.inl h2)
        · exact .inr (.inr ((pos_mono hg.nd hv.new (hu.l.resolve_left h1) (hu.r.resolve_left h2)).2 h))⟩
theorem May.back {t : Fo} {u v : Un} (hg : Good t) (hu : May (Fo.put t v) u) (hv : Can t v) (hl : At t u.l) (hr : At t u.r) : May t u ∧ u.id ≠ v.id :=
  ⟨⟨⟨hu.right, fun h => hu.new ((put_ids hg.nd _).2 (.inr h)), hl, hr⟩, by
    rcases hu.lr with h | h | h
    · exact .inl h
    · exact .inr (.inl h)
    · by_cases h1 : u.l = none'
      · exact .inl h1
      · by_cases h2 : u.r = none'
        · exact .inr (.inl h2)
        · exact .inr (.inr ((pos_mono hg.nd hv.new (hl.resolve_left h1) (hr.resolve_left h2)).1 h))⟩, fun e => hu.new ((put_ids hg.nd _).2 (.inl e))⟩
/-- One whose origins are there may come first. -/
theorem ok_pull : ∀ {xs : List Un} {t : Fo} {u : Un} {ys : List Un}, Good t → okL t (xs ++ u :: ys) → At t u.l → At t u.r → okL t (u :: (xs ++ ys)) ∧ putL t (u :: (xs ++ ys)) = putL t (xs ++ u :: ys)
  | [], _, _, _, _, h, _, _ => ⟨h, rfl⟩
  | x :: xs, t, u, ys, hg, h, hl, hr => by
    have hx := may_iff.1 h.1
    obtain ⟨⟨h1, h2⟩, h3⟩ := ok_pull (xs := xs) (hg.put hx.toCan) h.2 (At.put hg.nd hl) (At.put hg.nd hr)
    obtain ⟨hu, hne⟩ := May.back hg (may_iff.1 h1) hx.toCan hl hr
    have he := put_put hg hne hu.toCan hx.toCan
    refine ⟨⟨may_iff.2 hu, may_iff.2 (hx.put hg hu.toCan (Ne.symm hne)), ?_⟩, ?_⟩
    · rw [he] at h2
      exact h2
    · show putL (Fo.put (Fo.put t u) x) (xs ++ ys) = putL (Fo.put t x) (xs ++ u :: ys)
      rw [← he, ← h3]
      rfl
theorem ok_head {t : Fo} {u : Un} {us : List Un} (h : okL t (u :: us)) : At t u.l ∧ At t u.r := ⟨(may_iff.1 h.1).l, (may_iff.1 h.1).r⟩
end Fo
end Sq
end Go.Proofs.Ytmgipnckojopcaa
