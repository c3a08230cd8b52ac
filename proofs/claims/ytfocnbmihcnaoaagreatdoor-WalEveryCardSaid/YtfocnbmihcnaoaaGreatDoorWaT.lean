/- What the steps of a log do to its segments, plainly. -/
import Derived.Test.YtfocnbmihcnaoaaGreatDoorWaM
namespace Go.Proofs.YtfocnbmihcnaoaaGreatDoor
set_option maxRecDepth 100000
namespace Wa
open Go Sx Wire Dk
/-- A name of this log's. -/
def own (m : List UInt8) (n : ByteArray) : Prop := (ageP m n).isSome = true ∨ n = fresh m
theorem own_nm' {m : List UInt8} {a i : Nat} (hm : 46 ∉ m) (ha : a < 2000000000) (hi : i < 2000000000) : own m (nm m a i) := .inl (by rw [ageP_nm hm ha hi]; rfl)
theorem own_fresh (m : List UInt8) : own m (fresh m) := .inr rfl
theorem age_some {m : List UInt8} {n : ByteArray} (h : (ageP m n).isSome = true) : ∃ a i, a < 2000000000 ∧ i < 2000000000 ∧ n = nm m a i := by
  unfold ageP at h
  split at h
  · rename_i h9
    exact h9
  · cases h
theorem fresh_inj {m m' : List UInt8} (h : fresh m = fresh m') : m = m' := by
  have := bs_inj h
  exact List.append_cancel_right this
theorem own_apart {m m' : List UInt8} {n : ByteArray} (hm : 46 ∉ m) (hm' : 46 ∉ m') (hne : m ≠ m') (h : own m n) : ¬ own m' n := by
  intro k
  rcases h with h | rfl
  · obtain ⟨a, i, ha, hi, rfl⟩ := age_some h
    rcases k with k | k
    · rw [ageP_other hm' hm ha hi (Ne.symm hne)] at k
      cases k
    · exact nm_fresh hm' k
  · rcases k with k | k
    · rw [ageP_fresh hm] at k
      cases k
    · exact hne (fresh_inj k)
theorem mem_segs {m : List UInt8} {a k : Nat} {n : ByteArray} : n ∈ segs m a k ↔ ∃ i, i < k ∧ nm m a i = n := by
  unfold segs
  rw [List.mem_map]
  exact ⟨fun ⟨i, hi, e⟩ => ⟨i, List.mem_range.1 hi, e⟩, fun ⟨i, hi, e⟩ => ⟨i, List.mem_range.2 hi, e⟩⟩
theorem nm_inj_i {m : List UInt8} {a i j : Nat} (hm : 46 ∉ m) (ha : a < 2000000000) (hi : i < 2000000000) (hj : j < 2000000000) (h : nm m a i = nm m a j) : i = j := (nm_inj hm hm (by omega) (by omega) (by omega) (by omega) h).2.2
theorem nodup_on {α β : Type} {f : α → β} {l : List α} (h : ∀ a ∈ l, ∀ b ∈ l, f a = f b → a = b) (hn : l.Nodup) : (l.map f).Nodup := by
  unfold List.Nodup at hn ⊢
  rw [List.pairwise_map]
  exact hn.imp_of_mem fun ha hb hne e => hne (h _ ha _ hb e)
theorem segs_nodup {m : List UInt8} {a k : Nat} (hm : 46 ∉ m) (ha : a < 2000000000) (hk : k < 2000000000) : (segs m a k).Nodup := by
  unfold segs
  refine nodup_on ?_ List.nodup_range
  intro i hi j hj h
  exact nm_inj_i hm ha (by have := List.mem_range.1 hi; omega) (by have := List.mem_range.1 hj; omega) h
theorem run_keep {d d' : Dsk} {m : List UInt8} {a k : Nat} {L : List (List UInt8)} {z : Nat} (h : Run d m a k L z) : (∀ i, i < k → ∀ f, Sx.look d.es (nm m a i) = some f → ∃ f', Sx.look d'.es (nm m a i) = some f' ∧ f'.b = f.b) → Run d' m a k L z := by
  induction h with
  | nil => exact fun _ => .nil
  | @snoc k L last f M h hf hM hn hl ih =>
    intro hk
    obtain ⟨f', h1, h2⟩ := hk _ (Nat.lt_succ_self _) f hf
    rw [← h2] at hM hl ⊢
    exact .snoc (ih fun i hi => hk i (by omega)) h1 hM hn hl
theorem run_len {d : Dsk} {m : List UInt8} {a k : Nat} {L : List (List UInt8)} {z : Nat} (h : Run d m a k L z) : k ≤ L.length := by
  induction h with
  | nil => exact Nat.le_refl _
  | @snoc k L last f M h hf hM hn hl ih =>
    rw [List.length_append]
    have : 0 < M.length := List.length_pos_iff.2 hn
    omega
theorem run_small {d : Dsk} {m : List UInt8} {a k : Nat} {L : List (List UInt8)} {z : Nat} (h : Run d m a k L z) : ∀ x ∈ L, x.length ≤ 1048576 := by
  induction h with
  | nil => exact fun x hx => absurd hx List.not_mem_nil
  | @snoc k L last f M h hf hM hn hl ih =>
    intro x hx
    rcases List.mem_append.1 hx with hx | hx
    · exact ih x hx
    · exact hM.2.1 x hx
theorem run_zero {d : Dsk} {m : List UInt8} {a : Nat} {L : List (List UInt8)} {z : Nat} (h : Run d m a 0 L z) : L = [] ∧ z = 0 := by
  cases h
  exact ⟨rfl, rfl⟩
theorem run_pos {d : Dsk} {m : List UInt8} {a k : Nat} {L : List (List UInt8)} {z : Nat} (h : Run d m a (k + 1) L z) : ∃ L' z' f M, L = L' ++ M ∧ Run d m a k L' z' ∧ Sx.look d.es (nm m a k) = some f ∧ f.b = recB L'.length M ∧ M ≠ [] ∧ z = f.b.length ∧ ∀ x ∈ M, x.length ≤ 1048576 := by
  cases h with
  | @snoc _ L' z' f M h hf hM hn hl =>
    exact ⟨L', z', f, M, rfl, h, hf, (hM.1.eq_of_length hl).symm, hn, rfl, hM.2.1⟩
theorem run_has {d : Dsk} {m : List UInt8} {a k : Nat} {L : List (List UInt8)} {z : Nat} (h : Run d m a k L z) {i : Nat} (hi : i < k) : ∃ f, Sx.look d.es (nm m a i) = some f := by
  obtain ⟨_, _, _, f, _, h2, _⟩ := run_pre h i hi
  exact ⟨f, h2⟩
theorem recB_one (n : Nat) (b : List UInt8) : recB n [b] = rec1 n b := by
  show rec1 n b ++ [] = _
  rw [List.append_nil]
theorem run_new {d : Dsk} {m : List UInt8} {a k : Nat} {L : List (List UInt8)} {z : Nat} {f : Fl} {b : List UInt8} (h : Run d m a k L z) (hf : Sx.look d.es (nm m a k) = some f) (hb : f.b = rec1 L.length b) (hl : b.length ≤ 1048576) : Run d m a (k + 1) (L ++ [b]) (20 + b.length) := by
  have e : f.b.length = 20 + b.length := by rw [hb, rec_len]
  rw [← e]
  refine .snoc h hf ?_ (by simp) ?_
  · rw [hb, ← recB_one]
    exact whole_self _ _ (by simpa using hl)
  · rw [recB_one, hb]
theorem run_more {d d' : Dsk} {m : List UInt8} {a k : Nat} {L : List (List UInt8)} {z : Nat} {f f' : Fl} {b : List UInt8} (h : Run d m a (k + 1) L z) (hk : ∀ i, i < k → ∀ f, Sx.look d.es (nm m a i) = some f → ∃ f', Sx.look d'.es (nm m a i) = some f' ∧ f'.b = f.b)
    (hf : Sx.look d.es (nm m a k) = some f) (hf' : Sx.look d'.es (nm m a k) = some f') (hb : f'.b = f.b ++ rec1 L.length b) (hl : b.length ≤ 1048576) : Run d' m a (k + 1) (L ++ [b]) (z + (20 + b.length)) := by
  obtain ⟨L', z', g, M, rfl, hr, hg, hgb, hn, rfl, hs⟩ := run_pos h
  rw [hg] at hf
  cases hf
  have e : f'.b = recB L'.length (M ++ [b]) := by rw [hb, hgb, recB_snoc, List.length_append]
  have el : f.b.length + (20 + b.length) = f'.b.length := by rw [hb, List.length_append, rec_len]
  rw [el, List.append_assoc]
  refine .snoc (run_keep hr hk) hf' ?_ (by simp) ?_
  · rw [e]
    refine whole_self _ _ fun x hx => ?_
    rcases List.mem_append.1 hx with hx | hx
    · exact hs x hx
    · rw [List.mem_singleton.1 hx]
      exact hl
  · rw [e]
theorem found_det {d : Dsk} {m : List UInt8} {a k k' : Nat} {L L' : List (List UInt8)} {l l' : Nat} (h : Found d m a k L l) (h' : Found d m a k' L' l') : k = k' ∧ L = L' ∧ l = l' := by
  have step : ∀ {i j : Nat} {A B : List (List UInt8)} {x y : Nat}, Run d m a i A x → Run d m a j B y → i < j → ∀ {f : Fl} {M : List (List UInt8)}, Sx.look d.es (nm m a i) = some f → Whole A.length f.b M → M ≠ [] ∧ (recB A.length M).length = f.b.length := by
    intro i j A B x y hA hB hij f M hf hM
    obtain ⟨Li, li, N, f', h1, h2, h3, h4, h5⟩ := run_pre hB i hij
    obtain ⟨rfl, _⟩ := run_uniq hA h1
    rw [hf] at h2
    cases h2
    rw [whole_uniq hM h3]
    exact ⟨h4, h5⟩
  have gone : ∀ {i j : Nat} {B : List (List UInt8)} {y : Nat}, Run d m a j B y → i < j → Sx.look d.es (nm m a i) ≠ none := by
    intro i j B y hB hij e
    obtain ⟨f, hf⟩ := run_has hB hij
    rw [hf] at e
    cases e
  rcases h with ⟨hr, hs⟩ | ⟨i, A, M, f, x, hr, hs, hM, hn, hlt, rfl, rfl, rfl⟩
  · rcases h' with ⟨hr', hs'⟩ | ⟨j, B, N, f', y, hr', hs', hN, hn', hlt', rfl, rfl, rfl⟩
    · rcases Nat.lt_trichotomy k k' with h9 | rfl | h9
      · rcases hs with hs | ⟨f, hs, hw⟩
        · exact absurd hs (gone hr' h9)
        · exact absurd rfl (step hr hr' h9 hs hw).1
      · obtain ⟨rfl, rfl⟩ := run_uniq hr hr'
        exact ⟨rfl, rfl, rfl⟩
      · rcases hs' with hs | ⟨f, hs, hw⟩
        · exact absurd hs (gone hr h9)
        · exact absurd rfl (step hr' hr h9 hs hw).1
    · rcases Nat.lt_trichotomy k j with h9 | rfl | h9
      · rcases hs with hs | ⟨f, hs, hw⟩
        · exact absurd hs (gone hr' h9)
        · exact absurd rfl (step hr hr' h9 hs hw).1
      · obtain ⟨rfl, rfl⟩ := run_uniq hr hr'
        rcases hs with hs | ⟨f, hs, hw⟩
        · rw [hs] at hs'
          cases hs'
        · rw [hs] at hs'
          cases hs'
          exact absurd (whole_uniq hN hw) hn'
      · have := (step hr' hr h9 hs' hN).2
        omega
  · rcases h' with ⟨hr', hs'⟩ | ⟨j, B, N, f', y, hr', hs', hN, hn', hlt', rfl, rfl, rfl⟩
    · rcases Nat.lt_trichotomy i k' with h9 | rfl | h9
      · have := (step hr hr' h9 hs hM).2
        omega
      · obtain ⟨rfl, rfl⟩ := run_uniq hr hr'
        rcases hs' with hs' | ⟨f', hs', hw⟩
        · rw [hs] at hs'
          cases hs'
        · rw [hs] at hs'
          cases hs'
          exact absurd (whole_uniq hM hw) hn
      · rcases hs' with hs' | ⟨f', hs', hw⟩
        · exact absurd hs' (gone hr h9)
        · exact absurd rfl (step hr' hr h9 hs' hw).1
    · rcases Nat.lt_trichotomy i j with h9 | rfl | h9
      · have := (step hr hr' h9 hs hM).2
        omega
      · obtain ⟨rfl, rfl⟩ := run_uniq hr hr'
        rw [hs] at hs'
        cases hs'
        rw [whole_uniq hM hN]
        exact ⟨rfl, rfl, rfl⟩
      · have := (step hr' hr h9 hs' hN).2
        omega
theorem found_has {d : Dsk} {m : List UInt8} {a k : Nat} {L : List (List UInt8)} {z : Nat} (h : Found d m a k L z) : ∀ n ∈ segs m a k, ∃ f, Sx.look d.es n = some f := by
  intro n hn
  obtain ⟨i, hi, rfl⟩ := mem_segs.1 hn
  rcases h with ⟨hr, _⟩ | ⟨k', L', M, f, l', hr, hs, _, _, _, rfl, _, _⟩
  · exact run_has hr hi
  · rcases Nat.lt_succ_iff_lt_or_eq.1 hi with h9 | rfl
    · exact run_has hr h9
    · exact ⟨f, hs⟩
/-- A strict beginning of a record holds none. -/
theorem whole_torn {n t : Nat} {b : List UInt8} {M : List (List UInt8)} (hM : ∀ x ∈ M, x.length ≤ 1048576) (hb : b.length ≤ 1048576) (ht : t < 20 + b.length) : Whole n (recB n M ++ (rec1 (n + M.length) b).take t) M := by
  refine ⟨List.prefix_append _ _, hM, fun y hy => ?_⟩
  rw [List.drop_left] at hy
  have hp : rec1 (n + M.length) y <+: rec1 (n + M.length) b := hy.2.trans (List.take_prefix _ _)
  have hs := rec_size hy.2
  rw [List.length_take, rec_len] at hs
  have e : y = b := rec_uniq (by have := hy.1; omega) (by omega) hp (List.prefix_refl _)
  rw [e] at hs
  omega
theorem torn_new {d : Dsk} {m : List UInt8} {a k t : Nat} {L : List (List UInt8)} {z : Nat} {f : Fl} {b : List UInt8} (h : Run d m a k L z) (hf : Sx.look d.es (nm m a k) = some f) (hb : f.b = (rec1 L.length b).take t) (hl : b.length ≤ 1048576) (hn : Sx.look d.es (nm m a (k + 1)) = none) :
    Found d m a k L z ∨ Found d m a (k + 1) (L ++ [b]) (20 + b.length) := by
  by_cases ht : t < 20 + b.length
  · refine .inl (.inl ⟨h, .inr ⟨f, hf, ?_⟩⟩)
    rw [hb]
    have := whole_torn (n := L.length) (t := t) (b := b) (M := []) (by simp) hl ht
    exact this
  · refine .inr (.inl ⟨run_new h hf ?_ hl, .inl hn⟩)
    rw [hb, List.take_of_length_le (by rw [rec_len]; omega)]
theorem torn_more {d d' : Dsk} {m : List UInt8} {a k t : Nat} {L : List (List UInt8)} {z : Nat} {f f' : Fl} {b : List UInt8} (h : Run d m a (k + 1) L z) (hk : ∀ i, i < k → ∀ f, Sx.look d.es (nm m a i) = some f → ∃ f', Sx.look d'.es (nm m a i) = some f' ∧ f'.b = f.b)
    (hf : Sx.look d.es (nm m a k) = some f) (hf' : Sx.look d'.es (nm m a k) = some f') (hb : f'.b = (f.b ++ rec1 L.length b).take t) (ht : f.b.length ≤ t) (hl : b.length ≤ 1048576) (hn : Sx.look d'.es (nm m a (k + 1)) = none) :
    Found d' m a (k + 1) L z ∨ Found d' m a (k + 1) (L ++ [b]) (z + (20 + b.length)) := by
  obtain ⟨s, rfl⟩ : ∃ s, t = f.b.length + s := ⟨t - f.b.length, by omega⟩
  have hb' : f'.b = f.b ++ (rec1 L.length b).take s := by
    rw [hb, List.take_append, List.take_of_length_le (by omega)]
    congr 1
    congr 1
    omega
  by_cases hs : s < 20 + b.length
  · refine .inl ?_
    by_cases h0 : s = 0
    · refine .inl ⟨run_keep h fun i hi g hg => ?_, .inl hn⟩
      rcases Nat.lt_succ_iff_lt_or_eq.1 hi with h9 | rfl
      · exact hk i h9 g hg
      · rw [hg] at hf
        cases hf
        exact ⟨f', hf', by rw [hb', h0, List.take_zero, List.append_nil]⟩
    · obtain ⟨L', z', g, M, rfl, hr, hg, hgb, hM, rfl, hsm⟩ := run_pos h
      rw [hg] at hf
      cases hf
      refine .inr ⟨k, L', M, f', z', run_keep hr hk, hf', ?_, hM, ?_, rfl, rfl, by rw [hgb]⟩
      · rw [hb', hgb, List.length_append]
        exact whole_torn hsm hl hs
      · rw [hb', hgb, List.length_append, List.length_take, rec_len]
        omega
  · refine .inr (.inl ⟨run_more h hk hf hf' ?_ hl, .inl hn⟩)
    rw [hb', List.take_of_length_le (by rw [rec_len]; omega)]
end Wa
end Go.Proofs.YtfocnbmihcnaoaaGreatDoor
