/- The reference's Same; both Cuts. -/
import Derived.Test.YtglfoofclicfpaaDoorVwD
namespace Go.Proofs.YtglfoofclicfpaaDoor
set_option maxRecDepth 100000
namespace Vw
open Go Go.RowKit Sx Tl Fl Val Mk
open Utf (rs tl Tabs cutS)
theorem rows_cuthi {w : World} {sz c n : Nat} {a : Option Addr} {ls : List (List Value)} (h : SRows w sz (.slice a ls.length c) ls) (hn : n ≤ ls.length) : SRows w sz (sliced a 0 n c sz) (ls.take n) := by
  obtain ⟨b, off, cap, hf, hr⟩ := h
  have hl : (ls.take n).length = n := by rw [List.length_take]; omega
  rcases hf with hf | ⟨hf, rfl⟩
  · cases hf
    refine ⟨b, off, c - 0, .inl ?_, fun i hi => ?_⟩
    · unfold sliced
      rw [hl]
      split <;> simp [add_none]
    · rw [hl] at hi
      obtain ⟨h1, h2⟩ := hr i (by omega)
      refine ⟨h1, fun j u hu => h2 j u ?_⟩
      rwa [List.getElem_take] at hu
  · cases hf
    obtain rfl : n = 0 := by simpa using hn
    exact ⟨0, 0, 0, .inr ⟨by unfold sliced; simp, rfl⟩, fun i hi => absurd hi (Nat.not_lt_zero _)⟩
theorem rows_cutlo {w : World} {sz c n : Nat} {a : Option Addr} {ls : List (List Value)} (h : SRows w sz (.slice a ls.length c) ls) (hc : ls.length ≤ c) (hn : n ≤ ls.length) : SRows w sz (sliced a n ls.length c sz) (ls.drop n) := by
  obtain ⟨b, off, cap, hf, hr⟩ := h
  have hl : (ls.drop n).length = ls.length - n := List.length_drop
  rcases hf with hf | ⟨hf, hnil⟩
  · cases hf
    by_cases hcn : c = n
    · have hz : ls.drop n = [] := List.eq_nil_of_length_eq_zero (by omega)
      refine ⟨b, off, c - n, .inl ?_, fun i hi => by rw [hz] at hi; exact absurd hi (Nat.not_lt_zero _)⟩
      unfold sliced
      rw [hl, if_pos hcn]
    · refine ⟨b, off + n * sz, c - n, .inl ?_, fun i hi => ?_⟩
      · unfold sliced
        rw [hl, if_neg hcn]
        simp [add_none]
      · rw [hl] at hi
        obtain ⟨h1, h2⟩ := hr (n + i) (by omega)
        refine ⟨h1, fun j u hu => ?_⟩
        rw [List.getElem_drop] at hu
        have := h2 j u hu
        rwa [show off + (n + i) * sz + j = off + n * sz + i * sz + j by rw [Nat.add_mul]; omega] at this
  · subst hnil
    cases hf
    obtain rfl : n = 0 := by simpa using hn
    exact ⟨0, 0, 0, .inr ⟨by unfold sliced; simp, rfl⟩, fun i hi => absurd hi (Nat.not_lt_zero _)⟩
/-- A part of a row. -/
theorem rows_sub {w : World} {sz c m n : Nat} {a : Option Addr} {ls : List (List Value)} (h : SRows w sz (.slice a ls.length c) ls) (hc : ls.length ≤ c) (hmn : m ≤ n) (hn : n ≤ ls.length) : SRows w sz (sliced a m n c sz) ((ls.take n).drop m) := by
  have h1 := rows_cuthi h hn
  have hl : (ls.take n).length = n := by rw [List.length_take]; omega
  have e : sliced a 0 n c sz = .slice a (ls.take n).length c := by
    rw [hl]
    obtain ⟨b, off, cap, hf, _⟩ := id h
    rcases hf with hf | ⟨hf, rfl⟩
    · cases hf
      unfold sliced
      split <;> simp [add_none]
    · cases hf
      unfold sliced
      simp
  rw [e] at h1
  have h2 := rows_cutlo h1 (by omega) (n := m) (by omega)
  rw [hl] at h2
  exact h2
theorem RunS.sub {A m n c : Nat} {w : World} {a : Option Addr} {P : List Rv} (h : RunS A w (.slice a P.length c) P) (hc : P.length ≤ c) (hmn : m ≤ n) (hn : n ≤ P.length) : RunS A w (sliced a m n c 7) ((P.take n).drop m) := by
  refine ⟨?_, fun p hp => h.mks p (List.mem_of_mem_take (List.mem_of_mem_drop hp))⟩
  have := rows_sub (ls := P.map pcs) (m := m) (n := n) (by rw [List.length_map]; exact h.rows) (by rw [List.length_map]; exact hc) hmn (by rw [List.length_map]; exact hn)
  rwa [← List.map_take, ← List.map_drop] at this
theorem RunS.form {A : Nat} {w : World} {v : Value} {P : List Rv} (h : RunS A w v P) : ∃ a c, v = .slice a P.length c := by
  obtain ⟨a, c, e⟩ := h.rows.form
  rw [List.length_map] at e
  exact ⟨a, c, e⟩
/-- A clean list of these units. -/
structure Is (L : List Rn) (U : List Un) : Prop where
  ok : ∀ r ∈ L, OkR r
  neat : Neat L
  us : us L = U
theorem Cln.is {out l : List Rn} (h : Cln out l) : Is out (Vw.us l) := ⟨h.ok, h.neat, h.us⟩
theorem Is.cl {L M : List Rn} {U : List Un} (h : Is L U) (k : Is M U) : L.map cl = M.map cl := neat_unique h.ok k.ok h.neat k.neat (h.us.trans k.us.symm)
theorem enc_le (l : List Int) : (Utf.enc l).length ≤ 4 * l.length := by
  induction l with
  | nil => exact Nat.le_refl _
  | cons c l ih =>
    have e : Utf.enc (c :: l) = Utf.enc [c] ++ Utf.enc l := by rw [← Utf.enc_append]; rfl
    have h1 : (Utf.enc [c]).length ≤ 4 := by
      have := (Lib.encodeRuneZ_length c).2
      simp only [Utf.enc, List.flatMap_cons, List.flatMap_nil, List.append_nil, Lib.encodeRune, List.length_map]
      omega
    rw [e, List.length_append, List.length_cons]
    omega
theorem tx_le {r : Rn} (h : OkR r) : r.tx.size ≤ 4 * lenR r := by
  unfold lenR
  split
  · rename_i he
    rw [h.em he]
    exact Nat.zero_le _
  · have h1 := enc_le (rs (tl r.tx))
    rw [Utf.enc_rs h.val] at h1
    have : (tl r.tx).length = r.tx.size := Array.length_toList
    omega
theorem ne_len {r : Rn} (h : Ne r) : 1 ≤ lenR r := by
  have h1 := lenR_us r
  have h2 := h.us
  cases hu : usR r with
  | nil => exact absurd hu h2
  | cons u l => rw [hu] at h1; rw [← h1]; exact Nat.succ_le_succ (Nat.zero_le _)
theorem neat_tot : ∀ {K : List Rv}, (∀ k ∈ K, OkR k.1) → Neat (K.map Prod.fst) → tot K ≤ 5 * lenP K
  | [], _, _ => Nat.zero_le _
  | k :: K, ok, hn => by
    have h1 := neat_tot (K := K) (fun x hx => ok x (List.mem_cons_of_mem _ hx)) (Neat.tail hn)
    have h2 := tx_le (ok k List.mem_cons_self)
    have h3 := ne_len (Neat.head hn)
    rw [← List.singleton_append, tot_append, tot_one, List.singleton_append, lenP_cons]
    omega
theorem mem_ok {K : List Rv} {U : List Un} (h : Is (K.map Prod.fst) U) : ∀ k ∈ K, OkR k.1 := fun k hk => h.ok k.1 (List.mem_map_of_mem hk)
theorem Is.len {K : List Rv} {U : List Un} (h : Is (K.map Prod.fst) U) : lenP K = U.length := by unfold lenP; rw [h.us]
theorem Is.tot {K : List Rv} {U : List Un} (h : Is (K.map Prod.fst) U) : tot K ≤ 5 * U.length := by
  have := neat_tot (mem_ok h) h.neat
  rwa [h.len] at this
theorem units_uni {P : List Rv} (ok : ∀ p ∈ P, OkR p.1) : Uni ((P.flatMap splitV).map Prod.fst) ∧ us ((P.flatMap splitV).map Prod.fst) = us (P.map Prod.fst) := by
  rw [splitV_fst]
  exact splits fun r hr => by
    obtain ⟨p, hp, rfl⟩ := List.mem_map.1 hr
    exact ok p hp
theorem units_ms {P : List Rv} (hz : ∀ p ∈ P, p.1.ms.length ≤ 1000000) : ∀ q ∈ P.flatMap splitV, q.1.ms.length ≤ 1000000 := fun q hq => by
  obtain ⟨p, hp, hq⟩ := List.mem_flatMap.1 hq
  rw [(splitV_ms hq).2]
  exact hz p hp
theorem sub_uni {Q : List Rv} (h : Uni (Q.map Prod.fst)) (m n : Nat) : us (((Q.take n).drop m).map Prod.fst) = ((us (Q.map Prod.fst)).take n).drop m := by
  rw [List.map_drop, List.map_take]
  have h2 : Uni ((Q.map Prod.fst).take n) := fun r hr => h r (List.mem_of_mem_take hr)
  rw [uni_drop h2, uni_take h]
theorem tot_drop_le (P : List Rv) (n : Nat) : tot (P.drop n) ≤ tot P := by
  have h : tot P = tot (P.take n) + tot (P.drop n) := by rw [← tot_append, List.take_append_drop]
  omega
section
attribute [local irreducible] W Lst Qst Pu seqQ blkQ rndQ cutQ retQ Does Enters IntKind.wrap bits sb World.alloc World.putObj Blk
theorem cutR_ms (r : Rn) (i k : Nat) : (cutR r i k).ms = r.ms := by unfold cutR; split <;> rfl
theorem cutR_size (r : Rn) (i k : Nat) : (cutR r i k).tx.size ≤ r.tx.size := by
  unfold cutR
  split
  · exact Nat.le_refl _
  · exact Utf.cut_size r.tx i k
end
end Vw
end Go.Proofs.YtglfoofclicfpaaDoor
