/- The reference's Same; both Cuts. -/
import Derived.Test.YtglfoofclicfpaaGreatDoorVwD
namespace Go.Proofs.YtglfoofclicfpaaGreatDoor
set_option maxRecDepth 100000
namespace Vw
open Go Go.RowKit Sx Tl Fl Val Mk
open Utf (rs tl Tabs cutS)
theorem rows_cuthi {w : World} {sz c n : Nat} {a : Option Addr} {ls : List (List Value)} (h : SRows w sz (.slice a ls.length c) ls) (hn : n ≤ ls.length) : SRows w sz (sliced a 0 n c sz) (ls.take n) := by
  obtain ⟨b, off, cap, hf, hr⟩ := h
  have hl : (ls.take n).length = n := by rw [List.length_take]; omega
  rcases hf with hf | ⟨hf, rfl⟩
  · cases hf
    refine ⟨b, off, c - 0, .inl ?_, fun i hi => ?_⟩
    · unfold sliced
      rw [hl]
      split <;> simp [add_none]
    · rw [hl] at hi
      obtain ⟨h1, h2⟩ := hr i (by omega)
      refine ⟨h1, fun j u hu => h2 j u ?_⟩
      rwa [List.getElem_take] at hu
  · cases hf
    obtain rfl : n = 0 := by simpa using hn
    exact ⟨0, 0, 0, .inr ⟨by unfold sliced; simp, rfl⟩, fun i hi => absurd hi (Nat.not_lt_zero _)⟩
theorem rows_cutlo {w : World} {sz c n : Nat} {a : Option Addr} {ls : List (List Value)} (h : SRows w sz (.slice a ls.length c) ls) (hc : ls.length ≤ c) (hn : n ≤ ls.length) : SRows w sz (sliced a n ls.length c sz) (ls.drop n) := by
  obtain ⟨b, off, cap, hf, hr⟩ := h
  have hl : (ls.drop n).length = ls.length - n := List.length_drop
  rcases hf with hf | ⟨hf, hnil⟩
  · cases hf
    by_cases hcn : c = n
    · have hz : ls.drop n = [] := List.eq_nil_of_length_eq_zero (by omega)
      refine ⟨b, off, c - n, .inl ?_, fun i hi => by rw [hz] at hi; exact absurd hi (Nat.not_lt_zero _)⟩
      unfold sliced
      rw [hl, if_pos hcn]
    · refine ⟨b, off + n * sz, c - n, .inl ?_, fun i hi => ?_⟩
      · unfold sliced
        rw [hl, if_neg hcn]
        simp [add_none]
      · rw [hl] at hi
        obtain ⟨h1, h2⟩ := hr (n + i) (by omega)
        refine ⟨h1, fun j u hu => ?_⟩
        rw [List.getElem_drop] at hu
        have := h2 j u hu
        rwa [show off + (n + i) * sz + j = off + n * sz + i * sz + j by rw [Nat.add_mul]; omega] at this
  · subst hnil
    cases hf
    obtain rfl : n = 0 := by simpa using hn
    exact ⟨0, 0, 0, .inr ⟨by unfold sliced; simp, rfl⟩, fun i hi => absurd hi (Nat.not_lt_zero _)⟩
/-- A part of a row. -/
theorem rows_sub {w : World} {sz c m n : Nat} {a : Option Addr} {ls : List (List Value)} (h : SRows w sz (.slice a ls.length c) ls) (hc : ls.length ≤ c) (hmn : m ≤ n) (hn : n ≤ ls.length) : SRows w sz (sliced a m n c sz) ((ls.take n).drop m) := by
  have h1 := rows_cuthi h hn
  have hl : (ls.take n).length = n := by rw [List.length_take]; omega
  have e : sliced a 0 n c sz = .slice a (ls.take n).length c := by
    rw [hl]
    obtain ⟨b, off, cap, hf, _⟩ := id h
    rcases hf with hf | ⟨hf, rfl⟩
    · cases hf
      unfold sliced
      split <;> simp [add_none]
    · cases hf
      unfold sliced
      simp
  rw [e] at h1
  have h2 := rows_cutlo h1 (by omega) (n := m) (by omega)
  rw [hl] at h2
  exact h2
theorem RunS.sub {A m n c : Nat} {w : World} {a : Option Addr} {P : List Rv} (h : RunS A w (.slice a P.length c) P) (hc : P.length ≤ c) (hmn : m ≤ n) (hn : n ≤ P.length) : RunS A w (sliced a m n c 7) ((P.take n).drop m) := by
  refine ⟨?_, fun p hp => h.mks p (List.mem_of_mem_take (List.mem_of_mem_drop hp))⟩
  have := rows_sub (ls := P.map pcs) (m := m) (n := n) (by rw [List.length_map]; exact h.rows) (by rw [List.length_map]; exact hc) hmn (by rw [List.length_map]; exact hn)
  rwa [← List.map_take, ← List.map_drop] at this
theorem RunS.form {A : Nat} {w : World} {v : Value} {P : List Rv} (h : RunS A w v P) : ∃ a c, v = .slice a P.length c := by
  obtain ⟨a, c, e⟩ := h.rows.form
  rw [List.length_map] at e
  exact ⟨a, c, e⟩
/-- A clean list of these units. -/
structure Is (L : List Rn) (U : List Un) : Prop where
  ok : ∀ r ∈ L, OkR r
  neat : Neat L
  us : us L = U
theorem Cln.is {out l : List Rn} (h : Cln out l) : Is out (Vw.us l) := ⟨h.ok, h.neat, h.us⟩
theorem Is.cl {L M : List Rn} {U : List Un} (h : Is L U) (k : Is M U) : L.map cl = M.map cl := neat_unique h.ok k.ok h.neat k.neat (h.us.trans k.us.symm)
theorem enc_le (l : List Int) : (Utf.enc l).length ≤ 4 * l.length := by
  induction l with
  | nil => exact Nat.le_refl _
  | cons c l ih =>
    have e : Utf.enc (c :: l) = Utf.enc [c] ++ Utf.enc l := by rw [← Utf.enc_append]; rfl
    have h1 : (Utf.enc [c]).length ≤ 4 := by
      have := (Lib.encodeRuneZ_length c).2
      simp only [Utf.enc, List.flatMap_cons, List.flatMap_nil, List.append_nil, Lib.encodeRune, List.length_map]
      omega
    rw [e, List.length_append, List.length_cons]
    omega
theorem tx_le {r : Rn} (h : OkR r) : r.tx.size ≤ 4 * lenR r := by
  unfold lenR
  split
  · rename_i he
    rw [h.em he]
    exact Nat.zero_le _
  · have h1 := enc_le (rs (tl r.tx))
    rw [Utf.enc_rs h.val] at h1
    have : (tl r.tx).length = r.tx.size := Array.length_toList
    omega
theorem ne_len {r : Rn} (h : Ne r) : 1 ≤ lenR r := by
  have h1 := lenR_us r
  have h2 := h.us
  cases hu : usR r with
  | nil => exact absurd hu h2
  | cons u l => rw [hu] at h1; rw [← h1]; exact Nat.succ_le_succ (Nat.zero_le _)
theorem neat_tot : ∀ {K : List Rv}, (∀ k ∈ K, OkR k.1) → Neat (K.map Prod.fst) → tot K ≤ 5 * lenP K
  | [], _, _ => Nat.zero_le _
  | k :: K, ok, hn => by
    have h1 := neat_tot (K := K) (fun x hx => ok x (List.mem_cons_of_mem _ hx)) (Neat.tail hn)
    have h2 := tx_le (ok k List.mem_cons_self)
    have h3 := ne_len (Neat.head hn)
    rw [← List.singleton_append, tot_append, tot_one, List.singleton_append, lenP_cons]
    omega
theorem mem_ok {K : List Rv} {U : List Un} (h : Is (K.map Prod.fst) U) : ∀ k ∈ K, OkR k.1 := fun k hk => h.ok k.1 (List.mem_map_of_mem hk)
theorem Is.len {K : List Rv} {U : List Un} (h : Is (K.map Prod.fst) U) : lenP K = U.length := by unfold lenP; rw [h.us]
theorem Is.tot {K : List Rv} {U : List Un} (h : Is (K.map Prod.fst) U) : tot K ≤ 5 * U.length := by
  have := neat_tot (mem_ok h) h.neat
  rwa [h.len] at this
theorem units_uni {P : List Rv} (ok : ∀ p ∈ P, OkR p.1) : Uni ((P.flatMap splitV).map Prod.fst) ∧ us ((P.flatMap splitV).map Prod.fst) = us (P.map Prod.fst) := by
  rw [splitV_fst]
  exact splits fun r hr => by
    obtain ⟨p, hp, rfl⟩ := List.mem_map.1 hr
    exact ok p hp
theorem units_ms {P : List Rv} (hz : ∀ p ∈ P, p.1.ms.length ≤ 1000000) : ∀ q ∈ P.flatMap splitV, q.1.ms.length ≤ 1000000 := fun q hq => by
  obtain ⟨p, hp, hq⟩ := List.mem_flatMap.1 hq
  rw [(splitV_ms hq).2]
  exact hz p hp
theorem sub_uni {Q : List Rv} (h : Uni (Q.map Prod.fst)) (m n : Nat) : us (((Q.take n).drop m).map Prod.fst) = ((us (Q.map Prod.fst)).take n).drop m := by
  rw [List.map_drop, List.map_take]
  have h2 : Uni ((Q.map Prod.fst).take n) := fun r hr => h r (List.mem_of_mem_take hr)
  rw [uni_drop h2, uni_take h]
theorem tot_drop_le (P : List Rv) (n : Nat) : tot (P.drop n) ≤ tot P := by
  have h : tot P = tot (P.take n) + tot (P.drop n) := by rw [← tot_append, List.take_append_drop]
  omega
section
attribute [local irreducible] W Lst Qst Pu seqQ blkQ rndQ cutQ retQ Does Enters IntKind.wrap bits sb World.alloc World.putObj Blk
set_option maxHeartbeats 8000000 in
theorem r_SameL (P K : List Rv) (A : Nat) (a b : Option Addr) (c d : Nat) (w : World) (h : RunS A w (.slice a P.length c) P) (k : RunS A w (.slice b K.length d) K) (ok : ∀ p ∈ P, OkR p.1) (okK : ∀ p ∈ K, OkR p.1) (hz : ∀ p ∈ P, p.1.ms.length ≤ 1000000) (hl : P.length ≤ 1000000) : Does Tryz.prog 28 #[.slice a P.length c, .slice b K.length d] w fun v w' => (∃ t, v = .bool t ∧ (t = true ↔ (P.map Prod.fst).map cl = (K.map Prod.fst).map cl)) ∧ Below w.heap.size w w' := by
  refine Does_of (args := [.slice a P.length c, .slice b K.length d]) Tryz.func28 (by kernel_rfl) rfl rfl rfl rfl rfl ?_
  by_cases hlen : P.length = K.length
  · (refine Ga ?_)
    refine W_loop (α := Nat) (fun i => [(0, .slice a P.length c), (1, .slice b K.length d), (5, .int .i64 (i : Int))])
      (fun i X => i ≤ P.length ∧ ((P.take i).map Prod.fst).map cl = ((K.take i).map Prod.fst).map cl ∧ Below w.heap.size w X) (fun i _ => P.length - i) 0 ⟨Nat.zero_le _, rfl, Bel⟩ ⟨rfl, rfl, rfl, trivial⟩ ?_
    rintro J i X ⟨hi, hsm, bX⟩
    have sX := bX.size
    by_cases hil : i < P.length
    · have hilK : i < K.length := by omega
      have hX := h.below bX
      have kX := k.below bX
      obtain ⟨g, off, rfl, _, hc⟩ := hX.at hil
      obtain ⟨g2, off2, rfl, _, hc2⟩ := kX.at hilK
      have hmk := hX.mks _ (List.getElem_mem hil)
      have hmk2 := kX.mks _ (List.getElem_mem hilK)
      have hok := ok _ (List.getElem_mem hil)
      have hok2 := okK _ (List.getElem_mem hilK)
      have hzp := hz _ (List.getElem_mem hil)
      have htP : (P.take (i + 1)).map Prod.fst = (P.take i).map Prod.fst ++ [P[i].1] := by rw [List.take_succ_eq_append_getElem hil, List.map_append]; rfl
      have htK : (K.take (i + 1)).map Prod.fst = (K.take i).map Prod.fst ++ [K[i].1] := by rw [List.take_succ_eq_append_getElem hilK, List.map_append]; rfl
      have hgP : ∀ Z, (P.map Prod.fst).map cl = (K.map Prod.fst).map cl → cl P[i].1 = cl K[i].1 ∨ Z := fun Z e => by
        have := congrArg (fun l => l[i]?) e
        simp only [List.getElem?_map, List.getElem?_eq_getElem hil, List.getElem?_eq_getElem hilK, Option.map_some, Option.some.injEq] at this
        exact .inl this
      obtain ⟨p, hp⟩ : ∃ p, P[i] = p := ⟨_, rfl⟩
      obtain ⟨q, hq⟩ : ∃ q, K[i] = q := ⟨_, rfl⟩
      rw [hp] at hc hmk hok hzp htP hgP
      rw [hq] at hc2 hmk2 hok2 htK hgP
      obtain ⟨r, mv⟩ := p
      obtain ⟨s, nv⟩ := q
      obtain ⟨ma, mc, he⟩ := hmk.form
      obtain ⟨na, nc, he2⟩ := hmk2.form
      dsimp only at he he2 hok hok2 hzp hmk hmk2 htP htK hgP
      subst he
      subst he2
      (refine Ga ?_)
      refine W_draw 8 (fun Z => Below X.heap.size X Z) rfl (by kernel_rfl) (Below.drew (Below.refl _ _)) ?_
      (refine Qb ?_)
      apply Qst_pu
      · apply P_idxm (j := i) (sz := 7)
        focus rfl
        focus rfl
        focus rfl
        focus rfl
        focus rfl
        focus omega
      focus rfl
      (refine Qb ?_)
      apply Qst_loadS (cs := pcs (r, .slice ma r.ms.length mc))
      focus rfl
      focus rfl
      focus rfl
      focus rfl
      focus rfl
      focus exact fun A9 hA9 j v hj => cell_below hA9 (hc j v hj)
      focus rfl
      (refine Qb ?_)
      apply Qst_pu
      · apply P_idxm (j := i) (sz := 7)
        focus rfl
        focus rfl
        focus rfl
        focus rfl
        focus rfl
        focus omega
      focus rfl
      (refine Qb ?_)
      apply Qst_loadS (cs := pcs (s, .slice na s.ms.length nc))
      focus rfl
      focus rfl
      focus rfl
      focus rfl
      focus rfl
      focus exact fun A9 hA9 j v hj => cell_below hA9 (hc2 j v hj)
      focus rfl
      (refine Qb ?_)
      intro Z hZ
      (refine Ga ?_)
      (apply Lst_call; (focus rfl); (focus rfl))
      refine (r_same (r, .slice ma r.ms.length mc) (s, .slice na s.ms.length nc) A Z (hmk.below hZ) (hmk2.below hZ) hok hok2 hzp).mono ?_
      rintro v V ⟨rfl, hV⟩
      have bV := bX.trans ((hZ.trans (hV.mono hZ.size)).mono sX)
      cases hs : sameR r s with
      | true =>
        (refine Ga ?_)
        refine rndQ_n (α := Nat) (i + 1) ⟨hil, ?_, bV⟩ ⟨rfl, rfl, ?_, trivial⟩ (by omega)
        · rw [htP, htK, List.map_append, List.map_append, hsm]
          congr 1
          rw [List.map_cons, List.map_cons, (sameR_cl hok hok2).1 hs]
        · exact congrArg (Value.int .i64) (by omega)
      | false =>
        (refine Ga ?_)
        (apply retQ1; (focus rfl))
        refine ⟨⟨false, rfl, fun e => (by cases e), fun e => ?_⟩, bV⟩
        rcases hgP False e with e | e
        · rw [(sameR_cl hok hok2).2 e] at hs
          cases hs
        · exact e.elim
    · obtain rfl : i = P.length := by omega
      rw [List.take_length, hlen, List.take_length] at hsm
      (refine Ga ?_)
      (apply retQ1; (focus rfl))
      exact ⟨⟨true, rfl, fun _ => hsm, fun _ => rfl⟩, bX⟩
  · (refine Ga ?_)
    (apply retQ1; (focus rfl))
    refine ⟨⟨false, rfl, fun e => (by cases e), fun e => ?_⟩, Bel⟩
    have := congrArg List.length e
    simp only [List.length_map] at this
    exact absurd this hlen
set_option maxHeartbeats 8000000 in
theorem r_Cut (P : List Rv) (A : Nat) (a : Option Addr) (c : Nat) (w : World) (hA : A ≤ w.heap.size) (h : RunS A w (.slice a P.length c) P) (ok : ∀ p ∈ P, OkR p.1) (hz : ∀ p ∈ P, p.1.ms.length ≤ 1000000) (ht : tot P ≤ 100000) (hL : lenP P ≤ 100000) (f t : Int) : Does Tryz.prog 15 #[.slice a P.length c, .int .i64 f, .int .i64 t] w fun v w' => (∃ K, OwnR A w.heap.size w' v K ∧ Is (K.map Prod.fst) (((us (P.map Prod.fst)).take t.toNat).drop f.toNat) ∧ ∀ k ∈ K, k.1.ms.length ≤ 1000000) ∧ Below w.heap.size w w' := by
  refine Does_of (args := [.slice a P.length c, .int .i64 f, .int .i64 t]) Tryz.func15 (by kernel_rfl) rfl rfl rfl rfl rfl ?_
  (refine Ga ?_)
  (apply Lst_call; (focus rfl); (focus rfl))
  refine (r_Units P A a c w hA h ok ht hL).mono ?_
  rintro v V ⟨hoQ, bV⟩
  obtain ⟨hun, hus⟩ := units_uni ok
  have hms := units_ms hz
  have htQ := flat_tot ok
  have hlQ := flat_len2 P
  have hlU : (us (P.map Prod.fst)).length = lenP P := rfl
  obtain ⟨Q, hQ⟩ : ∃ Q, P.flatMap splitV = Q := ⟨_, rfl⟩
  rw [hQ] at hoQ hun hus hms htQ hlQ
  obtain ⟨q1, q3, rfl, hq13⟩ := hoQ.form
  have sV := bV.size
  obtain ⟨F, hF⟩ : ∃ F : Nat, max f 0 = (F : Int) := ⟨(max f 0).toNat, by omega⟩
  have hF2 : f.toNat = F := by omega
  by_cases hft : max f 0 ≥ min t (Q.length : Int)
  · (refine Ga ?_)
    (apply retQ1; (focus rfl))
    refine ⟨⟨[], OwnR.nil _ _ _, ⟨fun _ h => absurd h List.not_mem_nil, trivial, ?_⟩, fun _ h => absurd h List.not_mem_nil⟩, bV⟩
    show ([] : List Un) = _
    refine (List.drop_of_length_le ?_).symm
    rw [List.length_take, hlU, ← hlQ]
    omega
  · obtain ⟨T, hT⟩ : ∃ T : Nat, min t (Q.length : Int) = (T : Int) := ⟨(min t (Q.length : Int)).toNat, by omega⟩
    (refine Ga ?_)
    rw [hF, hT]
    (refine Ga ?_)
    have hsub := hoQ.read.sub hq13 (m := F) (n := T) (by omega) (by omega)
    obtain ⟨s1, s2, hs⟩ := hsub.form
    have hl : ((Q.take T).drop F).length ≤ Q.length := by rw [List.length_drop, List.length_take]; omega
    rw [Int.toNat_natCast, Int.toNat_natCast]
    erw [hs]
    rw [hs] at hsub
    (apply Lst_call; (focus rfl); (focus rfl))
    refine (r_Clean ((Q.take T).drop F) A s1 s2 V (Nat.le_trans hA sV) hsub (fun q hq => ?_) (fun q hq => hms q (List.mem_of_mem_take (List.mem_of_mem_drop hq))) ?_).mono ?_
    · exact (hun q.1 (List.mem_map_of_mem (List.mem_of_mem_take (List.mem_of_mem_drop hq)))).1
    · have h1 := tot_drop_le (Q.take T) F
      have h2 := tot_take_le Q T
      omega
    rintro v U ⟨⟨K, hoK, hcl, _, hzK⟩, bU⟩
    (refine Ga ?_)
    (apply retQ1; (focus rfl))
    refine ⟨⟨K, hoK.low sV, ⟨hcl.ok, hcl.neat, ?_⟩, hzK⟩, bV.trans (bU.mono sV)⟩
    rw [hcl.us, sub_uni hun, hus, hF2]
    congr 1
    by_cases h1 : t ≤ (Q.length : Int)
    · congr 1
      omega
    · rw [List.take_of_length_le (by omega), List.take_of_length_le (by omega)]
theorem cutR_ms (r : Rn) (i k : Nat) : (cutR r i k).ms = r.ms := by unfold cutR; split <;> rfl
theorem cutR_size (r : Rn) (i k : Nat) : (cutR r i k).tx.size ≤ r.tx.size := by
  unfold cutR
  split
  · exact Nat.le_refl _
  · exact Utf.cut_size r.tx i k
set_option maxHeartbeats 8000000 in
theorem c_Cut (P : List Rv) (A : Nat) (a : Option Addr) (c : Nat) (w : World) (hA : A ≤ w.heap.size) (h : RunS A w (.slice a P.length c) P) (ok : ∀ p ∈ P, OkR p.1) (hz : ∀ p ∈ P, p.1.ms.length ≤ 1000000) (ht : tot P ≤ 100000) (hL : lenP P ≤ 100000) (f t : Int) (hf : -9223372036854775808 ≤ f ∧ f ≤ 9223372036854775807) (htt : -9223372036854775808 ≤ t ∧ t ≤ 9223372036854775807) (hT : Tabs w) : Does Tryz.prog 11 #[.slice a P.length c, .int .i64 f, .int .i64 t] w fun v w' => (∃ K, OwnR A w.heap.size w' v K ∧ Is (K.map Prod.fst) (((us (P.map Prod.fst)).take t.toNat).drop f.toNat) ∧ ∀ k ∈ K, k.1.ms.length ≤ 1000000) ∧ Below w.heap.size w w' := by
  refine Does_of (args := [.slice a P.length c, .int .i64 f, .int .i64 t]) Tryz.func11 (by kernel_rfl) rfl rfl rfl rfl rfl ?_
  have hlP := tot_len P
  (refine Ga ?_)
  obtain ⟨F, hF⟩ : ∃ F : Nat, max f 0 = (F : Int) := ⟨(max f 0).toNat, by omega⟩
  obtain ⟨T, hTt⟩ : ∃ T : Nat, max t 0 = (T : Int) := ⟨(max t 0).toNat, by omega⟩
  have hF2 : f.toNat = F := by omega
  have hT2 : t.toNat = T := by omega
  have hFm : F ≤ 9223372036854775807 := by omega
  have hTm : T ≤ 9223372036854775807 := by omega
  rw [hF, hTt]
  rw [hF2, hT2]
  clear hF hTt hF2 hT2 hf htt
  refine W_loop (α := Nat × List Rv × Value) (fun x => [(1, .int .i64 (F : Int)), (2, .int .i64 (T : Int)), (7, x.2.2), (8, .int .i64 (lenP (P.take x.1) : Int)), (18, .slice a P.length c), (19, .int .i64 (P.length : Int)), (20, .int .i64 (x.1 : Int))])
    (fun x X => x.1 ≤ P.length ∧ OwnR A w.heap.size X x.2.2 x.2.1 ∧ (∀ k ∈ x.2.1, OkR k.1 ∧ k.1.ms.length ≤ 1000000) ∧ us (x.2.1.map Prod.fst) = ((us ((P.take x.1).map Prod.fst)).take T).drop F ∧ tot x.2.1 ≤ tot (P.take x.1) ∧ x.2.1.length ≤ x.1 ∧ Below w.heap.size w X) (fun x _ => P.length - x.1) (0, [], .slice none 0 0) ⟨Nat.zero_le _, OwnR.nil _ _ _, fun k hk => absurd hk List.not_mem_nil, by dsimp only; rw [List.take_zero]; simp [us], Nat.le_refl _, Nat.le_refl _, Bel⟩ ⟨rfl, rfl, rfl, rfl, rfl, rfl, rfl, trivial⟩ ?_
  rintro J ⟨i, K, v⟩ X ⟨hi, hoX, hokK, hus, htt, hKi, bX⟩
  dsimp only at hi hoX hokK hus htt hKi bX ⊢
  have sX := bX.size
  by_cases hil : i < P.length
  · have hX := h.below bX
    obtain ⟨g, off, rfl, _, hc⟩ := hX.at hil
    have hmk := hX.mks _ (List.getElem_mem hil)
    have hok := ok _ (List.getElem_mem hil)
    have hzp := hz _ (List.getElem_mem hil)
    have hsz := tot_mem (List.getElem_mem hil)
    have htk := tot_take_succ hil
    have hta : (P.take (i + 1)).map Prod.fst = (P.take i).map Prod.fst ++ [P[i].1] := by rw [List.take_succ_eq_append_getElem hil, List.map_append]; rfl
    have hla : (us ((P.take i).map Prod.fst)).length = lenP (P.take i) := rfl
    have hl2 := lenP_take_le P (i + 1)
    have hl3 := lenP_take_succ hil
    obtain ⟨p, hp⟩ : ∃ p, P[i] = p := ⟨_, rfl⟩
    rw [hp] at hc hmk hok hzp hsz htk hta hl3
    obtain ⟨r, mv⟩ := p
    obtain ⟨ma, mc, he⟩ := hmk.form
    dsimp only at he hok hzp hsz htk hta hmk hl3
    subst he
    obtain ⟨v1, n1, v3, rfl⟩ := own_slice hoX.row
    obtain ⟨at0, hat⟩ : ∃ n, lenP (P.take i) = n := ⟨_, rfl⟩
    rw [hat] at hla hl3 ⊢
    (refine Ga ?_)
    apply Lst_pu
    · apply P_idxm (j := i) (sz := 7)
      focus rfl
      focus rfl
      focus rfl
      focus rfl
      focus rfl
      focus omega
    focus rfl
    (refine Ga ?_)
    apply Lst_loadS' (cs := pcs (r, .slice ma r.ms.length mc))
    focus rfl
    focus rfl
    focus rfl
    focus rfl
    focus rfl
    focus exact hc
    focus rfl
    unfold pcs rcs
    dsimp only
    (refine Ga ?_)
    refine Lst_abs (fun B => Below X.heap.size X B ∧ Blk B X.heap.size (pcs (r, .slice ma r.ms.length mc)) 45) ⟨Bel, by unfold pcs rcs; dsimp only; exact (by (repeat (first | assumption | (apply Blk.below (hb := hb1); rotate_left; (focus ((try simp only [Sx.sizes]); omega)); rotate_right) | (apply Blk.below (hb := hb2); rotate_left; (focus ((try simp only [Sx.sizes]); omega)); rotate_right) | (apply Blk.below (hb := hb3); rotate_left; (focus ((try simp only [Sx.sizes]); omega)); rotate_right) | (apply Blk.below (hb := hb4); rotate_left; (focus ((try simp only [Sx.sizes]); omega)); rotate_right) | (apply Blk.below (hb := hb5); rotate_left; (focus ((try simp only [Sx.sizes]); omega)); rotate_right) | (apply Blk.below (hb := hb6); rotate_left; (focus ((try simp only [Sx.sizes]); omega)); rotate_right) | (apply Blk.below (hb := hb7); rotate_left; (focus ((try simp only [Sx.sizes]); omega)); rotate_right) | (apply Blk.below (hb := hb8); rotate_left; (focus ((try simp only [Sx.sizes]); omega)); rotate_right) | (apply Blk.below (hb := hb9); rotate_left; (focus ((try simp only [Sx.sizes]); omega)); rotate_right) | exact Blk.newE (by first | rfl | ((try simp only [Sx.sizes]); first | done | omega)) _ _ | exact Blk.put_same (by (try simp only [Sx.sizes]); first | done | omega) _ _ | (apply Blk.put_ne; (focus omega)) | apply Blk.alloc | apply Blk.drew)); done)⟩ ?_
    rintro B ⟨hB, kB⟩
    have bB := bX.trans (hB.mono sX)
    have sB := bB.size
    have lB := kB.lt
    (apply Lst_call; (focus rfl); (focus rfl))
    refine (c_length (r, .slice ma r.ms.length mc) A B (hT.below bB) (hmk.below hB) (by dsimp only; omega)).mono ?_
    rintro v C ⟨rfl, hC⟩
    dsimp only
    have hBC := hB.trans (hC.mono hB.size)
    have bC := bB.trans (hC.mono sB)
    have sC := bC.size
    have hoC := hoX.below hBC
    have hmC := hmk.below hBC
    have kC := kB.below hC lB
    have lC := kC.lt
    obtain ⟨n0, hn0⟩ : ∃ n, lenR r = n := ⟨_, rfl⟩
    have husl := lenR_us r
    rw [hn0] at hl3 husl ⊢
    change Blk C X.heap.size [.string r.tx, .bool r.em, .int .i64 r.v.k, .int .i64 r.v.n, .float .f64 r.v.f, .string r.v.s, .slice ma r.ms.length mc] 45 at kC
    obtain ⟨i1, hi1⟩ : ∃ n, F - at0 = n := ⟨_, rfl⟩
    obtain ⟨k1, hk1⟩ : ∃ n, min (T - at0) n0 = n := ⟨_, rfl⟩
    by_cases hik : max ((F : Int) - (at0 : Int)) 0 ≥ min ((T : Int) - (at0 : Int)) (n0 : Int)
    · (refine Ga ?_)
      refine rndQ_n (α := Nat × List Rv × Value) (i + 1, K, .slice v1 n1 v3) ⟨hil, hoC, hokK, ?_, by dsimp only; omega, by dsimp only; omega, bC⟩ ⟨rfl, rfl, rfl, ?_, rfl, rfl, ?_, trivial⟩ (by dsimp only; omega)
      · dsimp only
        rw [hta, us_append, us_one, part_append, hus, hla, List.drop_of_length_le (l := (usR r).take _) (by rw [List.length_take, husl]; omega), List.append_nil]
      · exact congrArg (Value.int .i64) (by dsimp only; rw [lenP_take_succ hil, hp]; dsimp only; omega)
      · exact congrArg (Value.int .i64) (by dsimp only; omega)
    · have hpart : ((usR r).take (T - at0)).drop (F - at0) = usR (cutR r i1 k1) := by
        rw [cutR_us (by omega) (by omega), hi1]
        congr 1
        rw [← hk1, ← husl, ← List.take_eq_take_min]
      cases hem : r.em with
      | true =>
        have hcr : cutR r i1 k1 = r := by unfold cutR; rw [if_pos hem]
        rw [hem] at kC
        (refine Ga ?_)
        (apply Lst_slit; (focus rfl); (focus rfl); (focus rfl); (focus rfl); (focus rfl); (focus rfl); (focus rfl); (focus rfl); (focus rfl); (focus (repeat (first | apply FillO.nil | (apply FillO.cons; (focus constructor); (focus rfl); (focus rfl); (focus (repeat constructor)))))); (focus ((try simp only [Sx.sizes]); first | done | rfl)); (focus rfl))
        refine Lst_abs (fun E => Below X.heap.size X E ∧ Blk E C.heap.size (pcs (cutR r i1 k1, .slice ma r.ms.length mc)) 45) ⟨Bel, by rw [hcr]; unfold pcs rcs; dsimp only; rw [hem]; exact (by (repeat (first | assumption | (apply Blk.below (hb := hb1); rotate_left; (focus ((try simp only [Sx.sizes]); omega)); rotate_right) | (apply Blk.below (hb := hb2); rotate_left; (focus ((try simp only [Sx.sizes]); omega)); rotate_right) | (apply Blk.below (hb := hb3); rotate_left; (focus ((try simp only [Sx.sizes]); omega)); rotate_right) | (apply Blk.below (hb := hb4); rotate_left; (focus ((try simp only [Sx.sizes]); omega)); rotate_right) | (apply Blk.below (hb := hb5); rotate_left; (focus ((try simp only [Sx.sizes]); omega)); rotate_right) | (apply Blk.below (hb := hb6); rotate_left; (focus ((try simp only [Sx.sizes]); omega)); rotate_right) | (apply Blk.below (hb := hb7); rotate_left; (focus ((try simp only [Sx.sizes]); omega)); rotate_right) | (apply Blk.below (hb := hb8); rotate_left; (focus ((try simp only [Sx.sizes]); omega)); rotate_right) | (apply Blk.below (hb := hb9); rotate_left; (focus ((try simp only [Sx.sizes]); omega)); rotate_right) | exact Blk.newE (by first | rfl | ((try simp only [Sx.sizes]); first | done | omega)) _ _ | exact Blk.put_same (by (try simp only [Sx.sizes]); first | done | omega) _ _ | (apply Blk.put_ne; (focus omega)) | apply Blk.alloc | apply Blk.drew)); done)⟩ ?_
        rintro E ⟨hE, kE⟩
        have bE := bX.trans (hE.mono sX)
        apply Lst_append1 (hown := hoX.below hE) (hb := kE) (hm := by rw [cutR_ms]; exact hmk.below hE) (hAB := hA)
        focus (show K.length + 1 ≤ 1000000; omega)
        focus exact bE.size
        focus rfl
        focus rfl
        focus rfl
        intro v' U hoU hU _ _
        obtain ⟨u1, u2, u3, rfl⟩ := own_slice hoU.row
        (refine Ga ?_)
        refine rndQ_n (α := Nat × List Rv × Value) (i + 1, K ++ [(cutR r i1 k1, .slice ma r.ms.length mc)], .slice u1 u2 u3) ⟨hil, hoU, fun x hx => ?_, ?_, ?_, ?_, bE.trans (hU.mono (Nat.le_refl _))⟩ ⟨rfl, rfl, rfl, ?_, rfl, rfl, ?_, trivial⟩ (by dsimp only; omega)
        · rcases List.mem_append.1 hx with hx | hx
          · exact hokK x hx
          · rw [List.mem_singleton.1 hx]
            exact ⟨cutR_ok hok _ _, by dsimp only; rw [cutR_ms]; exact hzp⟩
        · dsimp only
          rw [hta, us_append, us_one, part_append, List.map_append, us_append, hus, hla, hpart]
          exact congrArg _ (us_one _)
        · dsimp only
          rw [tot_append, tot_one]
          have := cutR_size r i1 k1
          dsimp only
          omega
        · dsimp only
          rw [List.length_append, List.length_singleton]
          omega
        · exact congrArg (Value.int .i64) (by dsimp only; rw [lenP_take_succ hil, hp]; dsimp only; omega)
        · exact congrArg (Value.int .i64) (by dsimp only; omega)
      | false =>
        have hcr : cutR r i1 k1 = { r with tx := Utf.cutS r.tx i1 k1 } := by unfold cutR; rw [if_neg (by rw [hem]; simp)]
        rw [hem] at kC
        (refine Ga ?_)
        (apply Lst_call; (focus rfl); (focus rfl))
        refine (Utf.c_Cut r.tx _ _ C (hT.below bC) (by omega)).mono ?_
        rintro v D ⟨hv, hD⟩
        have hv2 : v = .string (Utf.cutS r.tx i1 k1) := by
          rw [hv]
          congr 2
          · have : arith .sub .i64 (F : Int) (at0 : Int) = (F : Int) - (at0 : Int) := wi64 (by omega) (by omega)
            omega
          · have : arith .sub .i64 (T : Int) (at0 : Int) = (T : Int) - (at0 : Int) := wi64 (by omega) (by omega)
            omega
        subst hv2
        have bD := bC.trans (hD.mono sC)
        have hXD := hBC.trans (hD.mono hBC.size)
        have kD := kC.below hD lC
        have lD := kD.lt
        (refine Ga ?_)
        (apply Lst_slit; (focus rfl); (focus rfl); (focus rfl); (focus rfl); (focus rfl); (focus rfl); (focus rfl); (focus rfl); (focus rfl); (focus (repeat (first | apply FillO.nil | (apply FillO.cons; (focus constructor); (focus rfl); (focus rfl); (focus (repeat constructor)))))); (focus ((try simp only [Sx.sizes]); first | done | rfl)); (focus rfl))
        refine Lst_abs (fun E => Below X.heap.size X E ∧ Blk E D.heap.size (pcs (cutR r i1 k1, .slice ma r.ms.length mc)) 45) ⟨Bel, by rw [hcr]; unfold pcs rcs; dsimp only; rw [hem]; exact (by (repeat (first | assumption | (apply Blk.below (hb := hb1); rotate_left; (focus ((try simp only [Sx.sizes]); omega)); rotate_right) | (apply Blk.below (hb := hb2); rotate_left; (focus ((try simp only [Sx.sizes]); omega)); rotate_right) | (apply Blk.below (hb := hb3); rotate_left; (focus ((try simp only [Sx.sizes]); omega)); rotate_right) | (apply Blk.below (hb := hb4); rotate_left; (focus ((try simp only [Sx.sizes]); omega)); rotate_right) | (apply Blk.below (hb := hb5); rotate_left; (focus ((try simp only [Sx.sizes]); omega)); rotate_right) | (apply Blk.below (hb := hb6); rotate_left; (focus ((try simp only [Sx.sizes]); omega)); rotate_right) | (apply Blk.below (hb := hb7); rotate_left; (focus ((try simp only [Sx.sizes]); omega)); rotate_right) | (apply Blk.below (hb := hb8); rotate_left; (focus ((try simp only [Sx.sizes]); omega)); rotate_right) | (apply Blk.below (hb := hb9); rotate_left; (focus ((try simp only [Sx.sizes]); omega)); rotate_right) | exact Blk.newE (by first | rfl | ((try simp only [Sx.sizes]); first | done | omega)) _ _ | exact Blk.put_same (by (try simp only [Sx.sizes]); first | done | omega) _ _ | (apply Blk.put_ne; (focus omega)) | apply Blk.alloc | apply Blk.drew)); done)⟩ ?_
        rintro E ⟨hE, kE⟩
        have bE := bX.trans (hE.mono sX)
        apply Lst_append1 (hown := hoX.below hE) (hb := kE) (hm := by rw [cutR_ms]; exact hmk.below hE) (hAB := hA)
        focus (show K.length + 1 ≤ 1000000; omega)
        focus exact bE.size
        focus rfl
        focus rfl
        focus rfl
        intro v' U hoU hU _ _
        obtain ⟨u1, u2, u3, rfl⟩ := own_slice hoU.row
        (refine Ga ?_)
        refine rndQ_n (α := Nat × List Rv × Value) (i + 1, K ++ [(cutR r i1 k1, .slice ma r.ms.length mc)], .slice u1 u2 u3) ⟨hil, hoU, fun x hx => ?_, ?_, ?_, ?_, bE.trans (hU.mono (Nat.le_refl _))⟩ ⟨rfl, rfl, rfl, ?_, rfl, rfl, ?_, trivial⟩ (by dsimp only; omega)
        · rcases List.mem_append.1 hx with hx | hx
          · exact hokK x hx
          · rw [List.mem_singleton.1 hx]
            exact ⟨cutR_ok hok _ _, by dsimp only; rw [cutR_ms]; exact hzp⟩
        · dsimp only
          rw [hta, us_append, us_one, part_append, List.map_append, us_append, hus, hla, hpart]
          exact congrArg _ (us_one _)
        · dsimp only
          rw [tot_append, tot_one]
          have := cutR_size r i1 k1
          dsimp only
          omega
        · dsimp only
          rw [List.length_append, List.length_singleton]
          omega
        · exact congrArg (Value.int .i64) (by dsimp only; rw [lenP_take_succ hil, hp]; dsimp only; omega)
        · exact congrArg (Value.int .i64) (by dsimp only; omega)
  · obtain rfl : i = P.length := by omega
    obtain ⟨v1, v3, rfl, _⟩ := hoX.form
    (refine Ga ?_)
    (apply Lst_call; (focus rfl); (focus rfl))
    refine (c_Clean K A v1 v3 X (Nat.le_trans hA sX) hoX.read (fun k hk => (hokK k hk).1) (fun k hk => (hokK k hk).2) (by have := tot_take_le P P.length; omega)).mono ?_
    rintro v U ⟨⟨K2, hoK2, hcl, _, hzK2⟩, bU⟩
    (refine Ga ?_)
    (apply retQ1; (focus rfl))
    rw [List.take_length] at hus
    exact ⟨⟨K2, hoK2.low sX, ⟨hcl.ok, hcl.neat, hcl.us.trans hus⟩, hzK2⟩, bX.trans (bU.mono sX)⟩
end
end Vw
end Go.Proofs.YtglfoofclicfpaaGreatDoor
