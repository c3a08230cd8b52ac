/- What Restart leaves, plainly; what Open finds then, and behind a crash. -/
import Derived.Test.YtfocnbmihcnaoaaGreatDoorWaV
namespace Go.Proofs.YtfocnbmihcnaoaaGreatDoor
set_option maxRecDepth 100000
namespace Wa
open Go Sx Wire Dk
theorem restart_gen {d : Dsk} {g : Lg} {k : Nat} {L : List (List UInt8)} {b : List UInt8} (hd : d.dead = false) (hnd : (keys d.es).Nodup) (ho : Ok d g k L) (hm : Nice g.name) (ha : g.age + 1 < 10000000) (hL : L.length < 9999999) (hr : ((used d.es + (20 + b.length) : Nat) : Int) ≤ d.room) (h4 : used d.es + (20 + b.length) ≤ 4194304) :
    ∃ e g' d', g.restart d b = (e, g', d') ∧ (d.cut ≤ 0 → d'.dead = false) ∧
      ((e = 43 ∧ d'.dead = true ∧ 0 < d.cut ∧ ∀ n, n ≠ fresh g.name → Sx.look d'.es n = Sx.look d.es n) ∨
       (Sx.look d'.es (nm g.name (g.age + 1) 0) = some ⟨rec1 0 b, 20 + b.length⟩ ∧ (∀ n, ¬ own g.name n → Sx.look d'.es n = Sx.look d.es n) ∧ (∀ n, own g.name n → n ≠ nm g.name (g.age + 1) 0 → n ∉ g.files → Sx.look d'.es n = none) ∧
         (e = 43 ∧ d'.dead = true ∧ 0 < d.cut ∨ e = 0 ∧ g' = { g.anew b with dead := false } ∧ ∀ n ∈ g.files, Sx.look d'.es n = none))) := by
  have hkL := run_len ho.sg.run
  have hfell : (g.fell d).dead = false := by
    unfold Lg.fell
    dsimp only
    rw [ho.dead, hd]
    rfl
  have htf : fresh g.name ∉ g.files := by
    rw [ho.files]
    intro h9
    obtain ⟨j, _, e⟩ := mem_segs.1 h9
    exact nm_fresh hm.dot e
  have hNf : nm g.name (g.age + 1) 0 ∉ g.files := by
    rw [ho.files]
    intro h9
    obtain ⟨j, hj, e⟩ := mem_segs.1 h9
    have := (hm.inj (by omega) (by omega) ha (by omega) e).1
    omega
  have hNt : nm g.name (g.age + 1) 0 ≠ fresh g.name := nm_fresh hm.dot
  have hl0 : Sx.look d.es (fresh g.name) = none := ho.sg.only _ (own_fresh _) (by rw [← ho.files]; exact htf)
  have hown : own g.name (nm g.name (g.age + 1) 0) := hm.own ha (by omega)
  have hfile : d.file (fresh g.name) = f0 := by
    unfold Dsk.file
    rw [hl0]
    rfl
  have hs1 := append_step (b := rec1 0 b) hd hm.fresh.1 (by rw [rec_len]; exact hr) (by rw [rec_len]; exact h4)
  rw [hfile] at hs1
  obtain ⟨d1, hd1⟩ : ∃ d1, Dsk.done { d with es := Sx.put d.es (fresh g.name) ⟨f0.b ++ rec1 0 b, f0.safe⟩ } = d1 := ⟨_, rfl⟩
  have hk1 : ∀ n, Sx.look d1.es n = if fresh g.name = n then some ⟨rec1 0 b, 0⟩ else Sx.look d.es n := fun n => by
    rw [← hd1, es_done, look_put]
    rfl
  have hc1 : d1.cut ≤ d.cut := by rw [← hd1]; exact cutd_done _ _
  have hdc1 : d1.dead = true → 0 < d.cut := fun e => dead_cut hd (by rw [hd1]; exact e)
  have hn1 : (keys d1.es).Nodup := by
    rw [← hd1, es_done]
    exact put_nodup hnd _ _
  have hlc1 : d.cut ≤ 0 → d1.dead = false := fun e => by rw [← hd1]; exact live_cut hd e
  rw [hd1] at hs1
  cases e1 : d1.dead with
  | true =>
    have hmk : make3 g d b = (43, d1) := by
      unfold make3
      rw [hs1]
      dsimp only
      rw [if_pos rfl, dead_sync e1, if_neg (by simp)]
    have hres : g.restart d b = (43, { g with dead := decide ((43 : Int) = 43) }, d1) := by
      unfold Lg.restart
      rw [if_neg (by rw [hfell]; simp), hmk, if_neg (by simp)]
      dsimp only
      rw [dead_delete e1]
    exact ⟨43, _, d1, hres, hlc1, .inl ⟨rfl, e1, hdc1 e1, fun n hn => by rw [hk1, if_neg (Ne.symm hn)]⟩⟩
  | false =>
    have hs2 := sync_step e1 (by rw [hk1, if_pos rfl])
    dsimp only at hs2
    obtain ⟨d2, hd2⟩ : ∃ d2, Dsk.done { d1 with es := Sx.put d1.es (fresh g.name) ⟨rec1 0 b, (rec1 0 b).length⟩ } = d2 := ⟨_, rfl⟩
    have hk2 : ∀ n, Sx.look d2.es n = if fresh g.name = n then some ⟨rec1 0 b, 20 + b.length⟩ else Sx.look d.es n := fun n => by
      rw [← hd2, es_done, look_put, rec_len]
      split
      · rfl
      · rename_i h9
        rw [hk1, if_neg h9]
    have hc2 : d2.cut ≤ d.cut := by rw [← hd2]; exact Int.le_trans (cutd_done _ _) hc1
    have hdc2 : d2.dead = true → 0 < d.cut := fun e => Int.lt_of_lt_of_le (dead_cut e1 (by rw [hd2]; exact e)) hc1
    have hn2 : (keys d2.es).Nodup := by
      rw [← hd2, es_done]
      exact put_nodup hn1 _ _
    have hlc2 : d.cut ≤ 0 → d2.dead = false := fun e => by rw [← hd2]; exact live_cut e1 (Int.le_trans hc1 e)
    rw [hd2] at hs2
    cases e2 : d2.dead with
    | true =>
      have hmk : make3 g d b = (43, d2) := by
        unfold make3
        rw [hs1]
        dsimp only
        rw [if_pos rfl, hs2]
        dsimp only
        rw [if_pos rfl, dead_rename e2]
      have hres : g.restart d b = (43, { g with dead := decide ((43 : Int) = 43) }, d2) := by
        unfold Lg.restart
        rw [if_neg (by rw [hfell]; simp), hmk, if_neg (by simp)]
        dsimp only
        rw [dead_delete e2]
      exact ⟨43, _, d2, hres, hlc2, .inl ⟨rfl, e2, hdc2 e2, fun n hn => by rw [hk2, if_neg (Ne.symm hn)]⟩⟩
    | false =>
      have hs3 := rename_step e2 (by rw [hk2, if_pos rfl]) (hm.nm (a := g.age + 1) (i := 0) ha (by omega)).1
      obtain ⟨d3, hd3⟩ : ∃ d3, Dsk.done { d2 with es := Sx.put (Sx.del d2.es (fresh g.name)) (nm g.name (g.age + 1) 0) ⟨rec1 0 b, 20 + b.length⟩ } = d3 := ⟨_, rfl⟩
      have hk3 : ∀ n, Sx.look d3.es n = if nm g.name (g.age + 1) 0 = n then some ⟨rec1 0 b, 20 + b.length⟩ else if fresh g.name = n then none else Sx.look d.es n := fun n => by
        rw [← hd3, es_done, look_put]
        split
        · rfl
        · rw [look_del hn2]
          split
          · rfl
          · rename_i h9
            rw [hk2, if_neg h9]
      have hc3 : d3.cut ≤ d.cut := by rw [← hd3]; exact Int.le_trans (cutd_done _ _) hc2
      have hdc3 : d3.dead = true → 0 < d.cut := fun e => Int.lt_of_lt_of_le (dead_cut e2 (by rw [hd3]; exact e)) hc2
      have hn3 : (keys d3.es).Nodup := by
        rw [← hd3, es_done]
        exact put_nodup ((keys_del _ _).nodup hn2) _ _
      have hlc3 : d.cut ≤ 0 → d3.dead = false := fun e => by rw [← hd3]; exact live_cut e2 (Int.le_trans hc2 e)
      rw [hd3] at hs3
      have hmk : make3 g d b = (0, d3) := by
        unfold make3
        rw [hs1]
        dsimp only
        rw [if_pos rfl, hs2]
        dsimp only
        rw [if_pos rfl, hs3]
      have hfne : ∀ n ∈ g.files, nm g.name (g.age + 1) 0 ≠ n ∧ fresh g.name ≠ n := fun n hn => ⟨fun e => hNf (by rw [e]; exact hn), fun e => htf (by rw [e]; exact hn)⟩
      have hsn : g.files.Nodup := by
        rw [ho.files]
        exact segs_nodup hm.dot (by omega) (by omega)
      obtain ⟨e, d', k1, k2, k3, k4⟩ := delM_gen g.files d3 hn3 hsn (fun n hn => by
        rw [hk3, if_neg (hfne n hn).1, if_neg (hfne n hn).2]
        exact ho.has n hn)
      have hres : g.restart d b = (e, { g.anew b with dead := decide (e = 43) }, d') := by
        unfold Lg.restart
        rw [if_neg (by rw [hfell]; simp), hmk, if_pos rfl]
        dsimp only
        rw [k1]
      refine ⟨e, _, d', hres, fun hc => k4 (hlc3 hc) (Int.le_trans hc3 hc), .inr ⟨?_, fun n hn => ?_, fun n hn h1 h2 => ?_, ?_⟩⟩
      · rw [k2 _ hNf, hk3, if_pos rfl]
      · have h1 : nm g.name (g.age + 1) 0 ≠ n := fun e9 => hn (e9 ▸ hown)
        have h2 : fresh g.name ≠ n := fun e9 => hn (e9 ▸ own_fresh _)
        have h3 : n ∉ g.files := fun h9 => by
          rw [ho.files] at h9
          obtain ⟨j, hj, e9⟩ := mem_segs.1 h9
          exact hn (e9 ▸ hm.own (by omega) (by omega))
        rw [k2 n h3, hk3, if_neg h1, if_neg h2]
      · rw [k2 n h2, hk3, if_neg (Ne.symm h1)]
        split
        · rfl
        · exact ho.sg.only n hn (by rw [← ho.files]; exact h2)
      · rcases k3 with ⟨rfl, h6, h7⟩ | ⟨rfl, h6⟩
        · refine .inl ⟨rfl, h6, ?_⟩
          rcases h7 with h7 | h7
          · exact Int.lt_of_lt_of_le h7 hc3
          · exact hdc3 h7
        · exact .inr ⟨rfl, rfl, h6⟩
theorem age_of {d : Dsk} {m : List UInt8} {a j : Nat} (hd : d.dead = false) (hm : Nice m) (ha : a < 10000000) (hj : j < 10000000) (only : ∀ n, own m n → n ∉ segs m a j → n ≠ fresh m → Sx.look d.es n = none) (top : a = 0 ∨ ∃ i f, i < j ∧ Sx.look d.es (nm m a i) = some f) : maxAge m 0 d.list = a := by
  refine maxAge_is hd (fun n hn x hx => ?_) ?_
  · by_cases hs : n ∈ segs m a j
    · obtain ⟨i, hi, rfl⟩ := mem_segs.1 hs
      rw [ageP_nm hm.dot (by omega) (by omega)] at hx
      cases hx
      exact Nat.le_refl _
    · have h1 : n ≠ fresh m := by
        rintro rfl
        rw [ageP_fresh hm.dot] at hx
        cases hx
      exact absurd hn (no_key (only n (.inl (by rw [hx]; rfl)) hs h1))
  · rcases top with h | ⟨i, f, hi, hf⟩
    · exact .inl h
    · exact .inr ⟨_, mem_keys hf, ageP_nm hm.dot (by omega) (by omega)⟩
theorem segs_not {m : List UInt8} {a k i : Nat} (hm : Nice m) (ha : a < 10000000) (hk : k < 10000000) (hi : k ≤ i) (hi2 : i < 10000000) : nm m a i ∉ segs m a k := fun h => by
  obtain ⟨j, hj, e⟩ := mem_segs.1 h
  have := (hm.inj ha (by omega) ha hi2 e).2
  omega
theorem dec_ge : ∀ (k u : Nat), 10 ^ k ≤ u → k < (Lib.decDigits u).length
  | 0, u, _ => List.length_pos_iff.2 (dec_ne u)
  | k + 1, u, h => by
    have h1 : 1 ≤ 10 ^ k := Nat.pos_of_ne_zero (by simp)
    have ih := dec_ge k (u / 10) (by rw [Nat.pow_succ] at h; omega)
    rw [Lib.decDigits]
    rw [Nat.pow_succ] at h
    split
    · omega
    · rw [List.length_append, List.length_singleton]
      omega
theorem dec_le : ∀ (k u : Nat), u < 10 ^ (k + 1) → (Lib.decDigits u).length ≤ k + 1
  | 0, u, h => by
    rw [Lib.decDigits_one (by omega)]
    simp
  | k + 1, u, h => by
    have ih := dec_le k (u / 10) (by rw [Nat.pow_succ] at h; omega)
    rw [Lib.decDigits]
    split
    · simp
    · simp only [List.length_append, List.length_singleton]
      omega
/-- No segment of a disk of logs has a number beyond all. -/
theorem far_none {d : Dsk} {m : List UInt8} {a i : Nat} (hm : 46 ∉ m) (ha : a < 10000000) (hi : 2000000000 ≤ i) (hkn : ∀ n ∈ keys d.es, Kn n) : Sx.look d.es (nm m a i) = none := by
  refine look_no fun hk => ?_
  rcases hkn _ hk with ⟨m', a', i', h1, h2, h3, h4, e⟩ | ⟨m', h1, h2, e⟩
  · by_cases hb : i < 18446744073709551616
    · have := (nm_inj hm h1 (by omega) (by omega) hb (by omega) e).2.2
      omega
    · have e1 := bs_inj e
      unfold nmL at e1
      obtain ⟨_, e2⟩ := cut_inj hm h1 e1
      obtain ⟨_, e3⟩ := cut_inj (no_dot a) (no_dot a') e2
      have h5 := dec_ge 18 i (by omega)
      have h6 := dec_le 9 i' (by omega)
      rw [e3] at h5
      omega
  · exact nm_fresh h1 e
/-- Where all is read, Open finds all. -/
theorem open_sg {d : Dsk} {m : List UInt8} {a k : Nat} {L : List (List UInt8)} {z : Nat} (hd : d.dead = false) (hm : Nice m) (ha : a < 10000000) (hL : L.length ≤ 999) (hr : Run d m a k L z) (only : ∀ n, own m n → n ∉ segs m a k → n ≠ fresh m → Sx.look d.es n = none) (top : k = 0 → a = 0) : Opens d m a k L z := by
  have hk := run_len hr
  have hno : ∀ i, k ≤ i → i < 2000000000 → Sx.look d.es (nm m a i) = none := fun i hi hi2 => only _ (own_nm' hm.dot (by omega) hi2) (fun h => by
    obtain ⟨j, hj, e⟩ := mem_segs.1 h
    have := nm_inj_i hm.dot (by omega) (by omega) hi2 e
    omega) (nm_fresh hm.dot)
  refine ⟨age_of hd hm ha (by omega) only ?_, ha, .inl ⟨hr, .inl (hno k (Nat.le_refl _) (by omega))⟩, hL, fun i hi hi2 => hno i (by omega) hi2⟩
  by_cases h0 : k = 0
  · exact .inl (top h0)
  · obtain ⟨f, hf⟩ := run_has hr (i := 0) (by omega)
    exact .inr ⟨0, f, by omega, hf⟩
theorem Sg.opens {d : Dsk} {m : List UInt8} {a k : Nat} {L : List (List UInt8)} {z : Nat} (h : Sg d m a k L z) (hd : d.dead = false) (hm : Nice m) (ha : a < 10000000) (hL : L.length ≤ 999) : Opens d m a k L z := open_sg hd hm ha hL h.run (fun n h1 h2 _ => h.only n h1 h2) h.top
/-- What was all synced stands behind a crash; what is begun under the name of new beginnings does not count. -/
theorem open_same {d d' : Dsk} {g : Lg} {k : Nat} {L : List (List UInt8)} (ho : Ok d g k L) (hm : Nice g.name) (ha : g.age < 10000000) (hL : L.length ≤ 999) (hdi : g.dirty = []) (hs : ∀ n, n ≠ fresh g.name → Sx.look d'.es n = Sx.look d.es n) (keep : List Int) : Opens (d'.crash keep) g.name g.age k L g.size := by
  refine open_sg rfl hm ha hL (run_keep ho.sg.run fun i hi f hf => ?_) (fun n h1 h2 h3 => ?_) ho.sg.top
  · have hsy := ho.dirty (nm g.name g.age i) (by rw [ho.files]; exact mem_segs.2 ⟨i, hi, rfl⟩) (by rw [hdi]; exact List.not_mem_nil) f hf
    obtain ⟨f', k1, k2, _⟩ := crash_full (d := d') (by rw [hs _ (nm_fresh hm.dot)]; exact hf) hsy keep
    exact ⟨f', k1, k2⟩
  · exact crash_none (by rw [hs n h3]; exact ho.sg.only n h1 h2) keep
/-- Behind a crash an Append is there wholly or not at all. -/
theorem open_torn {d d' : Dsk} {g g' : Lg} {k i : Nat} {L : List (List UInt8)} {b : List UInt8} (ho : Ok d g k L) (hm : Nice g.name) (ha : g.age < 10000000) (hL : L.length ≤ 998) (hb : b.length ≤ 1048576) (hdi : g.dirty = []) (h : Apd d g k L b i g' d') (hsf : ∀ n f, Sx.look d'.es n = some f → f.safe ≤ f.b.length) (keep : List Int) :
    ∃ k' L' z', Opens (d'.crash keep) g.name g.age k' L' z' ∧ (L' = L ∨ L' = L ++ [b]) := by
  have hkL := run_len ho.sg.run
  have hi : i < 1000 := by have := h.num; omega
  have hne : ∀ j, j < i → nm g.name g.age j ≠ nm g.name g.age i := fun j hj e => by
    have := (hm.inj ha (by omega) ha (by omega) e).2
    omega
  have hold : ∀ j, j < i → ∀ f, Sx.look d.es (nm g.name g.age j) = some f → ∃ f', Sx.look (d'.crash keep).es (nm g.name g.age j) = some f' ∧ f'.b = f.b := fun j hj f hf => by
    have hsy := ho.dirty (nm g.name g.age j) (by rw [ho.files]; exact mem_segs.2 ⟨j, by have := h.num; omega, rfl⟩) (by rw [hdi]; exact List.not_mem_nil) f hf
    obtain ⟨f', k1, k2, _⟩ := crash_full (d := d') (by rw [h.others _ (hne j hj)]; exact hf) hsy keep
    exact ⟨f', k1, k2⟩
  have hself : Sx.look d'.es (nm g.name g.age i) = some ⟨(d.file (nm g.name g.age i)).b ++ rec1 L.length b, (d.file (nm g.name g.age i)).safe⟩ := by rw [h.es, look_put, if_pos rfl]
  obtain ⟨f', c1, c2, c3, t, c4⟩ := crash_some hself (hsf _ _ hself) keep
  have hno : ∀ n, own g.name n → n ∉ segs g.name g.age (i + 1) → Sx.look (d'.crash keep).es n = none := fun n h1 h2 => by
    refine crash_none ?_ keep
    rw [h.others n (fun e => h2 (mem_segs.2 ⟨i, Nat.lt_succ_self i, e.symm⟩))]
    refine ho.sg.only n h1 fun h3 => h2 ?_
    obtain ⟨j, hj, e⟩ := mem_segs.1 h3
    exact mem_segs.2 ⟨j, by have := h.num; omega, e⟩
  have hno2 : ∀ j, i + 1 ≤ j → j < 2000000000 → Sx.look (d'.crash keep).es (nm g.name g.age j) = none := fun j hj hj2 => hno _ (own_nm' hm.dot (by omega) hj2) (fun h9 => by
    obtain ⟨j', hj', e⟩ := mem_segs.1 h9
    have := nm_inj_i hm.dot (by omega) (by omega) hj2 e
    omega)
  have hage : maxAge g.name 0 (d'.crash keep).list = g.age := age_of rfl hm ha (j := i + 1) (by omega) (fun n h1 h2 _ => hno n h1 h2) (.inr ⟨i, f', Nat.lt_succ_self i, c1⟩)
  have fin : ∀ {k' : Nat} {L' : List (List UInt8)} {z' : Nat}, Found (d'.crash keep) g.name g.age k' L' z' → L'.length ≤ 999 → Opens (d'.crash keep) g.name g.age k' L' z' := fun hF hl => ⟨hage, ha, hF, hl, fun j hj hj2 => hno2 j (by omega) hj2⟩
  have hll : (L ++ [b]).length ≤ 999 := by
    rw [List.length_append, List.length_singleton]
    omega
  rcases h.num with rfl | rfl
  · have hn0 : Sx.look d.es (nm g.name g.age k) = none := ho.sg.only _ (hm.own ha (by omega)) (segs_not hm ha (by omega) (Nat.le_refl _) (by omega))
    have hf0 : d.file (nm g.name g.age k) = f0 := by
      unfold Dsk.file
      rw [hn0]
      rfl
    rw [hf0] at c4
    rcases torn_new (run_keep ho.sg.run hold) c1 c4 hb (hno2 _ (Nat.le_refl _) (by omega)) with hF | hF
    · exact ⟨_, _, _, fin hF (by omega), .inl rfl⟩
    · exact ⟨_, _, _, fin hF hll, .inr rfl⟩
  · obtain ⟨f, hf⟩ := run_has ho.sg.run (Nat.lt_succ_self i)
    have hff : d.file (nm g.name g.age i) = f := by
      unfold Dsk.file
      rw [hf]
      rfl
    have hsy := ho.dirty (nm g.name g.age i) (by rw [ho.files]; exact mem_segs.2 ⟨i, Nat.lt_succ_self i, rfl⟩) (by rw [hdi]; exact List.not_mem_nil) f hf
    rw [hff] at c2 c4
    dsimp only at c2 c4
    have hlen : f'.b.length = min t (f.b ++ rec1 L.length b).length := by rw [c4, List.length_take]
    rcases torn_more ho.sg.run hold hf c1 c4 (by omega) hb (hno2 _ (Nat.le_refl _) (by omega)) with hF | hF
    · exact ⟨_, _, _, fin hF (by omega), .inl rfl⟩
    · exact ⟨_, _, _, fin hF hll, .inr rfl⟩
/-- Behind a crash a new beginning that was made stands. -/
theorem open_anew {d d' : Dsk} {g : Lg} {k : Nat} {L : List (List UInt8)} {b : List UInt8} (ho : Ok d g k L) (hm : Nice g.name) (ha : g.age + 1 < 10000000) (hL : L.length ≤ 999) (hb : b.length ≤ 1048576) (h1 : Sx.look d'.es (nm g.name (g.age + 1) 0) = some ⟨rec1 0 b, 20 + b.length⟩) (h2 : ∀ n, own g.name n → n ≠ nm g.name (g.age + 1) 0 → n ∉ g.files → Sx.look d'.es n = none) (keep : List Int) :
    Opens (d'.crash keep) g.name (g.age + 1) 1 [b] (20 + b.length) := by
  have hkL := run_len ho.sg.run
  obtain ⟨f', c1, c2, _⟩ := crash_full h1 (by rw [rec_len]) keep
  have hno : ∀ n, own g.name n → n ≠ nm g.name (g.age + 1) 0 → n ∉ g.files → Sx.look (d'.crash keep).es n = none := fun n k1 k2 k3 => crash_none (h2 n k1 k2 k3) keep
  have hno2 : ∀ j, 1 ≤ j → j < 2000000000 → Sx.look (d'.crash keep).es (nm g.name (g.age + 1) j) = none := fun j hj hj2 => hno _ (own_nm' hm.dot (by omega) hj2) (fun e => by
    have := nm_inj_i hm.dot (by omega) hj2 (by omega) e
    omega) (fun h9 => by
    rw [ho.files] at h9
    obtain ⟨j', hj', e⟩ := mem_segs.1 h9
    have := (nm_inj hm.dot hm.dot (by omega) (by omega) (by omega) (by omega) e).2.1
    omega)
  refine ⟨maxAge_is rfl (fun n hn x hx => ?_) (.inr ⟨_, mem_keys c1, ageP_nm hm.dot (by omega) (by omega)⟩), ha, .inl ⟨run_new .nil c1 c2 hb, .inl (hno2 1 (Nat.le_refl _) (by omega))⟩, by simp, fun j hj hj2 => hno2 j (by omega) hj2⟩
  by_cases e1 : n = nm g.name (g.age + 1) 0
  · rw [e1, ageP_nm hm.dot (by omega) (by omega)] at hx
    cases hx
    exact Nat.le_refl _
  · by_cases e2 : n ∈ g.files
    · rw [ho.files] at e2
      obtain ⟨i, hi, rfl⟩ := mem_segs.1 e2
      rw [ageP_nm hm.dot (by omega) (by omega)] at hx
      cases hx
      omega
    · exact absurd hn (no_key (hno n (.inl (by rw [hx]; rfl)) e1 e2))
/-- A log that is opened works. -/
theorem open_ok {d : Dsk} {m : List UInt8} {a k : Nat} {L : List (List UInt8)} {z : Nat} (h : Opens d m a k L z) (hs : Sg d m a k L z) (hm : Nice m) (hf : Free d) :
    Free (cleanM m (segs m a k) d z).2 ∧ (∀ n, ¬ own m n → Sx.look (cleanM m (segs m a k) d z).2.es n = Sx.look d.es n) ∧ ∀ seg, Ok (cleanM m (segs m a k) d z).2 { Lg.begun m seg d with files := segs m a k, size := z, recs := L.length } k L := by
  obtain ⟨d', h1, h2, h3, h4, h5⟩ := h.clean hm.dot hf
  have hk := run_len hs.run
  have hfew := h.few
  have hlt := h.lt
  rw [h1]
  refine ⟨h2, fun n hn => h4 n hn fun h9 => ?_, fun seg => ?_⟩
  · obtain ⟨i, hi, rfl⟩ := mem_segs.1 h9
    exact hn (hm.own hlt (by omega))
  · have hage : (Lg.begun m seg d).age = a := h.age
    refine ⟨by show segs m a k = segs m (Lg.begun m seg d).age k; rw [hage], ?_, rfl, rfl, fun n hn _ f hl => ?_, fun n hn => absurd hn List.not_mem_nil, Nat.zero_le _⟩
    · show Sg d' m (Lg.begun m seg d).age k L z
      rw [hage]
      refine ⟨run_keep hs.run fun i hi f hl => ?_, h3, hs.top⟩
      obtain ⟨f', k1, k2, k3⟩ := h5 _ (mem_segs.2 ⟨i, hi, rfl⟩) f hl
      refine ⟨f', k1, k3 fun hg => ?_⟩
      obtain ⟨j, rfl⟩ : ∃ j, k = j + 1 := ⟨k - 1, by omega⟩
      obtain ⟨L', z', f2, M, _, _, hf2, _, _, hz, _⟩ := run_pos hs.run
      rw [segs_succ, List.getLast?_concat] at hg
      have e := (hm.inj hlt (by omega) hlt (by omega) (Option.some.inj hg)).2
      rw [← e, hf2] at hl
      cases hl
      omega
    · obtain ⟨f0, hf0⟩ := found_has h.found n hn
      obtain ⟨f', k1, k2, _⟩ := h5 n hn f0 hf0
      have hl' : Sx.look d'.es n = some f := hl
      rw [k1] at hl'
      cases hl'
      exact k2
end Wa
end Go.Proofs.YtfocnbmihcnaoaaGreatDoor
