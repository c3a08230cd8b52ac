/- A sequence in memory as its tree. -/
import Derived.Test.YtmammcgdjjldbaaSqV
import Derived.Test.YtmammcgdjjldbaaSqX
namespace Go.Proofs.Ytmammcgdjjldbaa
set_option maxRecDepth 100000
namespace Sq
open Go Go.RowKit Sx Tl
/-! ### From records to the tree -/
theorem fits_ins {ρ σ : Id → Rec} {p : Un → Bool} {u : Un} : ∀ {t : Fo} {q : Option Id}, Fo.Fits ρ q t → (∀ j ∈ t.ids, σ j = ρ j) → σ u.id = ⟨u, q, [], [], 1⟩ → Fo.Fits σ q (Fo.insBy p u t)
  | .nil, _, _, _, hx => ⟨hx, trivial, trivial, trivial⟩
  | .nd v l r s, q, h, he, hx => by
    have hs : ∀ j ∈ s.ids, σ j = ρ j := fun j hj => he j (by rw [Fo.ids_nd]; exact List.mem_append_right _ hj)
    have hw := h.congr he
    unfold Fo.insBy
    split
    · exact ⟨hw.1, hw.2.1, hw.2.2.1, fits_ins h.2.2.2 hs hx⟩
    · exact ⟨hx, trivial, trivial, hw⟩
theorem sz_ins (p : Un → Bool) (u : Un) (t : Fo) : (Fo.insBy p u t).sz = t.sz + 1 := by
  unfold Fo.sz
  rw [Fo.ins_flat]
  conv => rhs; rw [← Fo.fst_rst (Fo.pass p t) t]
  simp only [List.length_append, List.length_cons]
  omega
/-- Below this many. -/
theorem sub_sz {t : Fo} {A B : List Un} {u : Un} {l r : Fo} (hf : t.flat = A ++ l.flat ++ u :: r.flat ++ B) : A.length + l.sz + 1 + r.sz + B.length = t.sz := by
  unfold Fo.sz
  rw [hf]
  simp only [List.length_append, List.length_cons]
  omega
theorem tips_le : ∀ t : Fo, t.tips.length ≤ t.sz
  | .nil => Nat.le_refl _
  | .nd v l r s => by
    have := tips_le s
    show s.tips.length + 1 ≤ (l.flat ++ v :: r.flat ++ s.flat).length
    simp only [List.length_append, List.length_cons]
    unfold Fo.sz at this
    omega
/-- What Fits tells of one unit. -/
theorem fits_at {ρ : Id → Rec} {t : Fo} {k : Id} (hn : t.ids.Nodup) (hF : Fo.Fits ρ none t) (hk : k ∈ t.ids) : ∃ A B u l r q, u.id = k ∧ t.flat = A ++ l.flat ++ u :: r.flat ++ B ∧ ρ k = ⟨u, q, l.tips, r.tips, l.sz + 1 + r.sz⟩ ∧ Fo.Fits ρ (some k) l ∧ Fo.Fits ρ (some k) r := by
  obtain ⟨A, B, u, l, r, hu, hf, _, h⟩ := Fo.split hn hk
  obtain ⟨⟨q, h1⟩, h2, h3⟩ := h ρ none hF
  exact ⟨A, B, u, l, r, q, hu, hf, h1, h2, h3⟩
theorem fits_clo {ρ : Id → Rec} {t : Fo} (hn : t.ids.Nodup) (hF : Fo.Fits ρ none t) : Clo t.ids t.tips t.ids t.ids ρ := by
  refine ⟨fun _ h => h, fun _ h => Fo.tips_ids h, fun _ h => h, fun k hk j hj => ?_, fun k hk j hj => ?_, fun k hk j hj => ?_⟩
  · obtain ⟨A, B, u, l, r, q, hu, hf, h1, h2, h3⟩ := fits_at hn hF hk
    rw [h1] at hj
    exact (Fo.mem_split hf).1 j (Fo.tips_ids hj)
  · obtain ⟨A, B, u, l, r, q, hu, hf, h1, h2, h3⟩ := fits_at hn hF hk
    rw [h1] at hj
    exact (Fo.mem_split hf).2 j (Fo.tips_ids hj)
  · rw [Fo.Fits.par hn hk hF] at hj
    cases e : Fo.upL t k with
    | nil => rw [e] at hj; cases hj
    | cons a c =>
      rw [e] at hj
      cases hj
      exact Fo.upL_sub (by rw [e]; exact List.mem_cons_self ..)
theorem fits_sizes {ρ : Id → Rec} {t : Fo} (hn : t.ids.Nodup) (hF : Fo.Fits ρ none t) (hs : t.sz ≤ 1000000000 - 1) : Sizes t.tips t.ids ρ := by
  refine ⟨fun k hk => ?_, fun k hk => ?_, fun k hk => ?_, Nat.le_trans (tips_le t) hs⟩
  all_goals
    obtain ⟨A, B, u, l, r, q, hu, hf, h1, h2, h3⟩ := fits_at hn hF hk
    have := sub_sz hf
    have := tips_le l
    have := tips_le r
    rw [h1]
    dsimp only
    omega
theorem fits_u {ρ : Id → Rec} {t : Fo} (hF : Fo.Fits ρ none t) : ∀ j ∈ t.ids, (ρ j).u.id = j := fun j hj => by
  obtain ⟨u, hu, rfl⟩ := List.mem_map.1 hj
  rw [hF.rec_u u hu]
theorem fits_selfs {ρ : Id → Rec} {t : Fo} (hn : t.ids.Nodup) (hF : Fo.Fits ρ none t) : Selfs t.ids ρ := by
  refine ⟨fits_u hF, fun k hk i hi => ?_⟩
  obtain ⟨A, B, u, l, r, q, hu, hf, h1, h2, h3⟩ := fits_at hn hF hk
  rw [h1] at hi
  have hi := Fo.tips_ids hi
  rintro rfl
  unfold Fo.ids at hn
  rw [hf] at hn
  simp only [List.map_append, List.map_cons, List.append_assoc] at hn
  rw [List.nodup_append] at hn
  have h4 := hn.2.1
  rw [List.nodup_append] at h4
  exact h4.2.2 i hi u.id (by simp) hu.symm
theorem chain_up {ρ : Id → Rec} {t : Fo} (hn : t.ids.Nodup) (hF : Fo.Fits ρ none t) : ∀ (c : List Id) (k : Id), Fo.upL t k = c → ChainL ρ t.ids c
  | [], _, _ => trivial
  | j :: c, k, h => by
    have hj : j ∈ t.ids := Fo.upL_sub (k := k) (by rw [h]; exact List.mem_cons_self ..)
    have hc := Fo.upL_tail hn h
    refine ⟨hj, ?_, chain_up hn hF c j hc⟩
    rw [Fo.Fits.par hn hj hF, hc]
    cases c.head? <;> rfl
theorem par_up {ρ : Id → Rec} {t : Fo} (hn : t.ids.Nodup) (hF : Fo.Fits ρ none t) {k : Id} (hk : k ∈ t.ids) : (ρ k).par = (Fo.upL t k).head? := by
  rw [Fo.Fits.par hn hk hF]
  cases (Fo.upL t k).head? <;> rfl
/-! ### What the program asks is what the tree asks -/
theorem findV_pos {t : Fo} {k : Id} (h : k ∈ t.ids) : findV t.ids t.ids k = (t.pos k : Int) := if_pos h
theorem farV_eq {t : Fo} {u : Un} (h : u.r = Fo.none' ∨ u.r ∈ t.ids) : farV t.ids t.ids u = (Fo.far t u : Int) := by
  unfold farV Fo.far
  by_cases e : u.r = Fo.none'
  · rw [if_pos e, if_pos e, Fo.ids_len]
  · rw [if_neg e, if_neg e, findV_pos (h.resolve_left e)]
theorem aheadV_eq {t : Fo} {a b : Un} (ha : a.r = Fo.none' ∨ a.r ∈ t.ids) (hb : b.r = Fo.none' ∨ b.r ∈ t.ids) : aheadV t.ids t.ids a b = Fo.ahead t a b := by
  unfold aheadV Fo.ahead
  rw [farV_eq ha, farV_eq hb]
  by_cases e : Fo.far t a = Fo.far t b
  · rw [if_pos (by rw [e]), if_pos e]
  · rw [if_neg (by omega), if_neg e, decide_eq_decide]
    omega
theorem mayV_eq {t : Fo} (u : Un) : mayV t.ids t.ids u = Fo.may t u := by
  unfold mayV Fo.may thereV
  by_cases hl : u.l ∈ t.ids
  · by_cases hr : u.r ∈ t.ids
    · rw [findV_pos hl, findV_pos hr]
      have : decide ((t.pos u.l : Int) < (t.pos u.r : Int)) = decide (t.pos u.l < t.pos u.r) := by rw [decide_eq_decide]; omega
      rw [this]
    · by_cases e : u.r = Fo.none'
      · simp [e]
      · simp [e, hr]
  · by_cases e : u.l = Fo.none'
    · simp [e]
    · simp [e, hl]
/-! ### What put wants, and what comes of it -/
theorem sum_drop {ρ : Id → Rec} {l : Fo} {q : Option Id} (h : Fo.Fits ρ q l) (m : Nat) : sumN ρ (l.tips.drop m) = (Fo.rst m l).flat.length := by
  rw [Fo.rst_sz, ← h.szs, ← List.map_drop]
  rfl
theorem sum_take {ρ : Id → Rec} {l : Fo} {q : Option Id} (h : Fo.Fits ρ q l) (m : Nat) : sumN ρ (l.tips.take m) = (Fo.fst m l).flat.length := by
  rw [Fo.fst_sz, ← h.szs, ← List.map_take]
  rfl
theorem fst_rst_len (m : Nat) (t : Fo) : (Fo.fst m t).flat.length + (Fo.rst m t).flat.length = t.sz := by
  unfold Fo.sz
  rw [← Fo.fst_rst m t, List.length_append]
theorem tips_get {t : Fo} {i : Nat} (h : i < t.tips.length) : t.tips[i] = (t.tops[i]'(by unfold Fo.tips at h; rwa [List.length_map] at h)).id := by
  simp only [Fo.tips, List.getElem_map]
theorem tops_flat : ∀ {t : Fo} {u : Un}, u ∈ t.tops → u ∈ t.flat
  | .nd v l r s, u, h => by
    show u ∈ l.flat ++ v :: r.flat ++ s.flat
    simp only [List.mem_append, List.mem_cons]
    rcases List.mem_cons.1 h with h | h
    · exact .inl (.inr (.inl h))
    · exact .inr (tops_flat h)
/-- What put is told, and what it leaves. -/
structure Puts (ρ : Id → Rec) (t : Fo) (u : Un) (rc c : List Id) (V : Where) (P : Nat) : Prop where
  hrc : u.r ∈ t.ids → ChainL ρ t.ids rc ∧ (ρ u.r).par = rc.head?
  hW : if V.left then LeftOk ρ t.ids u rc V.k ∧ V.par = some u.r else RightOk ρ t.ids t.tips t.ids u rc V.k ∧ V.par = parOf t.ids u
  hch : ChainL ρ t.ids c ∧ V.par = c.head? ∧ c.Nodup
  hP : (P : Int) = if V.left then findV t.ids t.ids u.r - (sumN ρ ((ρ u.r).L.drop V.k) : Int) else place0 t.ids t.ids V.par + (sumN ρ ((rowOf ρ t.tips V.par).take V.k) : Int)
  hPl : P ≤ t.ids.length
  ids : t.ids.take P ++ u.id :: t.ids.drop P = (Fo.put t u).ids
  tips : (if V.left then t.tips else rtR t.tips V.par ((rowOf ρ t.tips V.par).take V.k ++ u.id :: (rowOf ρ t.tips V.par).drop V.k)) = (Fo.put t u).tips
  fits : Fo.Fits (bump 1 c (laid (fset ρ u.id (newRec u)) t.tips u.id V)) none (Fo.put t u)
theorem ins_tips (p : Un → Bool) (u : Un) (t : Fo) : (Fo.insBy p u t).tips = t.tips.take (Fo.pass p t) ++ u.id :: t.tips.drop (Fo.pass p t) := by
  unfold Fo.tips
  rw [Fo.ins_tops, List.map_append, List.map_cons, List.map_take, List.map_drop]
theorem ls_at {ρ : Id → Rec} : ∀ {t : Fo} {p : Option Id} {k : Id}, Fo.LS t → t.ids.Nodup → Fo.Fits ρ p t → k ∈ t.ids → (ρ k).L.Pairwise (fun a b => Fo.lt a b = true)
  | .nil, _, _, _, _, _, h => by cases h
  | .nd v l r s, p, k, h, hn, hF, hk => by
    obtain ⟨nl, nr, ns, _⟩ := Fo.nodup_nd hn
    by_cases e : v.id = k
    · rw [← e, hF.1]
      exact h.1
    · rcases Fo.mem_nd hk e with h1 | h1 | h1
      · exact ls_at h.2.1 nl hF.2.1 h1
      · exact ls_at h.2.2.1 nr hF.2.2.1 h1
      · exact ls_at h.2.2.2 ns hF.2.2.2 h1
theorem sorted_ge {S : List Id} {x : Id} (h : S.Pairwise (fun a b => Fo.lt a b = true)) (hx : x ∉ S) : ∀ i (hi : i < S.length), (S.takeWhile (fun a => Fo.lt a x)).length ≤ i → Fo.lt x S[i] = true := fun i hi hle => by
  have hm : (S.takeWhile (fun a => Fo.lt a x)).length < S.length := by omega
  have h1 := Fo.tw_eq hm rfl
  have h2 : S[(S.takeWhile (fun a => Fo.lt a x)).length] ≠ x := fun e => hx (e ▸ List.getElem_mem hm)
  have h3 := Fo.lt_total h1 h2
  rcases Nat.eq_or_lt_of_le hle with e | hlt
  · simp only [← e]
    exact h3
  · exact Fo.lt_trans h3 (List.pairwise_iff_getElem.1 h _ _ hm hi hlt)
theorem sorted_lt {S : List Id} {x : Id} : ∀ i (hi : i < S.length), i + 1 = (S.takeWhile (fun a => Fo.lt a x)).length → Fo.lt x S[i] = false := fun i hi he => Fo.lt_asymm (Fo.tw_lt (p := fun a => Fo.lt a x) hi (by omega))
theorem laid_far {ρ : Id → Rec} {rt : List Id} {x j : Id} {r : Rec} {V : Where} (h1 : j ≠ x) (h2 : ∀ p, V.par = some p → j ≠ p) : laid (fset ρ x r) rt x V j = ρ j := by
  unfold laid recR
  cases e : V.par with
  | none =>
    split
    · exact fset_ne h1
    · dsimp only
      rw [fset_ne h1, fset_ne h1]
  | some p =>
    have := h2 p e
    split <;> (dsimp only; rw [fset_ne this, fset_ne h1, fset_ne h1])
theorem laid_new {ρ : Id → Rec} {rt : List Id} {u : Un} {V : Where} (h1 : V.left = true → ∃ p, V.par = some p) (h2 : ∀ p, V.par = some p → u.id ≠ p) : laid (fset ρ u.id (newRec u)) rt u.id V u.id = ⟨u, V.par, [], [], 1⟩ := by
  unfold laid recR
  cases e : V.par with
  | none =>
    split
    · rename_i hl
      obtain ⟨p, h⟩ := h1 hl
      rw [e] at h
      cases h
    · dsimp only
      rw [fset_same, fset_same]
      rfl
  | some p =>
    have := h2 p e
    split <;> (dsimp only; rw [fset_ne this, fset_same, fset_same]; rfl)
theorem bump_out {d : Nat} {c : List Id} {ρ : Id → Rec} {j : Id} (h : j ∉ c) : bump d c ρ j = ρ j := by
  unfold bump
  rw [if_neg h]
  rfl
theorem puts_left {ρ : Id → Rec} {t : Fo} {u : Un} (hg : Fo.Good t) (hF : Fo.Fits ρ none t) (hm : Fo.Can t u) (hL : Fo.isL t u = true) : ∃ rc c V P, Puts ρ t u rc c V P := by
  have hL' := hL
  unfold Fo.isL at hL'
  simp only [Bool.and_eq_true, Bool.or_eq_true, Bool.not_eq_true', decide_eq_true_eq, decide_eq_false_iff_not] at hL'
  obtain ⟨hr, hl⟩ := hL'
  obtain ⟨A, B, v, l, r, hv, hf, hp, hsp⟩ := Fo.put_left hg.nd hL hr
  obtain ⟨⟨q, h1⟩, hFl, hFr⟩ := hsp ρ none hF
  have hxl : u.id ∉ l.ids := fun h => hm.new ((Fo.mem_split hf).1 _ h)
  have hxk : u.r ≠ u.id := fun e => hm.new (e ▸ hr)
  have hxc : u.id ∉ u.r :: Fo.upL t u.r := fun h => (List.mem_cons.1 h).elim (fun e => hxk e.symm) fun h => hm.new (Fo.upL_sub h)
  have hsz := sub_sz hf
  have hpos := Fo.pos_split hg.nd hf
  rw [hv] at hpos
  have hfl := fst_rst_len (Fo.pass (fun a => Fo.lt a.id u.id) l) l
  have htw := Fo.pass_tips (fun a => Fo.lt a u.id) l
  have hLe : (ρ u.r).L = l.tips := by rw [h1]
  have hls := ls_at hg.ls hg.nd hF hr
  rw [hLe] at hls
  have hxt : u.id ∉ l.tips := fun h => hxl (Fo.tips_ids h)
  refine ⟨Fo.upL t u.r, u.r :: Fo.upL t u.r, ⟨true, some u.r, Fo.pass (fun a => Fo.lt a.id u.id) l⟩, (A ++ (Fo.fst (Fo.pass (fun a => Fo.lt a.id u.id) l) l).flat).length, ?_⟩
  refine ⟨fun _ => ⟨chain_up hg.nd hF _ _ rfl, par_up hg.nd hF hr⟩, ?_, ⟨⟨hr, par_up hg.nd hF hr, chain_up hg.nd hF _ _ rfl⟩, rfl, List.nodup_cons.2 ⟨Fo.upL_self hg.nd, Fo.upL_nodup _ hg.nd⟩⟩, ?_, ?_, ?_, ?_, ?_⟩
  · rw [if_pos rfl]
    refine ⟨⟨hr, fun h => hl.resolve_left (fun h' => h' h), ?_, ?_, ?_⟩, rfl⟩
    · rw [hLe, htw]
      exact (List.takeWhile_prefix _).length_le
    · rw [hLe, htw]
      exact sorted_ge hls hxt
    · rw [hLe, htw]
      exact sorted_lt
  · rw [if_pos rfl, findV_pos hr, hLe]
    dsimp only
    rw [sum_drop hFl, List.length_append]
    omega
  · rw [Fo.ids_len, List.length_append]
    omega
  · refine (Fo.ids_at (B := (Fo.rst (Fo.pass (fun a => Fo.lt a.id u.id) l) l).flat ++ v :: r.flat ++ B) ?_ ?_).symm
    · rw [hf]
      conv => lhs; rw [← Fo.fst_rst (Fo.pass (fun a => Fo.lt a.id u.id) l) l]
      simp
    · rw [hp]
      simp
  · rw [if_pos rfl]
    unfold Fo.put
    rw [if_pos hL, Fo.mod_tips]
  · have hfar : ∀ j ∈ t.ids, j ≠ u.r → laid (fset ρ u.id (newRec u)) t.tips u.id ⟨true, some u.r, Fo.pass (fun a => Fo.lt a.id u.id) l⟩ j = ρ j := fun j hj hjr => laid_far (fun e => hm.new (e ▸ hj)) (fun p e => by cases e; exact hjr)
    unfold Fo.put
    rw [if_pos hL]
    refine Fo.Fits.mod (d := 1) (ρ := ρ) (fun l r => by rw [sz_ins]; show _ + r.sz = _; omega) hg.nd hr hF ?_ ?_
    · intro l' r' v' q' hv' hl' hr' fl fr
      have hst : ∀ j, (j ∈ t.ids ∧ j ≠ u.r ∧ j ∉ Fo.upL t u.r) → bump 1 (u.r :: Fo.upL t u.r) (laid (fset ρ u.id (newRec u)) t.tips u.id ⟨true, some u.r, Fo.pass (fun a => Fo.lt a.id u.id) l⟩) j = ρ j := fun j hj => by
        rw [bump_out (fun h => (List.mem_cons.1 h).elim hj.2.1 hj.2.2)]
        exact hfar j hj.1 hj.2.1
      refine ⟨?_, fits_ins fl (fun j hj => hst j (hl' j hj)) ?_, fr.congr fun j hj => hst j (hr' j hj)⟩
      · have e1 : l'.tips = l.tips := by
          have := hv'.symm.trans h1
          injection this
        rw [ins_tips, Fo.pass_tips (fun a => Fo.lt a u.id) l', e1, ← htw]
        unfold bump laid
        rw [if_pos rfl, if_pos (List.mem_cons_self ..)]
        dsimp only
        rw [fset_same, fset_ne hxk, hv', e1]
        rfl
      · rw [bump_out hxc]
        exact laid_new (fun _ => ⟨_, rfl⟩) (fun p e => by cases e; exact Ne.symm hxk)
    · intro j hj hjr
      unfold bump
      rw [hfar j hj hjr]
      have : (j ∈ u.r :: Fo.upL t u.r) ↔ j ∈ Fo.upL t u.r := by rw [List.mem_cons]; exact ⟨fun h => h.resolve_left hjr, .inr⟩
      simp only [this]
theorem tops_of {ρ : Id → Rec} : ∀ {t : Fo} {p : Option Id}, Fo.Fits ρ p t → t.tops = t.tips.map (fun j => (ρ j).u)
  | .nil, _, _ => rfl
  | .nd v l r s, p, h => by
    show v :: s.tops = (ρ v.id).u :: s.tips.map (fun j => (ρ j).u)
    rw [h.1, ← tops_of h.2.2.2]
theorem row_k {ρ : Id → Rec} {t r : Fo} {u : Un} (hg : Fo.Good t) (hF : Fo.Fits ρ none t) (hm : Fo.Can t u) (hs : ∀ v ∈ r.flat, v ∈ t.flat) : Fo.pass (fun a => Fo.ahead t a u) r ≤ r.tips.length ∧
    (∀ i (hi : i < r.tips.length), i < Fo.pass (fun a => Fo.ahead t a u) r → aheadV t.ids t.ids (ρ r.tips[i]).u u = true) ∧ (∀ i (hi : i < r.tips.length), i = Fo.pass (fun a => Fo.ahead t a u) r → aheadV t.ids t.ids (ρ r.tips[i]).u u = false) := by
  have hlen : r.tips.length = r.tops.length := by unfold Fo.tips; rw [List.length_map]
  have key : ∀ i (hi : i < r.tips.length), aheadV t.ids t.ids (ρ r.tips[i]).u u = Fo.ahead t (r.tops[i]'(hlen ▸ hi)) u := fun i hi => by
    have hv := hs _ (tops_flat (List.getElem_mem (hlen ▸ hi)))
    rw [tips_get hi, hF.rec_u _ hv, aheadV_eq (hg.org _ hv).2 hm.r]
  refine ⟨by rw [hlen]; exact Fo.pass_le _ _, fun i hi hk => ?_, fun i hi hk => ?_⟩
  · rw [key i hi]
    exact Fo.tw_lt (p := fun a => Fo.ahead t a u) _ hk
  · rw [key i hi]
    exact Fo.tw_eq (p := fun a => Fo.ahead t a u) _ hk
theorem puts_right_l {ρ : Id → Rec} {t : Fo} {u : Un} (hg : Fo.Good t) (hF : Fo.Fits ρ none t) (hm : Fo.Can t u) (hL : Fo.isL t u = false) (hl : u.l ∈ t.ids) : ∃ k P, Puts ρ t u (Fo.upL t u.r) (u.l :: Fo.upL t u.l) ⟨false, some u.l, k⟩ P := by
  have hLr : u.r ∈ t.ids → u.l ∈ t.ids ∧ u.l ∉ Fo.upL t u.r := fun hr => by
    unfold Fo.isL at hL
    simp only [hr, decide_true, Bool.true_and, Bool.or_eq_false_iff, Bool.not_eq_false', decide_eq_true_eq, decide_eq_false_iff_not] at hL
    exact hL
  obtain ⟨A, B, v, l, r, hv, hf, hp, hsp⟩ := Fo.put_right hg.nd hL hl
  obtain ⟨⟨q, h1⟩, hFl, hFr⟩ := hsp ρ none hF
  have hxk : u.l ≠ u.id := fun e => hm.new (e ▸ hl)
  have hxc : u.id ∉ u.l :: Fo.upL t u.l := fun h => (List.mem_cons.1 h).elim (fun e => hxk e.symm) fun h => hm.new (Fo.upL_sub h)
  have hsz := sub_sz hf
  have hpos := Fo.pos_split hg.nd hf
  rw [hv] at hpos
  have hfl := fst_rst_len (Fo.pass (fun a => Fo.ahead t a u) r) r
  have hRe : rowOf ρ t.tips (some u.l) = r.tips := by show (ρ u.l).R = _; rw [h1]
  have hrow := row_k hg hF hm (r := r) (fun w hw => by
    rw [hf]
    simp only [List.mem_append, List.mem_cons]
    exact .inl (.inr (.inr hw)))
  have hpar : parOf t.ids u = some u.l := if_pos hl
  refine ⟨Fo.pass (fun a => Fo.ahead t a u) r, (A ++ l.flat ++ v :: (Fo.fst (Fo.pass (fun a => Fo.ahead t a u) r) r).flat).length, ?_⟩
  have hlen : (A ++ l.flat ++ v :: (Fo.fst (Fo.pass (fun a => Fo.ahead t a u) r) r).flat).length = A.length + l.sz + 1 + (Fo.fst (Fo.pass (fun a => Fo.ahead t a u) r) r).flat.length := by
    unfold Fo.sz
    simp only [List.length_append, List.length_cons]
    omega
  refine ⟨fun hr => ⟨chain_up hg.nd hF _ _ rfl, par_up hg.nd hF hr⟩, ?_, ⟨⟨hl, par_up hg.nd hF hl, chain_up hg.nd hF _ _ rfl⟩, rfl, List.nodup_cons.2 ⟨Fo.upL_self hg.nd, Fo.upL_nodup _ hg.nd⟩⟩, ?_, ?_, ?_, ?_, ?_⟩
  · rw [if_neg (by simp)]
    refine ⟨⟨hLr, ?_, ?_, ?_⟩, hpar.symm⟩
    · rw [hpar, hRe]
      exact hrow.1
    · rw [hpar, hRe]
      exact hrow.2.1
    · rw [hpar, hRe]
      exact hrow.2.2
  · rw [if_neg (by simp), hRe, hlen]
    dsimp only [place0]
    rw [findV_pos hl, sum_take hFr]
    omega
  · rw [Fo.ids_len, hlen]
    omega
  · refine (Fo.ids_at (B := (Fo.rst (Fo.pass (fun a => Fo.ahead t a u) r) r).flat ++ B) ?_ ?_).symm
    · rw [hf]
      conv => lhs; rw [← Fo.fst_rst (Fo.pass (fun a => Fo.ahead t a u) r) r]
      simp
    · rw [hp]
      simp
  · rw [if_neg (by simp)]
    unfold Fo.put
    rw [hL, if_neg (by simp), if_pos hl, Fo.mod_tips]
    rfl
  · have hfar : ∀ j ∈ t.ids, j ≠ u.l → laid (fset ρ u.id (newRec u)) t.tips u.id ⟨false, some u.l, Fo.pass (fun a => Fo.ahead t a u) r⟩ j = ρ j := fun j hj hjr => laid_far (fun e => hm.new (e ▸ hj)) (fun p e => by cases e; exact hjr)
    unfold Fo.put
    rw [hL, if_neg (by simp), if_pos hl]
    refine Fo.Fits.mod (d := 1) (ρ := ρ) (fun l r => by rw [sz_ins]; show l.sz + _ = _; omega) hg.nd hl hF ?_ ?_
    · intro l' r' v' q' hv' hl' hr' fl fr
      have hst : ∀ j, (j ∈ t.ids ∧ j ≠ u.l ∧ j ∉ Fo.upL t u.l) → bump 1 (u.l :: Fo.upL t u.l) (laid (fset ρ u.id (newRec u)) t.tips u.id ⟨false, some u.l, Fo.pass (fun a => Fo.ahead t a u) r⟩) j = ρ j := fun j hj => by
        rw [bump_out (fun h => (List.mem_cons.1 h).elim hj.2.1 hj.2.2)]
        exact hfar j hj.1 hj.2.1
      refine ⟨?_, fl.congr fun j hj => hst j (hl' j hj), fits_ins fr (fun j hj => hst j (hr' j hj)) ?_⟩
      · have e1 : r'.tips = r.tips := by
          have := hv'.symm.trans h1
          injection this
        have e2 : r'.tops = r.tops := by rw [tops_of fr, tops_of hFr, e1]
        have e3 : Fo.pass (fun a => Fo.ahead t a u) r' = Fo.pass (fun a => Fo.ahead t a u) r := by unfold Fo.pass; rw [e2]
        rw [ins_tips, e3, e1]
        unfold bump laid recR
        rw [if_neg (by simp), if_pos (List.mem_cons_self ..)]
        dsimp only [rowOf]
        rw [fset_same, fset_ne hxk, fset_ne hxk, hv', e1]
        rfl
      · rw [bump_out hxc]
        exact laid_new (fun h => by cases h) (fun p e => by cases e; exact Ne.symm hxk)
    · intro j hj hjr
      unfold bump
      rw [hfar j hj hjr]
      have : (j ∈ u.l :: Fo.upL t u.l) ↔ j ∈ Fo.upL t u.l := by rw [List.mem_cons]; exact ⟨fun h => h.resolve_left hjr, .inr⟩
      simp only [this]
theorem puts_right {ρ : Id → Rec} {t : Fo} {u : Un} (hg : Fo.Good t) (hF : Fo.Fits ρ none t) (hm : Fo.Can t u) (hL : Fo.isL t u = false) : ∃ rc c V P, Puts ρ t u rc c V P := by
  have hLr : u.r ∈ t.ids → u.l ∈ t.ids ∧ u.l ∉ Fo.upL t u.r := fun hr => by
    unfold Fo.isL at hL
    simp only [hr, decide_true, Bool.true_and, Bool.or_eq_false_iff, Bool.not_eq_false', decide_eq_true_eq, decide_eq_false_iff_not] at hL
    exact hL
  by_cases hl : u.l ∈ t.ids
  · obtain ⟨k, P, h⟩ := puts_right_l hg hF hm hL hl
    exact ⟨_, _, _, _, h⟩
  · have hp := Fo.put_root hL hl
    have hrow := row_k hg hF hm (r := t) (fun w hw => hw)
    have hpar : parOf t.ids u = none := if_neg hl
    have hfl := fst_rst_len (Fo.pass (fun a => Fo.ahead t a u) t) t
    refine ⟨Fo.upL t u.r, [], ⟨false, none, Fo.pass (fun a => Fo.ahead t a u) t⟩, (Fo.fst (Fo.pass (fun a => Fo.ahead t a u) t) t).flat.length, ?_⟩
    refine ⟨fun hr => ⟨chain_up hg.nd hF _ _ rfl, par_up hg.nd hF hr⟩, ?_, ⟨trivial, rfl, List.nodup_nil⟩, ?_, ?_, ?_, ?_, ?_⟩
    · rw [if_neg (by simp)]
      refine ⟨⟨hLr, ?_, ?_, ?_⟩, hpar.symm⟩
      · rw [hpar]
        exact hrow.1
      · rw [hpar]
        exact hrow.2.1
      · rw [hpar]
        exact hrow.2.2
    · rw [if_neg (by simp)]
      dsimp only [place0, rowOf]
      rw [sum_take hF]
      omega
    · rw [Fo.ids_len]
      omega
    · exact (Fo.ids_at (Fo.fst_rst _ t).symm hp).symm
    · rw [if_neg (by simp)]
      unfold Fo.put
      rw [hL, if_neg (by simp), if_neg hl, ins_tips]
      rfl
    · unfold Fo.put
      rw [hL, if_neg (by simp), if_neg hl, bump_nil]
      exact fits_ins hF (fun j hj => laid_far (fun e => hm.new (e ▸ hj)) (fun p e => by cases e)) (laid_new (fun h => by cases h) (fun p e => by cases e))
theorem puts {ρ : Id → Rec} {t : Fo} {u : Un} (hg : Fo.Good t) (hF : Fo.Fits ρ none t) (hm : Fo.Can t u) : ∃ rc c V P, Puts ρ t u rc c V P := by
  cases hL : Fo.isL t u with
  | true => exact puts_left hg hF hm hL
  | false => exact puts_right hg hF hm hL
/-! ### A sequence in memory -/
/-- At p lies the sequence of this tree; these blocks are its own. -/
def SqAt (w : World) (p : Nat) (F : Nat → Prop) (t : Fo) : Prop := ∃ E ρ, E.p = p ∧ (∀ g, F g ↔ E.tg g ≠ .other) ∧ (∀ g, w.heap.size ≤ g → E.tg g = .other) ∧ Core w E t.ids t.tips t.ids t.ids ρ ∧ Fo.Fits ρ none t ∧ Fo.Good t
/-- Only its own blocks have turned; there may be new ones. -/
structure Turn (F F' : Nat → Prop) (w w' : World) : Prop where
  os : w'.os = w.os
  tape : w'.tape = w.tape
  output : w'.output = w.output
  size : w.heap.size ≤ w'.heap.size
  own : ∀ g, g < w.heap.size → (F' g ↔ F g)
  block : ∀ g, g < w.heap.size → ¬ F g → w'.heap[g]? = w.heap[g]?
theorem Core.congr {E : Env} {w : World} {ord rt N D N' D' : List Id} {ρ : Id → Rec} (h : Core w E ord rt N D ρ) (hN : ∀ j, j ∈ N' → j ∈ N) (hD : ∀ j, j ∈ D' ↔ j ∈ D) : Core w E ord rt N' D' ρ := by
  obtain ⟨es, h1, h2⟩ := h.all
  exact ⟨h.tp, h.tma, h.tmt, h.seq, ⟨es, h1, fun k => by rw [h2]; simp only [hD]⟩, fun j hj => h.nodes j (hN j hj)⟩
theorem SqAt.good {w : World} {p : Nat} {F : Nat → Prop} {t : Fo} (h : SqAt w p F t) : Fo.Good t := by
  obtain ⟨E, ρ, _, _, _, _, _, hg⟩ := h
  exact hg
theorem SqAt.lt {w : World} {p : Nat} {F : Nat → Prop} {t : Fo} (h : SqAt w p F t) {g : Nat} (hg : F g) : g < w.heap.size := by
  obtain ⟨E, ρ, _, hF, hf, _⟩ := h
  rcases Nat.lt_or_ge g w.heap.size with h1 | h1
  · exact h1
  · exact absurd (hf g h1) ((hF g).1 hg)
theorem SqAt.own {w : World} {p : Nat} {F : Nat → Prop} {t : Fo} (h : SqAt w p F t) : F p := by
  obtain ⟨E, ρ, rfl, hF, _, hc, _⟩ := h
  exact (hF _).2 (by rw [hc.tp]; simp)
/-- What happens elsewhere leaves it. -/
theorem SqAt.kept {w w' : World} {p : Nat} {F : Nat → Prop} {t : Fo} (h : SqAt w p F t) (hos : w'.os = w.os) (htape : w'.tape = w.tape) (hout : w'.output = w.output) (hs : w.heap.size ≤ w'.heap.size) (hb : ∀ g, F g → w'.heap[g]? = w.heap[g]?) : SqAt w' p F t := by
  obtain ⟨E, ρ, h1, hF, hf, hc, h2, h3⟩ := h
  refine ⟨E, ρ, h1, hF, fun g hg => hf g (Nat.le_trans hs hg), ?_, h2, h3⟩
  exact hc.kept (S := fun t => t = .other) ⟨hos, htape, hout, hs, fun g _ h => hb g ((hF g).2 h)⟩ (fun t ht => ht)
theorem SqAt.below {w w' : World} {p : Nat} {F : Nat → Prop} {t : Fo} (h : SqAt w p F t) (hb : Below w.heap.size w w') : SqAt w' p F t := h.kept hb.os hb.tape hb.output hb.size fun g hg => hb.block g (h.lt hg)
theorem Turn.refl (F : Nat → Prop) (w : World) : Turn F F w w := ⟨rfl, rfl, rfl, Nat.le_refl _, fun _ _ => Iff.rfl, fun _ _ _ => rfl⟩
theorem Turn.trans {F F' F'' : Nat → Prop} {x y z : World} (h : Turn F F' x y) (k : Turn F' F'' y z) : Turn F F'' x z :=
  ⟨k.os.trans h.os, k.tape.trans h.tape, k.output.trans h.output, Nat.le_trans h.size k.size, fun g hg => (k.own g (Nat.lt_of_lt_of_le hg h.size)).trans (h.own g hg), fun g hg hn => (k.block g (Nat.lt_of_lt_of_le hg h.size) (fun hf => hn ((h.own g hg).1 hf))).trans (h.block g hg hn)⟩
theorem Turn.of {F : Nat → Prop} {w w' : World} (h : Below w.heap.size w w') : Turn F F w w' := ⟨h.os, h.tape, h.output, h.size, fun _ _ => Iff.rfl, fun g hg _ => h.block g hg⟩
theorem Turn.kept {E : Env} {F : Nat → Prop} {S : Tag → Prop} {w w' : World} (hF : ∀ g, F g ↔ E.tg g ≠ .other) (h : Kept E S w w') (hs : ∀ t, S t → t ≠ .other) : Turn F F w w' :=
  ⟨h.os, h.tape, h.output, h.size, fun _ _ => Iff.rfl, fun g hg hn => h.block g hg fun hS => hn ((hF g).2 (hs _ hS))⟩
/-- Another sequence, that has nothing of it, stays. -/
theorem SqAt.other {w w' : World} {p : Nat} {F G G' : Nat → Prop} {t : Fo} (h : SqAt w p F t) (hT : Turn G G' w w') (hd : ∀ g, F g → ¬ G g) : SqAt w' p F t :=
  h.kept hT.os hT.tape hT.output hT.size fun g hg => hT.block g (h.lt hg) (hd g hg)
theorem Turn.apart {F G G' : Nat → Prop} {w w' : World} (hT : Turn G G' w w') (hF : ∀ g, F g → g < w.heap.size) (hd : ∀ g, F g → ¬ G g) : ∀ g, F g → ¬ G' g := fun g hg h => hd g hg ((hT.own g (hF g hg)).1 h)
end Sq
end Go.Proofs.Ytmammcgdjjldbaa
