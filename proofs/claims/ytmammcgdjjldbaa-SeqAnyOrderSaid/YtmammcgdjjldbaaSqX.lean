/- Plain: putting a unit in: where it stands, what stays true. -/
import Derived.Test.YtmammcgdjjldbaaSqP
namespace Go.Proofs.Ytmammcgdjjldbaa
set_option maxRecDepth 100000
namespace Sq
namespace Fo
theorem lt_iff {a b : Id} : lt a b = true ↔ a.1 < b.1 ∨ (a.1 = b.1 ∧ a.2 < b.2) := by unfold lt; simp
theorem lt_no {a b : Id} : lt a b = false ↔ ¬ (a.1 < b.1 ∨ (a.1 = b.1 ∧ a.2 < b.2)) := by rw [← lt_iff]; simp
theorem lt_trans {a b c : Id} (h : lt a b = true) (k : lt b c = true) : lt a c = true := by rw [lt_iff] at *; omega
theorem lt_asymm {a b : Id} (h : lt a b = true) : lt b a = false := by rw [lt_no]; rw [lt_iff] at h; omega
theorem lt_total {a b : Id} (h : lt a b = false) (hne : a ≠ b) : lt b a = true := by
  rw [lt_no] at h
  rw [lt_iff]
  by_cases e : a.1 = b.1
  · by_cases e2 : a.2 = b.2
    · exact absurd (Prod.ext e e2) hne
    · omega
  · omega
theorem tw_lt {α : Type} {p : α → Bool} : ∀ {l : List α} {i : Nat} (hi : i < l.length), i < (l.takeWhile p).length → p l[i] = true
  | a :: l, 0, _, h => by
    rw [List.takeWhile_cons] at h
    split at h
    · assumption
    · simp at h
  | a :: l, i + 1, hi, h => by
    rw [List.takeWhile_cons] at h
    split at h
    · exact tw_lt (l := l) (Nat.lt_of_succ_lt_succ hi) (Nat.lt_of_succ_lt_succ h)
    · simp at h
theorem tw_eq {α : Type} {p : α → Bool} : ∀ {l : List α} {i : Nat} (hi : i < l.length), i = (l.takeWhile p).length → p l[i] = false
  | a :: l, 0, _, h => by
    rw [List.takeWhile_cons] at h
    split at h
    · simp at h
    · rename_i hn
      simpa using hn
  | a :: l, i + 1, hi, h => by
    rw [List.takeWhile_cons] at h
    split at h
    · exact tw_eq (l := l) (Nat.lt_of_succ_lt_succ hi) (Nat.succ.inj h)
    · simp at h
theorem pass_tips (q : Id → Bool) (t : Fo) : pass (fun a => q a.id) t = (t.tips.takeWhile q).length := by
  unfold pass tips
  rw [List.takeWhile_map, List.length_map]
  rfl
/-! ### Where it stands -/
theorem pos_split {t : Fo} {A B : List Un} {u : Un} {l r : Fo} (hn : t.ids.Nodup) (hf : t.flat = A ++ l.flat ++ u :: r.flat ++ B) : pos t u.id = A.length + sz l := by
  unfold pos
  have e : t.ids = (A ++ l.flat).map (·.id) ++ u.id :: (r.flat ++ B).map (·.id) := by unfold ids; rw [hf]; simp
  rw [e] at hn ⊢
  rw [List.nodup_append] at hn
  rw [List.idxOf_append, if_neg (fun hm => hn.2.2 _ hm _ (List.mem_cons_self ..) rfl), List.idxOf_cons_self, List.length_map, List.length_append]
  exact Nat.zero_add _
theorem mem_split {t : Fo} {A B : List Un} {u : Un} {l r : Fo} (hf : t.flat = A ++ l.flat ++ u :: r.flat ++ B) : (∀ j ∈ l.ids, j ∈ t.ids) ∧ (∀ j ∈ r.ids, j ∈ t.ids) := by
  unfold ids
  rw [hf]
  refine ⟨fun j hj => ?_, fun j hj => ?_⟩
  · simp only [List.map_append, List.mem_append]
    exact .inl (.inl (.inr hj))
  · simp only [List.map_append, List.mem_append, List.map_cons, List.mem_cons]
    exact .inl (.inr (.inr hj))
theorem rst_sz : ∀ (n : Nat) (t : Fo), ((rst n t).flat).length = (t.szs.drop n).sum
  | 0, t => (szs_sum t).symm
  | _ + 1, nil => rfl
  | n + 1, nd _ _ _ s => rst_sz n s
theorem ids_len (t : Fo) : t.ids.length = t.sz := by unfold ids; rw [List.length_map]; rfl
theorem put_left {t : Fo} {u : Un} (hn : t.ids.Nodup) (hL : isL t u = true) (hr : u.r ∈ t.ids) : ∃ A B v l r, v.id = u.r ∧ t.flat = A ++ l.flat ++ v :: r.flat ++ B ∧ (put t u).flat = A ++ ((fst (pass (fun a => lt a.id u.id) l) l).flat ++ u :: (rst (pass (fun a => lt a.id u.id) l) l).flat) ++ v :: r.flat ++ B ∧
    ∀ (ρ : Id → Rec) (p : Option Id), Fits ρ p t → (∃ q, ρ u.r = ⟨v, q, l.tips, r.tips, sz l + 1 + sz r⟩) ∧ Fits ρ (some u.r) l ∧ Fits ρ (some u.r) r := by
  obtain ⟨A, B, v, l, r, hv, hf, hM, hF⟩ := split hn hr
  refine ⟨A, B, v, l, r, hv, hf, ?_, hF⟩
  unfold put
  rw [if_pos hL, hM, ins_flat]
  rfl
theorem put_right {t : Fo} {u : Un} (hn : t.ids.Nodup) (hL : isL t u = false) (hl : u.l ∈ t.ids) : ∃ A B v l r, v.id = u.l ∧ t.flat = A ++ l.flat ++ v :: r.flat ++ B ∧ (put t u).flat = A ++ l.flat ++ v :: ((fst (pass (fun a => ahead t a u) r) r).flat ++ u :: (rst (pass (fun a => ahead t a u) r) r).flat) ++ B ∧
    ∀ (ρ : Id → Rec) (p : Option Id), Fits ρ p t → (∃ q, ρ u.l = ⟨v, q, l.tips, r.tips, sz l + 1 + sz r⟩) ∧ Fits ρ (some u.l) l ∧ Fits ρ (some u.l) r := by
  obtain ⟨A, B, v, l, r, hv, hf, hM, hF⟩ := split hn hl
  refine ⟨A, B, v, l, r, hv, hf, ?_, hF⟩
  unfold put
  rw [if_neg (by rw [hL]; simp), if_pos hl, hM, ins_flat]
  rfl
theorem put_root {t : Fo} {u : Un} (hL : isL t u = false) (hl : u.l ∉ t.ids) : (put t u).flat = (fst (pass (fun a => ahead t a u) t) t).flat ++ u :: (rst (pass (fun a => ahead t a u) t) t).flat := by
  unfold put
  rw [if_neg (by rw [hL]; simp), if_neg hl, ins_flat]
/-- All others stay, the new one comes in between. -/
theorem put_in {t : Fo} {u : Un} (hn : t.ids.Nodup) : ∃ A B, t.flat = A ++ B ∧ (put t u).flat = A ++ u :: B := by
  cases hL : isL t u with
  | true =>
    have hr : u.r ∈ t.ids := by
      unfold isL at hL
      simp only [Bool.and_eq_true, decide_eq_true_eq] at hL
      exact hL.1
    obtain ⟨A, B, v, l, r, _, hf, hp, _⟩ := put_left hn hL hr
    refine ⟨A ++ (fst (pass (fun a => lt a.id u.id) l) l).flat, (rst (pass (fun a => lt a.id u.id) l) l).flat ++ v :: r.flat ++ B, ?_, ?_⟩
    · rw [hf]
      conv => lhs; rw [← fst_rst (pass (fun a => lt a.id u.id) l) l]
      simp
    · rw [hp]
      simp
  | false =>
    by_cases hl : u.l ∈ t.ids
    · obtain ⟨A, B, v, l, r, _, hf, hp, _⟩ := put_right hn hL hl
      refine ⟨A ++ l.flat ++ v :: (fst (pass (fun a => ahead t a u) r) r).flat, (rst (pass (fun a => ahead t a u) r) r).flat ++ B, ?_, ?_⟩
      · rw [hf]
        conv => lhs; rw [← fst_rst (pass (fun a => ahead t a u) r) r]
        simp
      · rw [hp]
        simp
    · exact ⟨_, _, (fst_rst _ t).symm, put_root hL hl⟩
theorem put_mem {t : Fo} {u : Un} (hn : t.ids.Nodup) (x : Un) : x ∈ (put t u).flat ↔ x = u ∨ x ∈ t.flat := by
  obtain ⟨A, B, h1, h2⟩ := put_in (u := u) hn
  rw [h1, h2]
  simp only [List.mem_append, List.mem_cons]
  constructor
  · rintro (h | h | h)
    · exact .inr (.inl h)
    · exact .inl h
    · exact .inr (.inr h)
  · rintro (h | h | h)
    · exact .inr (.inl h)
    · exact .inl h
    · exact .inr (.inr h)
theorem put_ids {t : Fo} {u : Un} (hn : t.ids.Nodup) (k : Id) : k ∈ (put t u).ids ↔ k = u.id ∨ k ∈ t.ids := by
  unfold ids
  simp only [List.mem_map, put_mem hn]
  constructor
  · rintro ⟨x, rfl | hx, rfl⟩
    · exact .inl rfl
    · exact .inr ⟨x, hx, rfl⟩
  · rintro (rfl | ⟨x, hx, rfl⟩)
    · exact ⟨u, .inl rfl, rfl⟩
    · exact ⟨x, .inr hx, rfl⟩
theorem put_nodup {t : Fo} {u : Un} (hn : t.ids.Nodup) (hu : u.id ∉ t.ids) : (put t u).ids.Nodup := by
  obtain ⟨A, B, h1, h2⟩ := put_in (u := u) hn
  unfold ids at hn hu ⊢
  rw [h1] at hn hu
  rw [h2]
  rw [List.map_append] at hn hu
  rw [List.map_append, List.map_cons]
  exact (List.perm_middle.nodup_iff).2 (List.nodup_cons.2 ⟨hu, hn⟩)
/-! ### Sorted left children -/
theorem ls_ins {p : Un → Bool} {u : Un} : ∀ {t : Fo}, LS t → LS (insBy p u t)
  | nil, _ => ⟨List.Pairwise.nil, trivial, trivial, trivial⟩
  | nd v l r s, h => by
    unfold insBy
    split
    · exact ⟨h.1, h.2.1, h.2.2.1, ls_ins h.2.2.2⟩
    · exact ⟨List.Pairwise.nil, trivial, trivial, h⟩
theorem tips_ins {p : Un → Bool} {u : Un} {t : Fo} {k : Id} (h : k ∈ (insBy p u t).tips) : k = u.id ∨ k ∈ t.tips := by
  unfold tips at h ⊢
  rw [ins_tops, List.map_append, List.map_cons] at h
  simp only [List.mem_append, List.mem_cons] at h
  rcases h with h | h | h
  · exact .inr (by obtain ⟨x, hx, rfl⟩ := List.mem_map.1 h; exact List.mem_map.2 ⟨x, List.mem_of_mem_take hx, rfl⟩)
  · exact .inl h
  · exact .inr (by obtain ⟨x, hx, rfl⟩ := List.mem_map.1 h; exact List.mem_map.2 ⟨x, List.mem_of_mem_drop hx, rfl⟩)
theorem tips_ids : ∀ {t : Fo} {k : Id}, k ∈ t.tips → k ∈ t.ids
  | nil, _, h => by cases h
  | nd u l r s, k, h => by
    rw [ids_nd]
    have h' : k = u.id ∨ k ∈ s.tips := List.mem_cons.1 h
    simp only [List.mem_append, List.mem_cons]
    rcases h' with h | h
    · exact .inl (.inr (.inl h))
    · exact .inr (tips_ids h)
theorem sorted_ins {u : Un} : ∀ {t : Fo}, t.tips.Pairwise (fun a b => lt a b = true) → u.id ∉ t.tips → (insBy (fun a => lt a.id u.id) u t).tips.Pairwise (fun a b => lt a b = true)
  | nil, _, _ => List.pairwise_singleton ..
  | nd v l r s, h, hu => by
    have h' : (v.id :: s.tips).Pairwise (fun a b => lt a b = true) := h
    have hu' : u.id ∉ v.id :: s.tips := hu
    rw [List.pairwise_cons] at h'
    rw [List.mem_cons, not_or] at hu'
    unfold insBy
    cases e : lt v.id u.id with
    | true =>
      rw [if_pos rfl]
      show (v.id :: (insBy (fun a => lt a.id u.id) u s).tips).Pairwise _
      refine List.pairwise_cons.2 ⟨fun b hb => ?_, sorted_ins h'.2 hu'.2⟩
      rcases tips_ins hb with rfl | hb
      · exact e
      · exact h'.1 b hb
    | false =>
      rw [if_neg (by simp)]
      show (u.id :: v.id :: s.tips).Pairwise _
      have hlt := lt_total e (Ne.symm hu'.1)
      refine List.pairwise_cons.2 ⟨fun b hb => ?_, h⟩
      rcases List.mem_cons.1 hb with rfl | hb
      · exact hlt
      · exact lt_trans hlt (h'.1 b hb)
theorem ls_mod {k x : Id} {f g : Fo → Fo} (hf : ∀ l, LS l → l.tips.Pairwise (fun a b => lt a b = true) → x ∉ l.ids → LS (f l) ∧ (f l).tips.Pairwise (fun a b => lt a b = true)) (hg : ∀ r, LS r → LS (g r)) : ∀ {t : Fo}, LS t → x ∉ t.ids → LS (mod k f g t)
  | nil, h, _ => h
  | nd v l r s, h, hx => by
    rw [ids_nd] at hx
    simp only [List.mem_append, List.mem_cons, not_or] at hx
    unfold mod
    split
    · obtain ⟨h1, h2⟩ := hf l h.2.1 h.1 hx.1.1
      exact ⟨h2, h1, hg r h.2.2.1, h.2.2.2⟩
    · exact ⟨by rw [mod_tips]; exact h.1, ls_mod hf hg h.2.1 hx.1.1, ls_mod hf hg h.2.2.1 hx.1.2.2, ls_mod hf hg h.2.2.2 hx.2⟩
theorem ls_put {t : Fo} {u : Un} (h : LS t) (hu : u.id ∉ t.ids) : LS (put t u) := by
  unfold put
  split
  · exact ls_mod (x := u.id) (fun l h1 h2 h3 => ⟨ls_ins h1, sorted_ins h2 fun hm => h3 (tips_ids hm)⟩) (fun r h => h) h hu
  · split
    · exact ls_mod (x := u.id) (fun l h1 h2 _ => ⟨h1, h2⟩) (fun r h => ls_ins h) h hu
    · exact ls_ins h
/-- What is true of every sequence's tree. -/
structure Good (t : Fo) : Prop where
  nd : t.ids.Nodup
  ls : LS t
  right : ∀ k ∈ t.ids, rightId k = true
  org : ∀ u ∈ t.flat, (u.l = none' ∨ u.l ∈ t.ids) ∧ (u.r = none' ∨ u.r ∈ t.ids)
theorem Good.nil : Good nil := ⟨List.nodup_nil, trivial, (fun _ h => by cases h), (fun _ h => by cases h)⟩
theorem right_none : rightId none' = false := rfl
theorem Good.none {t : Fo} (h : Good t) : none' ∉ t.ids := fun hm => by have := h.right _ hm; rw [right_none] at this; cases this
/-- What may tells, but for the origins' places. -/
structure Can (t : Fo) (u : Un) : Prop where
  right : rightId u.id = true
  new : u.id ∉ t.ids
  l : u.l = none' ∨ u.l ∈ t.ids
  r : u.r = none' ∨ u.r ∈ t.ids
/-- What may tells. -/
structure May (t : Fo) (u : Un) : Prop extends Can t u where
  lr : u.l = none' ∨ u.r = none' ∨ t.pos u.l < t.pos u.r
theorem may_iff {t : Fo} {u : Un} : may t u = true ↔ May t u := by
  unfold may
  simp only [Bool.and_eq_true, Bool.or_eq_true, decide_eq_true_eq, Bool.not_eq_true', decide_eq_false_iff_not, or_assoc]
  exact ⟨fun h => ⟨⟨h.1.1.1.1, h.1.1.1.2, h.1.1.2, h.1.2⟩, h.2⟩, fun h => ⟨⟨⟨⟨h.right, h.new⟩, h.l⟩, h.r⟩, h.lr⟩⟩
theorem Good.put {t : Fo} {u : Un} (h : Good t) (hm : Can t u) : Good (put t u) :=
  ⟨put_nodup h.nd hm.new, ls_put h.ls hm.new, fun k hk => by
    rcases (put_ids h.nd k).1 hk with rfl | hk
    · exact hm.right
    · exact h.right k hk, fun x hx => by
    have up : ∀ {k : Id}, k = none' ∨ k ∈ t.ids → k = none' ∨ k ∈ (Fo.put t u).ids := fun h' => h'.imp id fun h' => (put_ids h.nd _).2 (.inr h')
    rcases (put_mem h.nd x).1 hx with rfl | hx
    · exact ⟨up hm.l, up hm.r⟩
    · exact ⟨up (h.org x hx).1, up (h.org x hx).2⟩⟩
theorem ids_at {t s : Fo} {u : Un} {A B : List Un} (h1 : t.flat = A ++ B) (h2 : s.flat = A ++ u :: B) : s.ids = t.ids.take A.length ++ u.id :: t.ids.drop A.length := by
  unfold ids
  rw [h1, h2, List.map_append, List.map_append, List.map_cons, List.take_left' (by simp), List.drop_left' (by simp)]
end Fo
end Sq
end Go.Proofs.Ytmammcgdjjldbaa
