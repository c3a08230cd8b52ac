/- Plain: two units that may be put in, in either order: the same tree. -/
import Derived.Test.YtmammcgdjjldbaaSqRunsP
namespace Go.Proofs.Ytmammcgdjjldbaa
set_option maxRecDepth 100000
namespace Sq
namespace Fo
theorem pos_put {t : Fo} {v : Un} (hn : t.ids.Nodup) (hv : v.id ∉ t.ids) : ∃ a, a ≤ t.sz ∧ ∀ k ∈ t.ids, pos (put t v) k = if pos t k < a then pos t k else pos t k + 1 := by
  obtain ⟨A, B, h1, h2⟩ := put_in (u := v) hn
  have h3 := ids_at h1 h2
  refine ⟨A.length, by unfold sz; rw [h1, List.length_append]; omega, fun k hk => ?_⟩
  have hA : t.ids = A.map (·.id) ++ B.map (·.id) := by unfold ids; rw [h1, List.map_append]
  have hS : (put t v).ids = A.map (·.id) ++ v.id :: B.map (·.id) := by unfold ids; rw [h2, List.map_append, List.map_cons]
  have hne : v.id ≠ k := fun e => hv (e ▸ hk)
  have hcons : (v.id :: B.map (·.id)).idxOf k = (B.map (·.id)).idxOf k + 1 := by
    rw [List.idxOf_cons, beq_eq_false_iff_ne.2 hne]
    rfl
  unfold pos
  rw [hS, hA, List.idxOf_append, List.idxOf_append]
  by_cases hm : k ∈ A.map (·.id)
  · rw [if_pos hm, if_pos hm, if_pos]
    have := List.idxOf_lt_length_of_mem hm
    rwa [List.length_map] at this
  · rw [if_neg hm, if_neg hm, hcons, List.length_map, if_neg (by omega)]
    omega
/-- What an origin may be. -/
def At (t : Fo) (k : Id) : Prop := k = none' ∨ k ∈ t.ids
theorem far_put {t : Fo} {v : Un} (hn : t.ids.Nodup) (hv : v.id ∉ t.ids) : ∃ a, a ≤ t.sz ∧ ∀ x : Un, At t x.r → far (put t v) x = if far t x < a then far t x else far t x + 1 := by
  obtain ⟨a, ha, h⟩ := pos_put hn hv
  refine ⟨a, ha, fun x hx => ?_⟩
  unfold far
  by_cases e : x.r = none'
  · rw [if_pos e, if_pos e, put_sz hn, if_neg (by omega)]
  · rw [if_neg e, if_neg e]
    exact h _ (hx.resolve_left e)
theorem ahead_put {t : Fo} {v x y : Un} (hn : t.ids.Nodup) (hv : v.id ∉ t.ids) (hx : At t x.r) (hy : At t y.r) : ahead (put t v) x y = ahead t x y := by
  obtain ⟨a, _, h⟩ := far_put hn hv
  unfold ahead
  rw [h x hx, h y hy]
  by_cases e : far t x = far t y
  · rw [if_pos (by rw [e]), if_pos e]
  · rw [if_neg (by split <;> split <;> omega), if_neg e]
    apply decide_eq_decide.2
    split <;> split <;> omega
/-! ### Those above stay -/
theorem ins_ids {p : Un → Bool} {x : Un} : ∀ {t : Fo} {k : Id}, k ∈ (insBy p x t).ids ↔ k = x.id ∨ k ∈ t.ids
  | nil, k => by simp [insBy, ids, flat]
  | nd u l r s, k => by
    unfold insBy
    split
    · rw [ids_nd, ids_nd]
      simp only [List.mem_append, List.mem_cons, ins_ids (t := s)]
      constructor
      · rintro ((h | h | h) | h | h)
        · exact .inr (.inl (.inl h))
        · exact .inr (.inl (.inr (.inl h)))
        · exact .inr (.inl (.inr (.inr h)))
        · exact .inl h
        · exact .inr (.inr h)
      · rintro (h | (h | h | h) | h)
        · exact .inr (.inl h)
        · exact .inl (.inl h)
        · exact .inl (.inr (.inl h))
        · exact .inl (.inr (.inr h))
        · exact .inr (.inr h)
    · rw [ids_nd x]
      simp only [List.mem_append, List.mem_cons]
      constructor
      · rintro ((h | h | h) | h)
        · cases h
        · exact .inl h
        · cases h
        · exact .inr h
      · rintro (h | h)
        · exact .inl (.inr (.inl h))
        · exact .inr h
theorem upL_ins {p : Un → Bool} {x : Un} : ∀ {t : Fo} {k : Id}, k ≠ x.id → upL (insBy p x t) k = upL t k
  | nil, k, h => by
    show upL (nd x nil nil nil) k = _
    rw [upL_nd, if_neg (Ne.symm h), if_neg (by intro h; cases h), if_neg (by intro h; cases h)]
  | nd u l r s, k, h => by
    unfold insBy
    split
    · rw [upL_nd, upL_nd, upL_ins (t := s) h]
    · rw [upL_nd x, if_neg (Ne.symm h), if_neg (by intro h; cases h), if_neg (by intro h; cases h)]
/-- What a forest does that only lays a new leaf. -/
structure Leaf (x : Id) (f : Fo → Fo) : Prop where
  ids : ∀ (t : Fo) (k : Id), k ≠ x → (k ∈ (f t).ids ↔ k ∈ t.ids)
  up : ∀ (t : Fo) (k : Id), k ≠ x → upL (f t) k = upL t k
theorem Leaf.id' (x : Id) : Leaf x id := ⟨fun _ _ _ => Iff.rfl, fun _ _ _ => rfl⟩
theorem Leaf.ins (p : Un → Bool) (x : Un) : Leaf x.id (insBy p x) := ⟨fun _ _ h => ins_ids.trans ⟨fun h' => h'.resolve_left h, .inr⟩, fun _ _ h => upL_ins h⟩
theorem Leaf.mod {x k' : Id} {f g : Fo → Fo} (hf : Leaf x f) (hg : Leaf x g) : Leaf x (mod k' f g) := by
  have h1 : ∀ (t : Fo) (k : Id), k ≠ x → (k ∈ (Fo.mod k' f g t).ids ↔ k ∈ t.ids) := by
    intro t k h
    induction t with
    | nil => exact Iff.rfl
    | nd u l r s il ir is =>
      unfold Fo.mod
      split
      · rw [ids_nd, ids_nd]
        simp only [List.mem_append, List.mem_cons, hf.ids _ _ h, hg.ids _ _ h]
      · rw [ids_nd, ids_nd]
        simp only [List.mem_append, List.mem_cons, il, ir, is]
  refine ⟨h1, fun t k h => ?_⟩
  induction t with
  | nil => rfl
  | nd u l r s il ir is =>
    unfold Fo.mod
    split
    · rw [upL_nd, upL_nd, hf.up _ _ h, hg.up _ _ h]
      simp only [hf.ids _ _ h, hg.ids _ _ h]
    · rw [upL_nd, upL_nd, il, ir, is]
      simp only [h1 _ _ h]
theorem upL_put {t : Fo} {v : Un} {k : Id} (h : k ≠ v.id) : upL (put t v) k = upL t k := by
  unfold put
  split
  · exact (Leaf.mod (Leaf.ins _ v) (Leaf.id' _)).up t k h
  · split
    · exact (Leaf.mod (Leaf.id' _) (Leaf.ins _ v)).up t k h
    · exact (Leaf.ins _ v).up t k h
theorem isL_put {t : Fo} {u v : Un} (hn : t.ids.Nodup) (hl : u.l ≠ v.id) (hr : u.r ≠ v.id) : isL (put t v) u = isL t u := by
  unfold isL
  rw [upL_put hr]
  have h1 : ∀ k, k ≠ v.id → (k ∈ (put t v).ids ↔ k ∈ t.ids) := fun k hk => (put_ids hn k).trans ⟨fun h => h.resolve_left hk, .inr⟩
  rw [decide_eq_decide.2 (h1 _ hr), decide_eq_decide.2 (h1 _ hl)]
/-! ### Laying commutes -/
theorem ins_ins {p q : Un → Bool} {u v : Un} (h1 : p v = !q u) (h2 : ∀ a, p a = true → q a = false → p v = true) (h3 : ∀ a, q a = true → p a = false → q u = true) : ∀ s : Fo, insBy p u (insBy q v s) = insBy q v (insBy p u s)
  | nil => by
    show insBy p u (nd v nil nil nil) = insBy q v (nd u nil nil nil)
    simp only [insBy, h1]
    cases q u <;> rfl
  | nd a l r s => by
    have ih := ins_ins h1 h2 h3 s
    cases hp : p a <;> cases hq : q a <;> simp only [insBy, hp, hq, if_true, if_false, Bool.false_eq_true]
    · rw [h1]
      cases q u <;> simp
    · have hh := h3 a hq hp
      simp [hh]
    · have hh := h2 a hp hq
      simp [hh]
    · simp [ih]
theorem ins_mod {p : Un → Bool} {x : Un} {k : Id} {f g : Fo → Fo} (h : x.id ≠ k) : ∀ s : Fo, insBy p x (mod k f g s) = mod k f g (insBy p x s)
  | nil => by
    show nd x nil nil nil = mod k f g (nd x nil nil nil)
    unfold mod
    rw [if_neg h]
    rfl
  | nd v l r s => by
    have ih := ins_mod (p := p) (f := f) (g := g) h s
    by_cases e : v.id = k
    · cases hp : p v <;> simp [mod, insBy, e, hp, h]
    · cases hp : p v <;> simp [mod, insBy, e, hp, h, ih]
theorem mod_mod {k k' : Id} {f g f' g' : Fo → Fo} (hne : k ≠ k') (hf : ∀ s, f (mod k' f' g' s) = mod k' f' g' (f s)) (hg : ∀ s, g (mod k' f' g' s) = mod k' f' g' (g s)) (hf' : ∀ s, f' (mod k f g s) = mod k f g (f' s)) (hg' : ∀ s, g' (mod k f g s) = mod k f g (g' s)) :
    ∀ t : Fo, mod k f g (mod k' f' g' t) = mod k' f' g' (mod k f g t)
  | nil => rfl
  | nd u l r s => by
    have il := mod_mod hne hf hg hf' hg' l
    have ir := mod_mod hne hf hg hf' hg' r
    have is := mod_mod hne hf hg hf' hg' s
    by_cases e : u.id = k
    · have e' : u.id ≠ k' := fun h => hne (e.symm.trans h)
      simp only [mod, if_pos e, if_neg e', hf, hg]
    · by_cases e' : u.id = k'
      · simp only [mod, if_neg e, if_pos e', hf', hg']
      · simp only [mod, if_neg e, if_neg e', il, ir, is]
theorem mod_same {k : Id} {f g f' g' : Fo → Fo} : ∀ t : Fo, mod k f g (mod k f' g' t) = mod k (fun s => f (f' s)) (fun s => g (g' s)) t
  | nil => rfl
  | nd u l r s => by
    by_cases e : u.id = k
    · simp only [mod, if_pos e]
    · simp only [mod, if_neg e, mod_same l, mod_same r, mod_same s]
theorem ins_congr {p q : Un → Bool} {x : Un} : ∀ {s : Fo}, (∀ a ∈ s.flat, p a = q a) → insBy p x s = insBy q x s
  | nil, _ => rfl
  | nd u l r s, h => by
    have h1 : p u = q u := h u (by simp [flat])
    have h2 := ins_congr (p := p) (q := q) (x := x) (s := s) fun a ha => h a (by simp [flat, ha])
    unfold insBy
    rw [h1, h2]
theorem mod_congr {p q : Un → Bool} {x : Un} {k : Id} : ∀ {s : Fo}, (∀ a ∈ s.flat, p a = q a) → mod k id (insBy p x) s = mod k id (insBy q x) s
  | nil, _ => rfl
  | nd u l r s, h => by
    have hl := mod_congr (p := p) (q := q) (x := x) (k := k) (s := l) fun a ha => h a (by simp [flat, ha])
    have hr := mod_congr (p := p) (q := q) (x := x) (k := k) (s := r) fun a ha => h a (by simp [flat, ha])
    have hs := mod_congr (p := p) (q := q) (x := x) (k := k) (s := s) fun a ha => h a (by simp [flat, ha])
    have hi := ins_congr (p := p) (q := q) (x := x) (s := r) fun a ha => h a (by simp [flat, ha])
    unfold mod
    rw [hl, hr, hs, hi]
/-- What put does to another tree than the one that tells where. -/
def lay (t : Fo) (u : Un) (s : Fo) : Fo :=
  if isL t u then mod u.r (insBy (fun a => lt a.id u.id) u) id s
  else if u.l ∈ t.ids then mod u.l id (insBy (fun a => ahead t a u) u) s
  else insBy (fun a => ahead t a u) u s
theorem Good.at {t : Fo} (h : Good t) {x : Un} (hx : x ∈ t.flat) : At t x.l ∧ At t x.r := h.org x hx
theorem At.ne {t : Fo} {k : Id} {v : Un} (h : At t k) (hv : v.id ∉ t.ids) (hr : rightId v.id = true) : k ≠ v.id := fun e => by
  rcases h with h | h
  · rw [← e, h] at hr
    exact Bool.noConfusion hr
  · exact hv (e ▸ h)
theorem put_eq (s : Fo) (u : Un) : put s u = if isL s u then mod u.r (insBy (fun a => lt a.id u.id) u) id s else if u.l ∈ s.ids then mod u.l id (insBy (fun a => ahead s a u) u) s else insBy (fun a => ahead s a u) u s := rfl
theorem put_lay {t : Fo} {u v : Un} (hg : Good t) (hu : Can t u) (hv : Can t v) : put (put t v) u = lay t u (put t v) := by
  have hl : u.l ≠ v.id := At.ne hu.l hv.new hv.right
  have hr : u.r ≠ v.id := At.ne hu.r hv.new hv.right
  have hm : u.l ∈ (put t v).ids ↔ u.l ∈ t.ids := (put_ids hg.nd _).trans ⟨fun h => h.resolve_left hl, .inr⟩
  have hc : ∀ a ∈ (put t v).flat, ahead (put t v) a u = ahead t a u := fun a ha => by
    refine ahead_put hg.nd hv.new ?_ hu.r
    rcases (put_mem hg.nd a).1 ha with rfl | ha
    · exact hv.r
    · exact (hg.at ha).2
  rw [put_eq (put t v) u]
  unfold lay
  rw [isL_put hg.nd hl hr, mod_congr hc, ins_congr hc]
  simp only [hm]
theorem lt_or {a b : Id} (h : lt a b = false) : lt b a = true ∨ a = b := by
  by_cases e : a = b
  · exact .inr e
  · exact .inl (lt_total h e)
theorem ins_lt {u v : Un} (hne : u.id ≠ v.id) (s : Fo) : insBy (fun a => lt a.id u.id) u (insBy (fun a => lt a.id v.id) v s) = insBy (fun a => lt a.id v.id) v (insBy (fun a => lt a.id u.id) u s) := by
  refine ins_ins ?_ (fun a h1 h2 => ?_) (fun a h1 h2 => ?_) s
  · cases h : lt u.id v.id with
    | true => exact lt_asymm h
    | false => exact lt_total h hne
  · rcases lt_or h2 with h | h
    · exact lt_trans h h1
    · rw [← h]; exact h1
  · rcases lt_or h2 with h | h
    · exact lt_trans h h1
    · rw [← h]; exact h1
theorem ahead_iff {t : Fo} {a b : Un} : ahead t a b = true ↔ far t b < far t a ∨ (far t a = far t b ∧ lt a.id b.id = true) := by
  unfold ahead
  by_cases e : far t a = far t b
  · rw [if_pos e]
    exact ⟨fun h => .inr ⟨e, h⟩, fun h => h.elim (fun h => by omega) fun h => h.2⟩
  · rw [if_neg e, decide_eq_true_eq]
    exact ⟨.inl, fun h => h.elim id fun h => absurd h.1 e⟩
theorem ahead_no {t : Fo} {a b : Un} (h : ahead t a b = false) : far t a < far t b ∨ (far t a = far t b ∧ (lt b.id a.id = true ∨ a.id = b.id)) := by
  unfold ahead at h
  by_cases e : far t a = far t b
  · rw [if_pos e] at h
    exact .inr ⟨e, lt_or h⟩
  · rw [if_neg e, decide_eq_false_iff_not] at h
    exact .inl (by omega)
theorem ins_ahead {t : Fo} {u v : Un} (hne : u.id ≠ v.id) (s : Fo) : insBy (fun a => ahead t a u) u (insBy (fun a => ahead t a v) v s) = insBy (fun a => ahead t a v) v (insBy (fun a => ahead t a u) u s) := by
  have tr : ∀ {a u v : Un}, ahead t a u = true → ahead t a v = false → ahead t v u = true := fun {a u v} h1 h2 => by
    rw [ahead_iff] at h1 ⊢
    rcases ahead_no h2 with h2 | ⟨h2, h3⟩
    · rcases h1 with h1 | ⟨h1, _⟩
      · exact .inl (by omega)
      · exact .inl (by omega)
    · rcases h1 with h1 | ⟨h1, h4⟩
      · exact .inl (by omega)
      · refine .inr ⟨by omega, ?_⟩
        rcases h3 with h3 | h3
        · exact lt_trans h3 h4
        · rw [← h3]; exact h4
  refine ins_ins (p := fun a => ahead t a u) (q := fun a => ahead t a v) ?_ (fun a => tr) (fun a => tr) s
  cases h : ahead t u v with
  | true =>
    cases h' : ahead t v u with
    | false => rfl
    | true =>
      rw [ahead_iff] at h h'
      rcases h with h | ⟨h, k⟩
      · rcases h' with h' | ⟨h', _⟩ <;> omega
      · rcases h' with h' | ⟨_, k'⟩
        · omega
        · rw [lt_asymm k] at k'; cases k'
  | false =>
    show ahead t v u = true
    rw [ahead_iff]
    rcases ahead_no h with h | ⟨h, k⟩
    · exact .inl h
    · exact .inr ⟨h.symm, k.resolve_right hne⟩
theorem lay_lay {t : Fo} {u v : Un} (hne : u.id ≠ v.id) (hu : Can t u) (hv : Can t v) (s : Fo) : lay t u (lay t v s) = lay t v (lay t u s) := by
  have nu : ∀ k ∈ t.ids, u.id ≠ k := fun k hk e => hu.new (e ▸ hk)
  have nv : ∀ k ∈ t.ids, v.id ≠ k := fun k hk e => hv.new (e ▸ hk)
  have inr : ∀ {x : Un}, isL t x = true → x.r ∈ t.ids := fun {x} h => by
    unfold isL at h
    simp only [Bool.and_eq_true, decide_eq_true_eq] at h
    exact h.1
  have ni : ∀ k, ∀ (p : Un → Bool) (f g : Fo → Fo), k ∈ t.ids → (∀ s, insBy p u (mod k f g s) = mod k f g (insBy p u s)) ∧ ∀ s, insBy p v (mod k f g s) = mod k f g (insBy p v s) := fun k p f g hk => ⟨ins_mod (nu k hk), ins_mod (nv k hk)⟩
  unfold lay
  cases hLu : isL t u with
  | true =>
    have hru := inr hLu
    cases hLv : isL t v with
    | true =>
      have hrv := inr hLv
      simp only [if_true]
      by_cases e : u.r = v.r
      · rw [e, mod_same, mod_same]
        have : (fun s => insBy (fun a => lt a.id u.id) u (insBy (fun a => lt a.id v.id) v s)) = fun s => insBy (fun a => lt a.id v.id) v (insBy (fun a => lt a.id u.id) u s) := funext fun s => ins_lt hne s
        rw [this]
      · exact mod_mod e (ni _ _ _ _ hrv).1 (by intro; rfl) (ni _ _ _ _ hru).2 (by intro; rfl) s
    | false =>
      simp only [if_true, Bool.false_eq_true, if_false]
      by_cases hl : v.l ∈ t.ids
      · simp only [if_pos hl]
        by_cases e : u.r = v.l
        · rw [e, mod_same, mod_same]
          rfl
        · exact mod_mod e (ni _ _ _ _ hl).1 (by intro; rfl) (by intro; rfl) (ni _ _ _ _ hru).2 s
      · simp only [if_neg hl]
        exact ((ni _ _ _ _ hru).2 s).symm
  | false =>
    simp only [Bool.false_eq_true, if_false]
    cases hLv : isL t v with
    | true =>
      have hrv := inr hLv
      simp only [if_true]
      by_cases hl : u.l ∈ t.ids
      · simp only [if_pos hl]
        by_cases e : u.l = v.r
        · rw [e, mod_same, mod_same]
          rfl
        · exact mod_mod e (by intro; rfl) (ni _ _ _ _ hrv).1 (ni _ _ _ _ hl).2 (by intro; rfl) s
      · simp only [if_neg hl]
        exact (ni _ _ _ _ hrv).1 s
    | false =>
      simp only [Bool.false_eq_true, if_false]
      by_cases hl : u.l ∈ t.ids
      · simp only [if_pos hl]
        by_cases hl' : v.l ∈ t.ids
        · simp only [if_pos hl']
          by_cases e : u.l = v.l
          · rw [e, mod_same, mod_same]
            have : (fun s => insBy (fun a => ahead t a u) u (insBy (fun a => ahead t a v) v s)) = fun s => insBy (fun a => ahead t a v) v (insBy (fun a => ahead t a u) u s) := funext fun s => ins_ahead hne s
            rw [this]
          · exact mod_mod e (by intro; rfl) (ni _ _ _ _ hl').1 (by intro; rfl) (ni _ _ _ _ hl).2 s
        · simp only [if_neg hl']
          exact ((ni _ _ _ _ hl).2 s).symm
      · simp only [if_neg hl]
        by_cases hl' : v.l ∈ t.ids
        · simp only [if_pos hl']
          exact (ni _ _ _ _ hl').1 s
        · simp only [if_neg hl']
          exact ins_ahead hne s
/-- In either order: the same. -/
theorem put_put {t : Fo} {u v : Un} (hg : Good t) (hne : u.id ≠ v.id) (hu : Can t u) (hv : Can t v) : put (put t v) u = put (put t u) v := by
  rw [put_lay hg hu hv, put_lay hg hv hu]
  exact lay_lay hne hu hv t
/-! ### Units in another order -/
theorem pos_mono {t : Fo} {v : Un} {a b : Id} (hn : t.ids.Nodup) (hv : v.id ∉ t.ids) (ha : a ∈ t.ids) (hb : b ∈ t.ids) : pos (put t v) a < pos (put t v) b ↔ pos t a < pos t b := by
  obtain ⟨n, _, h⟩ := pos_put hn hv
  rw [h a ha, h b hb]
  split <;> split <;> omega
theorem At.put {t : Fo} {k : Id} {v : Un} (hn : t.ids.Nodup) (h : At t k) : At (Fo.put t v) k := h.imp id fun h => (put_ids hn k).2 (.inr h)
theorem May.put {t : Fo} {u v : Un} (hg : Good t) (hu : May t u) (hv : Can t v) (hne : u.id ≠ v.id) : May (Fo.put t v) u :=
  ⟨⟨hu.right, fun h => ((put_ids hg.nd _).1 h).elim hne hu.new, At.put hg.nd hu.l, At.put hg.nd hu.r⟩, by
    rcases hu.lr with h | h | h
    · exact .inl h
    · exact .inr (.inl h)
    · by_cases h1 : u.l = none'
      · exact .inl h1
      · by_cases h2 : u.r = none'
        · exact .inr (.inl h2)
        · exact .inr (.inr ((pos_mono hg.nd hv.new (hu.l.resolve_left h1) (hu.r.resolve_left h2)).2 h))⟩
theorem May.back {t : Fo} {u v : Un} (hg : Good t) (hu : May (Fo.put t v) u) (hv : Can t v) (hl : At t u.l) (hr : At t u.r) : May t u ∧ u.id ≠ v.id :=
  ⟨⟨⟨hu.right, fun h => hu.new ((put_ids hg.nd _).2 (.inr h)), hl, hr⟩, by
    rcases hu.lr with h | h | h
    · exact .inl h
    · exact .inr (.inl h)
    · by_cases h1 : u.l = none'
      · exact .inl h1
      · by_cases h2 : u.r = none'
        · exact .inr (.inl h2)
        · exact .inr (.inr ((pos_mono hg.nd hv.new (hl.resolve_left h1) (hr.resolve_left h2)).1 h))⟩, fun e => hu.new ((put_ids hg.nd _).2 (.inl e))⟩
/-- One whose origins are there may come first. -/
theorem ok_pull : ∀ {xs : List Un} {t : Fo} {u : Un} {ys : List Un}, Good t → okL t (xs ++ u :: ys) → At t u.l → At t u.r → okL t (u :: (xs ++ ys)) ∧ putL t (u :: (xs ++ ys)) = putL t (xs ++ u :: ys)
  | [], _, _, _, _, h, _, _ => ⟨h, rfl⟩
  | x :: xs, t, u, ys, hg, h, hl, hr => by
    have hx := may_iff.1 h.1
    obtain ⟨⟨h1, h2⟩, h3⟩ := ok_pull (xs := xs) (hg.put hx.toCan) h.2 (At.put hg.nd hl) (At.put hg.nd hr)
    obtain ⟨hu, hne⟩ := May.back hg (may_iff.1 h1) hx.toCan hl hr
    have he := put_put hg hne hu.toCan hx.toCan
    refine ⟨⟨may_iff.2 hu, may_iff.2 (hx.put hg hu.toCan (Ne.symm hne)), ?_⟩, ?_⟩
    · rw [he] at h2
      exact h2
    · show putL (Fo.put (Fo.put t u) x) (xs ++ ys) = putL (Fo.put t x) (xs ++ u :: ys)
      rw [← he, ← h3]
      rfl
theorem ok_head {t : Fo} {u : Un} {us : List Un} (h : okL t (u :: us)) : At t u.l ∧ At t u.r := ⟨(may_iff.1 h.1).l, (may_iff.1 h.1).r⟩
end Fo
end Sq
end Go.Proofs.Ytmammcgdjjldbaa
