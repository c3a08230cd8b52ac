/- Plain: the order of units as a tree: forests of units, each with forests on both sides. -/
import Derived.WalkKit
namespace Go.Proofs.Ytmammcgdjjldbaa
set_option maxRecDepth 100000
namespace Sq
abbrev Id := Nat × Nat
/-- A unit: its id, its origins. -/
structure Un where
  id : Id
  l : Id
  r : Id
deriving DecidableEq
instance : Inhabited Un := ⟨⟨(0, 0), (0, 0), (0, 0)⟩⟩
/-- A forest: the first one's unit, its left and right forests, its siblings behind it. -/
inductive Fo where
  | nil : Fo
  | nd (u : Un) (l r s : Fo) : Fo
namespace Fo
def flat : Fo → List Un
  | nil => []
  | nd u l r s => flat l ++ u :: flat r ++ flat s
def tops : Fo → List Un
  | nil => []
  | nd u _ _ s => u :: tops s
def sz (t : Fo) : Nat := t.flat.length
/-- How many units stand at and below each of the first ones. -/
def szs : Fo → List Nat
  | nil => []
  | nd _ l r s => (sz l + 1 + sz r) :: szs s
/-- A unit's two forests turned. -/
def mod (k : Id) (f g : Fo → Fo) : Fo → Fo
  | nil => nil
  | nd u l r s => if u.id = k then nd u (f l) (g r) s else nd u (mod k f g l) (mod k f g r) (mod k f g s)
/-- Behind the first ones that pass. -/
def insBy (p : Un → Bool) (x : Un) : Fo → Fo
  | nil => nd x nil nil nil
  | nd u l r s => if p u then nd u l r (insBy p x s) else nd x nil nil (nd u l r s)
/-- The first n trees of a forest; the rest. -/
def fst : Nat → Fo → Fo
  | 0, _ => nil
  | _ + 1, nil => nil
  | n + 1, nd u l r s => nd u l r (fst n s)
def rst : Nat → Fo → Fo
  | 0, t => t
  | _ + 1, nil => nil
  | n + 1, nd _ _ _ s => rst n s
def pass (p : Un → Bool) (t : Fo) : Nat := (t.tops.takeWhile p).length
theorem pass_le (p : Un → Bool) (t : Fo) : pass p t ≤ t.tops.length := (List.takeWhile_prefix _).length_le
theorem fst_rst : ∀ (n : Nat) (t : Fo), (fst n t).flat ++ (rst n t).flat = t.flat
  | 0, _ => rfl
  | _ + 1, nil => rfl
  | n + 1, nd u l r s => by
    show (flat l ++ u :: flat r ++ flat (fst n s)) ++ flat (rst n s) = flat l ++ u :: flat r ++ flat s
    rw [← fst_rst n s]
    simp
theorem tops_len : ∀ t : Fo, t.szs.length = t.tops.length
  | nil => rfl
  | nd _ _ _ s => congrArg (· + 1) (tops_len s)
theorem fst_sz : ∀ (n : Nat) (t : Fo), ((fst n t).flat).length = (t.szs.take n).sum
  | 0, _ => rfl
  | _ + 1, nil => rfl
  | n + 1, nd u l r s => by
    show (flat l ++ u :: flat r ++ flat (fst n s)).length = (((sz l + 1 + sz r) :: szs s).take (n + 1)).sum
    rw [List.take_succ_cons, List.sum_cons, ← fst_sz n s]
    simp [sz]
    omega
theorem szs_sum : ∀ t : Fo, t.szs.sum = t.sz
  | nil => rfl
  | nd u l r s => by
    show ((sz l + 1 + sz r) :: szs s).sum = (flat l ++ u :: flat r ++ flat s).length
    rw [List.sum_cons, szs_sum s]
    simp [sz]
    omega
theorem ins_flat (p : Un → Bool) (x : Un) : ∀ t : Fo, (insBy p x t).flat = (fst (pass p t) t).flat ++ x :: (rst (pass p t) t).flat
  | nil => rfl
  | nd u l r s => by
    unfold insBy pass
    cases h : p u
    · have e : (tops (nd u l r s)).takeWhile p = [] := by
        show (u :: tops s).takeWhile p = []
        rw [List.takeWhile_cons, h]
        rfl
      rw [e]
      rfl
    · have e : (tops (nd u l r s)).takeWhile p = u :: (tops s).takeWhile p := by
        show (u :: tops s).takeWhile p = _
        rw [List.takeWhile_cons, h]
        rfl
      rw [e]
      show flat l ++ u :: flat r ++ flat (insBy p x s) = (flat l ++ u :: flat r ++ flat (fst (pass p s) s)) ++ x :: flat (rst (pass p s) s)
      rw [ins_flat p x s]
      simp
theorem ins_tops (p : Un → Bool) (x : Un) : ∀ t : Fo, (insBy p x t).tops = t.tops.take (pass p t) ++ x :: t.tops.drop (pass p t)
  | nil => rfl
  | nd u l r s => by
    unfold insBy pass
    cases h : p u
    · have e : (tops (nd u l r s)).takeWhile p = [] := by
        show (u :: tops s).takeWhile p = []
        rw [List.takeWhile_cons, h]
        rfl
      rw [e]
      rfl
    · have e : (tops (nd u l r s)).takeWhile p = u :: (tops s).takeWhile p := by
        show (u :: tops s).takeWhile p = _
        rw [List.takeWhile_cons, h]
        rfl
      rw [e]
      show u :: tops (insBy p x s) = (u :: tops s).take ((tops s).takeWhile p).length.succ ++ x :: (u :: tops s).drop ((tops s).takeWhile p).length.succ
      rw [ins_tops p x s]
      rfl
theorem ins_szs (p : Un → Bool) (x : Un) : ∀ t : Fo, (insBy p x t).szs = t.szs.take (pass p t) ++ 1 :: t.szs.drop (pass p t)
  | nil => rfl
  | nd u l r s => by
    unfold insBy pass
    cases h : p u
    · have e : (tops (nd u l r s)).takeWhile p = [] := by
        show (u :: tops s).takeWhile p = []
        rw [List.takeWhile_cons, h]
        rfl
      rw [e]
      rfl
    · have e : (tops (nd u l r s)).takeWhile p = u :: (tops s).takeWhile p := by
        show (u :: tops s).takeWhile p = _
        rw [List.takeWhile_cons, h]
        rfl
      rw [e]
      show (sz l + 1 + sz r) :: szs (insBy p x s) = ((sz l + 1 + sz r) :: szs s).take ((tops s).takeWhile p).length.succ ++ 1 :: ((sz l + 1 + sz r) :: szs s).drop ((tops s).takeWhile p).length.succ
      rw [ins_szs p x s]
      rfl
/-! ### Where units stand -/
def ids (t : Fo) : List Id := t.flat.map (·.id)
theorem mod_none {k : Id} {f g : Fo → Fo} : ∀ {t : Fo}, k ∉ t.ids → mod k f g t = t
  | nil, _ => rfl
  | nd u l r s, h => by
    simp only [ids, flat, List.map_append, List.map_cons, List.mem_append, List.mem_cons, not_or] at h
    obtain ⟨⟨h1, h2, h3⟩, h4⟩ := h
    unfold mod
    rw [if_neg (fun e => h2 e.symm), mod_none h1, mod_none h3, mod_none h4]
theorem nodup_nd {u : Un} {l r s : Fo} (h : (nd u l r s).ids.Nodup) : l.ids.Nodup ∧ r.ids.Nodup ∧ s.ids.Nodup ∧ u.id ∉ l.ids ∧ u.id ∉ r.ids ∧ u.id ∉ s.ids ∧ (∀ k ∈ l.ids, k ∉ r.ids ∧ k ∉ s.ids) ∧ ∀ k ∈ r.ids, k ∉ s.ids := by
  simp only [ids, flat, List.map_append, List.map_cons] at h ⊢
  rw [List.nodup_append] at h
  obtain ⟨h1, h2, h3⟩ := h
  rw [List.nodup_append] at h1
  obtain ⟨h4, h5, h6⟩ := h1
  rw [List.nodup_cons] at h5
  refine ⟨h4, h5.2, h2, fun hm => h6 _ hm _ (List.mem_cons_self ..) rfl, h5.1, fun hm => h3 _ (List.mem_append_right _ (List.mem_cons_self ..)) _ hm rfl, fun k hk => ⟨fun hm => h6 _ hk _ (List.mem_cons_of_mem _ hm) rfl, fun hm => h3 _ (List.mem_append_left _ hk) _ hm rfl⟩, fun k hk hm => h3 _ (List.mem_append_right _ (List.mem_cons_of_mem _ hk)) _ hm rfl⟩
theorem mem_nd {u : Un} {l r s : Fo} {k : Id} (h : k ∈ (nd u l r s).ids) (e : u.id ≠ k) : k ∈ l.ids ∨ k ∈ r.ids ∨ k ∈ s.ids := by
  simp only [ids, flat, List.map_append, List.map_cons, List.mem_append, List.mem_cons] at h
  rcases h with (h | h | h) | h
  · exact .inl h
  · exact absurd h.symm e
  · exact .inr (.inl h)
  · exact .inr (.inr h)
theorem ids_nd (u : Un) (l r s : Fo) : (nd u l r s).ids = l.ids ++ u.id :: r.ids ++ s.ids := by simp [ids, flat]
theorem mod_tops (k : Id) (f g : Fo → Fo) : ∀ t : Fo, (mod k f g t).tops = t.tops
  | nil => rfl
  | nd u l r s => by
    unfold mod
    split
    · rfl
    · exact congrArg (u :: ·) (mod_tops k f g s)
/-- The units above one, the nearest first. -/
def upL : Fo → Id → List Id
  | nil, _ => []
  | nd u l r s, k => if u.id = k then [] else if k ∈ l.ids then upL l k ++ [u.id] else if k ∈ r.ids then upL r k ++ [u.id] else upL s k
end Fo
/-- What is told of a unit in memory: its unit, its parent, its children on both sides, how many units are at and below it. -/
structure Rec where
  u : Un
  par : Option Id
  L : List Id
  R : List Id
  n : Nat
namespace Fo
def tips (t : Fo) : List Id := t.tops.map (·.id)
/-- These records tell the forest, below this parent. -/
def Fits (ρ : Id → Rec) : Option Id → Fo → Prop
  | _, nil => True
  | p, nd u l r s => ρ u.id = ⟨u, p, l.tips, r.tips, sz l + 1 + sz r⟩ ∧ Fits ρ (some u.id) l ∧ Fits ρ (some u.id) r ∧ Fits ρ p s
theorem Fits.congr {ρ σ : Id → Rec} : ∀ {t : Fo} {p : Option Id}, Fits ρ p t → (∀ j ∈ t.ids, σ j = ρ j) → Fits σ p t
  | nil, _, _, _ => trivial
  | nd u l r s, p, h, he => by
    have hm : ∀ j, j ∈ l.ids ∨ j = u.id ∨ j ∈ r.ids ∨ j ∈ s.ids → σ j = ρ j := fun j hj => he j (by
      rw [ids_nd]
      simp only [List.mem_append, List.mem_cons]
      rcases hj with h | h | h | h
      · exact .inl (.inl h)
      · exact .inl (.inr (.inl h))
      · exact .inl (.inr (.inr h))
      · exact .inr h)
    exact ⟨(hm _ (.inr (.inl rfl))).trans h.1, Fits.congr h.2.1 fun j hj => hm j (.inl hj), Fits.congr h.2.2.1 fun j hj => hm j (.inr (.inr (.inl hj))), Fits.congr h.2.2.2 fun j hj => hm j (.inr (.inr (.inr hj)))⟩
theorem Fits.szs {ρ : Id → Rec} : ∀ {t : Fo} {p : Option Id}, Fits ρ p t → t.tips.map (fun j => (ρ j).n) = t.szs
  | nil, _, _ => rfl
  | nd u l r s, p, h => by
    show (ρ u.id).n :: s.tips.map (fun j => (ρ j).n) = (sz l + 1 + sz r) :: s.szs
    rw [h.1, Fits.szs h.2.2.2]
theorem Fits.rec_u {ρ : Id → Rec} : ∀ {t : Fo} {p : Option Id}, Fits ρ p t → ∀ u ∈ t.flat, (ρ u.id).u = u
  | nil, _, _, u, hu => by cases hu
  | nd v l r s, p, h, u, hu => by
    have hu' : u ∈ flat l ++ v :: flat r ++ flat s := hu
    simp only [List.mem_append, List.mem_cons] at hu'
    rcases hu' with (hu | hu | hu) | hu
    · exact Fits.rec_u h.2.1 u hu
    · rw [hu, h.1]
    · exact Fits.rec_u h.2.2.1 u hu
    · exact Fits.rec_u h.2.2.2 u hu
/-- Where a unit stands, and what becomes of the order where its forests turn. -/
theorem split : ∀ {t : Fo} {k : Id}, t.ids.Nodup → k ∈ t.ids → ∃ A B u l r, u.id = k ∧ t.flat = A ++ l.flat ++ u :: r.flat ++ B ∧ (∀ f g, (mod k f g t).flat = A ++ (f l).flat ++ u :: (g r).flat ++ B) ∧
    ∀ (ρ : Id → Rec) (p : Option Id), Fits ρ p t → (∃ q, ρ k = ⟨u, q, l.tips, r.tips, sz l + 1 + sz r⟩) ∧ Fits ρ (some k) l ∧ Fits ρ (some k) r
  | nil, k, _, h => by simp [ids, flat] at h
  | nd u l r s, k, hn, h => by
    obtain ⟨nl, nr, ns, ul, ur, us, hlr, hrs⟩ := nodup_nd hn
    by_cases e : u.id = k
    · refine ⟨[], s.flat, u, l, r, e, rfl, fun f g => ?_, fun ρ p hp => ?_⟩
      · unfold mod; rw [if_pos e]; rfl
      · subst e
        exact ⟨⟨p, hp.1⟩, hp.2.1, hp.2.2.1⟩
    · rcases mem_nd h e with h1 | h1 | h1
      · obtain ⟨A, B, x, l1, r1, hx, hf, hM, hF⟩ := split nl h1
        obtain ⟨hr0, hs0⟩ := hlr k h1
        refine ⟨A, B ++ u :: r.flat ++ s.flat, x, l1, r1, hx, ?_, fun f g => ?_, fun ρ p hp => hF ρ _ hp.2.1⟩
        · show flat l ++ u :: flat r ++ flat s = _
          rw [hf]; simp
        · unfold mod
          rw [if_neg e, mod_none hr0, mod_none hs0]
          show flat (mod k f g l) ++ u :: flat r ++ flat s = _
          rw [hM]; simp
      · obtain ⟨A, B, x, l1, r1, hx, hf, hM, hF⟩ := split nr h1
        have hl0 : k ∉ l.ids := fun hm => (hlr k hm).1 h1
        have hs0 := hrs k h1
        refine ⟨l.flat ++ u :: A, B ++ s.flat, x, l1, r1, hx, ?_, fun f g => ?_, fun ρ p hp => hF ρ _ hp.2.2.1⟩
        · show flat l ++ u :: flat r ++ flat s = _
          rw [hf]; simp
        · unfold mod
          rw [if_neg e, mod_none hl0, mod_none hs0]
          show flat l ++ u :: flat (mod k f g r) ++ flat s = _
          rw [hM]; simp
      · obtain ⟨A, B, x, l1, r1, hx, hf, hM, hF⟩ := split ns h1
        have hl0 : k ∉ l.ids := fun hm => (hlr k hm).2 h1
        have hr0 : k ∉ r.ids := fun hm => hrs k hm h1
        refine ⟨l.flat ++ u :: r.flat ++ A, B, x, l1, r1, hx, ?_, fun f g => ?_, fun ρ p hp => hF ρ _ hp.2.2.2⟩
        · show flat l ++ u :: flat r ++ flat s = _
          rw [hf]; simp
        · unfold mod
          rw [if_neg e, mod_none hl0, mod_none hr0]
          show flat l ++ u :: flat r ++ flat (mod k f g s) = _
          rw [hM]; simp
theorem mod_sz {t : Fo} {k : Id} {f g : Fo → Fo} {d : Nat} (hn : t.ids.Nodup) (hk : k ∈ t.ids) (hd : ∀ l r, sz (f l) + sz (g r) = sz l + sz r + d) : sz (mod k f g t) = sz t + d := by
  obtain ⟨A, B, u, l, r, _, hf, hM, _⟩ := split hn hk
  have h1 := hM f g
  have h2 := hd l r
  unfold sz at h2 ⊢
  rw [h1, hf]
  simp only [List.length_append, List.length_cons]
  omega
theorem upL_nd (u : Un) (l r s : Fo) (k : Id) : upL (nd u l r s) k = if u.id = k then [] else if k ∈ l.ids then upL l k ++ [u.id] else if k ∈ r.ids then upL r k ++ [u.id] else upL s k := rfl
theorem mod_tips (k : Id) (f g : Fo → Fo) (t : Fo) : (mod k f g t).tips = t.tips := by unfold tips; rw [mod_tops]
theorem upL_sub : ∀ {t : Fo} {k j : Id}, j ∈ upL t k → j ∈ t.ids
  | nil, _, _, h => by cases h
  | nd u l r s, k, j, h => by
    rw [ids_nd]
    simp only [List.mem_append, List.mem_cons]
    unfold upL at h
    split at h
    · cases h
    · split at h
      · rcases List.mem_append.1 h with h | h
        · exact .inl (.inl (upL_sub h))
        · exact .inl (.inr (.inl (List.mem_singleton.1 h)))
      · split at h
        · rcases List.mem_append.1 h with h | h
          · exact .inl (.inr (.inr (upL_sub h)))
          · exact .inl (.inr (.inl (List.mem_singleton.1 h)))
        · exact .inr (upL_sub h)
/-- How the records turn where a unit's forests turn: it, those above it, the new ones; all others stay. -/
theorem Fits.mod {ρ σ : Id → Rec} {k : Id} {f g : Fo → Fo} {d : Nat} (hd : ∀ l r, sz (f l) + sz (g r) = sz l + sz r + d) : ∀ {t : Fo} {p : Option Id}, t.ids.Nodup → k ∈ t.ids → Fits ρ p t →
    (∀ (l r : Fo) (u : Un) (q : Option Id), ρ k = ⟨u, q, l.tips, r.tips, sz l + 1 + sz r⟩ → (∀ j ∈ l.ids, j ∈ t.ids ∧ j ≠ k ∧ j ∉ upL t k) → (∀ j ∈ r.ids, j ∈ t.ids ∧ j ≠ k ∧ j ∉ upL t k) → Fits ρ (some k) l → Fits ρ (some k) r → σ k = ⟨u, q, (f l).tips, (g r).tips, sz l + 1 + sz r + d⟩ ∧ Fits σ (some k) (f l) ∧ Fits σ (some k) (g r)) →
    (∀ j ∈ t.ids, j ≠ k → σ j = { ρ j with n := (ρ j).n + if j ∈ upL t k then d else 0 }) → Fits σ p (mod k f g t)
  | nil, _, _, h, _, _, _ => by cases h
  | nd u l r s, p, hn, h, hF, hk, ho => by
    obtain ⟨nl, nr, ns, ul, ur, us, hlr, hrs⟩ := nodup_nd hn
    have hin : ∀ j, j ∈ l.ids ∨ j = u.id ∨ j ∈ r.ids ∨ j ∈ s.ids → j ∈ (nd u l r s).ids := fun j hj => by
      rw [ids_nd]
      simp only [List.mem_append, List.mem_cons]
      rcases hj with h | h | h | h
      · exact .inl (.inl h)
      · exact .inl (.inr (.inl h))
      · exact .inl (.inr (.inr h))
      · exact .inr h
    have stay : ∀ (x : Fo) (q : Option Id), Fits ρ q x → (∀ j ∈ x.ids, j ∈ (nd u l r s).ids ∧ j ≠ k ∧ j ∉ upL (nd u l r s) k) → Fits σ q x := fun x q hx hj => hx.congr fun j hjx => by
      obtain ⟨h1, h2, h3⟩ := hj j hjx
      rw [ho j h1 h2, if_neg h3]
      rfl
    by_cases e : u.id = k
    · have hup : upL (nd u l r s) k = [] := by rw [upL_nd, if_pos e]
      have no : ∀ j, j ∉ upL (nd u l r s) k := fun j => by rw [hup]; exact List.not_mem_nil
      subst e
      obtain ⟨h1, h2, h3⟩ := hk l r u p hF.1 (fun j hj => ⟨hin j (.inl hj), fun e => ul (e ▸ hj), no j⟩) (fun j hj => ⟨hin j (.inr (.inr (.inl hj))), fun e => ur (e ▸ hj), no j⟩) hF.2.1 hF.2.2.1
      unfold Fo.mod
      rw [if_pos rfl]
      refine ⟨?_, h2, h3, stay s p hF.2.2.2 fun j hj => ⟨hin j (.inr (.inr (.inr hj))), fun e => us (e ▸ hj), no j⟩⟩
      rw [h1]
      have := hd l r
      exact congrArg (Rec.mk u p (f l).tips (g r).tips) (by omega)
    · unfold Fo.mod
      rw [if_neg e]
      rcases mem_nd h e with h1 | h1 | h1
      · obtain ⟨hr0, hs0⟩ := hlr k h1
        have hup : upL (nd u l r s) k = upL l k ++ [u.id] := by rw [upL_nd, if_neg e, if_pos h1]
        rw [mod_none hr0, mod_none hs0]
        have hsub : ∀ j, j ∈ upL (nd u l r s) k ↔ j ∈ upL l k ∨ j = u.id := fun j => by rw [hup, List.mem_append, List.mem_singleton]
        refine ⟨?_, Fits.mod hd nl h1 hF.2.1 (fun a b v q hv ha hb fa fb => hk a b v q hv (fun j hj => ?_) (fun j hj => ?_) fa fb) (fun j hj hne => ?_), stay r _ hF.2.2.1 fun j hj => ?_, stay s _ hF.2.2.2 fun j hj => ?_⟩
        · rw [ho u.id (hin _ (.inr (.inl rfl))) e, hF.1, if_pos ((hsub _).2 (.inr rfl))]
          rw [mod_tips, mod_sz nl h1 hd]
          exact congrArg (Rec.mk u p l.tips r.tips) (by dsimp only; omega)
        · obtain ⟨x, y, z⟩ := ha j hj
          exact ⟨hin _ (.inl x), y, fun hm => ((hsub j).1 hm).elim z fun e' => ul (e' ▸ x)⟩
        · obtain ⟨x, y, z⟩ := hb j hj
          exact ⟨hin _ (.inl x), y, fun hm => ((hsub j).1 hm).elim z fun e' => ul (e' ▸ x)⟩
        · rw [ho j (hin _ (.inl hj)) hne]
          have : j ∈ upL (nd u l r s) k ↔ j ∈ upL l k := (hsub j).trans ⟨fun h => h.elim id fun e' => absurd hj (e' ▸ ul), .inl⟩
          simp only [this]
        · exact ⟨hin _ (.inr (.inr (.inl hj))), fun e' => hr0 (e' ▸ hj), fun hm => ((hsub j).1 hm).elim (fun hm => (hlr j (upL_sub hm)).1 hj) fun e' => ur (e' ▸ hj)⟩
        · exact ⟨hin _ (.inr (.inr (.inr hj))), fun e' => hs0 (e' ▸ hj), fun hm => ((hsub j).1 hm).elim (fun hm => (hlr j (upL_sub hm)).2 hj) fun e' => us (e' ▸ hj)⟩
      · have hl0 : k ∉ l.ids := fun hm => (hlr k hm).1 h1
        have hs0 := hrs k h1
        have hup : upL (nd u l r s) k = upL r k ++ [u.id] := by rw [upL_nd, if_neg e, if_neg hl0, if_pos h1]
        rw [mod_none hl0, mod_none hs0]
        have hsub : ∀ j, j ∈ upL (nd u l r s) k ↔ j ∈ upL r k ∨ j = u.id := fun j => by rw [hup, List.mem_append, List.mem_singleton]
        refine ⟨?_, stay l _ hF.2.1 fun j hj => ?_, Fits.mod hd nr h1 hF.2.2.1 (fun a b v q hv ha hb fa fb => hk a b v q hv (fun j hj => ?_) (fun j hj => ?_) fa fb) (fun j hj hne => ?_), stay s _ hF.2.2.2 fun j hj => ?_⟩
        · rw [ho u.id (hin _ (.inr (.inl rfl))) e, hF.1, if_pos ((hsub _).2 (.inr rfl))]
          rw [mod_tips, mod_sz nr h1 hd]
          exact congrArg (Rec.mk u p l.tips r.tips) (by dsimp only; omega)
        · exact ⟨hin _ (.inl hj), fun e' => hl0 (e' ▸ hj), fun hm => ((hsub j).1 hm).elim (fun hm => (hlr j hj).1 (upL_sub hm)) fun e' => ul (e' ▸ hj)⟩
        · obtain ⟨x, y, z⟩ := ha j hj
          exact ⟨hin _ (.inr (.inr (.inl x))), y, fun hm => ((hsub j).1 hm).elim z fun e' => ur (e' ▸ x)⟩
        · obtain ⟨x, y, z⟩ := hb j hj
          exact ⟨hin _ (.inr (.inr (.inl x))), y, fun hm => ((hsub j).1 hm).elim z fun e' => ur (e' ▸ x)⟩
        · rw [ho j (hin _ (.inr (.inr (.inl hj)))) hne]
          have : j ∈ upL (nd u l r s) k ↔ j ∈ upL r k := (hsub j).trans ⟨fun h => h.elim id fun e' => absurd hj (e' ▸ ur), .inl⟩
          simp only [this]
        · exact ⟨hin _ (.inr (.inr (.inr hj))), fun e' => hs0 (e' ▸ hj), fun hm => ((hsub j).1 hm).elim (fun hm => hrs j (upL_sub hm) hj) fun e' => us (e' ▸ hj)⟩
      · have hl0 : k ∉ l.ids := fun hm => (hlr k hm).2 h1
        have hr0 : k ∉ r.ids := fun hm => hrs k hm h1
        have hup : upL (nd u l r s) k = upL s k := by rw [upL_nd, if_neg e, if_neg hl0, if_neg hr0]
        rw [mod_none hl0, mod_none hr0]
        refine ⟨?_, stay l _ hF.2.1 fun j hj => ?_, stay r _ hF.2.2.1 fun j hj => ?_, Fits.mod hd ns h1 hF.2.2.2 (fun a b v q hv ha hb fa fb => hk a b v q hv (fun j hj => ?_) (fun j hj => ?_) fa fb) (fun j hj hne => ?_)⟩
        · rw [ho u.id (hin _ (.inr (.inl rfl))) e, hF.1, if_neg (fun hm => us (upL_sub (by rw [hup] at hm; exact hm)))]
          rfl
        · exact ⟨hin _ (.inl hj), fun e' => hl0 (e' ▸ hj), fun hm => (hlr j hj).2 (upL_sub (by rw [hup] at hm; exact hm))⟩
        · exact ⟨hin _ (.inr (.inr (.inl hj))), fun e' => hr0 (e' ▸ hj), fun hm => hrs j hj (upL_sub (by rw [hup] at hm; exact hm))⟩
        · obtain ⟨x, y, z⟩ := ha j hj
          exact ⟨hin _ (.inr (.inr (.inr x))), y, by rw [hup]; exact z⟩
        · obtain ⟨x, y, z⟩ := hb j hj
          exact ⟨hin _ (.inr (.inr (.inr x))), y, by rw [hup]; exact z⟩
        · rw [ho j (hin _ (.inr (.inr (.inr hj)))) hne, hup]
/-! ### Those above a unit -/
theorem Fits.par : ∀ {ρ : Id → Rec} {t : Fo} {p : Option Id} {k : Id}, t.ids.Nodup → k ∈ t.ids → Fits ρ p t → (ρ k).par = (upL t k).head?.or p
  | _, nil, _, _, _, h, _ => by cases h
  | ρ, nd u l r s, p, k, hn, h, hF => by
    obtain ⟨nl, nr, ns, ul, ur, us, hlr, hrs⟩ := nodup_nd hn
    rw [upL_nd]
    by_cases e : u.id = k
    · rw [if_pos e, ← e, hF.1]
      rfl
    · rw [if_neg e]
      rcases mem_nd h e with h1 | h1 | h1
      · rw [if_pos h1, Fits.par nl h1 hF.2.1, List.head?_append]
        cases (upL l k).head? <;> rfl
      · rw [if_neg (fun hm => (hlr k hm).1 h1), if_pos h1, Fits.par nr h1 hF.2.2.1, List.head?_append]
        cases (upL r k).head? <;> rfl
      · rw [if_neg (fun hm => (hlr k hm).2 h1), if_neg (fun hm => hrs k hm h1), Fits.par ns h1 hF.2.2.2]
theorem upL_self : ∀ {t : Fo} {k : Id}, t.ids.Nodup → k ∉ upL t k
  | nil, _, _ => List.not_mem_nil
  | nd u l r s, k, hn => by
    obtain ⟨nl, nr, ns, ul, ur, us, hlr, hrs⟩ := nodup_nd hn
    rw [upL_nd]
    split
    · exact List.not_mem_nil
    · rename_i e
      split
      · intro h
        rcases List.mem_append.1 h with h | h
        · exact upL_self nl h
        · exact e (List.mem_singleton.1 h).symm
      · split
        · intro h
          rcases List.mem_append.1 h with h | h
          · exact upL_self nr h
          · exact e (List.mem_singleton.1 h).symm
        · exact upL_self ns
theorem upL_nodup : ∀ {t : Fo} (k : Id), t.ids.Nodup → (upL t k).Nodup
  | nil, _, _ => List.nodup_nil
  | nd u l r s, k, hn => by
    obtain ⟨nl, nr, ns, ul, ur, us, hlr, hrs⟩ := nodup_nd hn
    rw [upL_nd]
    split
    · exact List.nodup_nil
    · split
      · exact List.nodup_append.2 ⟨upL_nodup k nl, List.pairwise_singleton .., fun a ha b hb e => ul (by rw [← List.mem_singleton.1 hb, ← e]; exact upL_sub ha)⟩
      · split
        · exact List.nodup_append.2 ⟨upL_nodup k nr, List.pairwise_singleton .., fun a ha b hb e => ur (by rw [← List.mem_singleton.1 hb, ← e]; exact upL_sub ha)⟩
        · exact upL_nodup k ns
theorem upL_tail : ∀ {t : Fo} {k j : Id} {c : List Id}, t.ids.Nodup → upL t k = j :: c → upL t j = c
  | nil, _, _, _, _, h => by cases h
  | nd u l r s, k, j, c, hn, h => by
    obtain ⟨nl, nr, ns, ul, ur, us, hlr, hrs⟩ := nodup_nd hn
    rw [upL_nd] at h ⊢
    split at h
    · cases h
    · split at h
      · cases hc : upL l k with
        | nil =>
          rw [hc] at h
          cases h
          rw [if_pos rfl]
        | cons j' c' =>
          rw [hc] at h
          cases h
          have hj : j ∈ l.ids := upL_sub (by rw [hc]; exact List.mem_cons_self ..)
          rw [if_neg (fun e : u.id = j => ul (e ▸ hj)), if_pos hj, upL_tail nl hc]
          rfl
      · split at h
        · cases hc : upL r k with
          | nil =>
            rw [hc] at h
            cases h
            rw [if_pos rfl]
          | cons j' c' =>
            rw [hc] at h
            cases h
            have hj : j ∈ r.ids := upL_sub (by rw [hc]; exact List.mem_cons_self ..)
            rw [if_neg (fun e : u.id = j => ur (e ▸ hj)), if_neg (fun hm => (hlr j hm).1 hj), if_pos hj, upL_tail nr hc]
            rfl
        · have hj : j ∈ s.ids := upL_sub (by rw [h]; exact List.mem_cons_self ..)
          rw [if_neg (fun e : u.id = j => us (e ▸ hj)), if_neg (fun hm => (hlr j hm).2 hj), if_neg (fun hm => hrs j hm hj), upL_tail ns h]
/-! ### What is put where -/
def none' : Id := (0, 0)
def lt (a b : Id) : Bool := decide (a.1 < b.1) || (a.1 == b.1 && decide (a.2 < b.2))
def pos (t : Fo) (k : Id) : Nat := t.ids.idxOf k
/-- How far behind a right child's Right stands. -/
def far (t : Fo) (u : Un) : Nat := if u.r = none' then t.sz else t.pos u.r
/-- Does one right child stand ahead of another one? -/
def ahead (t : Fo) (a b : Un) : Bool := if far t a = far t b then lt a.id b.id else decide (far t b < far t a)
/-- Is it a left child (of its Right)? -/
def isL (t : Fo) (u : Un) : Bool := decide (u.r ∈ t.ids) && (!decide (u.l ∈ t.ids) || decide (u.l ∈ upL t u.r))
def put (t : Fo) (u : Un) : Fo :=
  if isL t u then mod u.r (insBy (fun a => lt a.id u.id) u) id t
  else if u.l ∈ t.ids then mod u.l id (insBy (fun a => ahead t a u) u) t
  else insBy (fun a => ahead t a u) u t
def num (n : Nat) : Bool := decide (1 ≤ n) && decide (n ≤ 9007199254740991)
def rightId (k : Id) : Bool := num k.1 && num k.2
/-- May it be inserted? -/
def may (t : Fo) (u : Un) : Bool :=
  rightId u.id && !decide (u.id ∈ t.ids) && (decide (u.l = none') || decide (u.l ∈ t.ids)) && (decide (u.r = none') || decide (u.r ∈ t.ids)) && (decide (u.l = none') || decide (u.r = none') || decide (t.pos u.l < t.pos u.r))
def insert (t : Fo) (u : Un) : Fo × Bool := if may t u then (put t u, true) else (t, false)
/-- Left children stand by their ids. -/
def LS : Fo → Prop
  | nil => True
  | nd _ l r s => l.tips.Pairwise (fun a b => lt a b = true) ∧ LS l ∧ LS r ∧ LS s
structure WF (t : Fo) : Prop where
  nd : t.ids.Nodup
  ls : LS t
  right : ∀ k ∈ t.ids, rightId k = true
end Fo
end Sq
end Go.Proofs.Ytmammcgdjjldbaa
