/- Steps of a disk, of a log on it: those that do not fail, and those that power fails in, plainly. -/
import Derived.Test.YtfocnbmihcnaoaaGreatDoorWaT
namespace Go.Proofs.YtfocnbmihcnaoaaGreatDoor
set_option maxRecDepth 100000
namespace Wa
open Go Sx Wire Dk
theorem mem_keys {n : ByteArray} {f : Fl} : ∀ {es : List (ByteArray × Fl)}, Sx.look es n = some f → n ∈ keys es
  | [], h => by cases h
  | r :: es, h => by
    unfold Sx.look at h
    unfold keys
    rw [List.map_cons]
    split at h
    · rename_i e
      rw [e]
      exact List.mem_cons_self
    · exact List.mem_cons_of_mem _ (mem_keys h)
theorem no_key {n : ByteArray} {es : List (ByteArray × Fl)} (h : Sx.look es n = none) : n ∉ keys es := fun hm => by
  obtain ⟨f, hf⟩ := look_some hm
  rw [hf] at h
  cases h
theorem look_no {n : ByteArray} {es : List (ByteArray × Fl)} (h : n ∉ keys es) : Sx.look es n = none := by
  cases e : Sx.look es n with
  | none => rfl
  | some f => exact absurd (mem_keys e) h
/-- No more than before. -/
structure Le (d' d : Dsk) : Prop where
  room : d'.room = d.room
  used : used d'.es ≤ used d.es
  keys : (keys d'.es).Sublist (keys d.es)
  cut : d'.cut ≤ d.cut
theorem Le.refl (d : Dsk) : Le d d := ⟨rfl, Nat.le_refl _, List.Sublist.refl _, Int.le_refl _⟩
theorem Le.trans {a b c : Dsk} (h : Le a b) (k : Le b c) : Le a c := ⟨h.room.trans k.room, Nat.le_trans h.used k.used, h.keys.trans k.keys, Int.le_trans h.cut k.cut⟩
theorem es_done (d : Dsk) (es : List (ByteArray × Fl)) : (Dsk.done { d with es := es }).es = es := done_es _
theorem Le.done {d : Dsk} {es : List (ByteArray × Fl)} (hu : Dk.used es ≤ Dk.used d.es) (hk : (Dk.keys es).Sublist (Dk.keys d.es)) : Le (Dsk.done { d with es := es }) d :=
  ⟨done_room _, by rw [es_done]; exact hu, by rw [es_done]; exact hk, cut_done _⟩
theorem Le.put1 {d : Dsk} {n : ByteArray} {f f' : Fl} (hl : Sx.look d.es n = some f') (hf : f.b.length ≤ f'.b.length) : Le (Dsk.done { d with es := Sx.put d.es n f }) d := by
  refine .done ?_ ?_
  · have := used_put n f d.es
    rw [hl] at this
    simp only [Option.getD_some] at this
    omega
  · rw [put_keys (mem_keys hl)]
    exact List.Sublist.refl _
theorem Le.del1 (d : Dsk) (n : ByteArray) : Le (Dsk.done { d with es := Sx.del d.es n }) d := .done (by have := used_del n d.es; omega) (keys_del _ _)
theorem Le.sync (d : Dsk) (n : ByteArray) : Le (d.sync n).2 d := by
  unfold Dsk.sync
  split
  · rename_i h
    obtain ⟨_, f, hf, e⟩ := isE_zero h
    rw [e]
    exact .put1 hf (Nat.le_refl _)
  · exact .refl _
theorem Le.delete (d : Dsk) (n : ByteArray) : Le (d.delete n).2 d := by
  unfold Dsk.delete
  split
  · exact .del1 _ _
  · exact .refl _
theorem Le.truncate (d : Dsk) (n : ByteArray) (z : Int) : Le (d.truncate n z).2 d := by
  unfold Dsk.truncate
  split
  · rename_i h
    obtain ⟨_, f, hf, e⟩ := isE_zero h
    rw [e]
    exact .put1 hf (by dsimp only; rw [List.length_take]; omega)
  · exact .refl _
theorem Le.syncM : ∀ (fs : List ByteArray) (d : Dsk), Le (syncM d fs).2.2 d
  | [], d => .refl _
  | n :: r, d => by
    unfold Wa.syncM
    split
    · exact (Le.syncM r _).trans (.sync _ _)
    · exact .sync _ _
theorem Le.delM : ∀ (fs : List ByteArray) (d : Dsk), Le (delM d fs).2 d
  | [], d => .refl _
  | n :: r, d => by
    unfold Wa.delM
    split
    · exact .delete _ _
    · exact (Le.delM r _).trans (.delete _ _)
theorem Le.delM2 (m : List UInt8) (fs : List ByteArray) : ∀ (ss : List (List UInt8)) (d : Dsk), Le (delM2 m fs d ss).2 d
  | [], d => .refl _
  | s :: r, d => by
    unfold Wa.delM2
    split
    · split
      · exact (Le.delM2 m fs r _).trans (.delete _ _)
      · exact .delete _ _
    · exact Le.delM2 m fs r d
theorem Le.truM (d : Dsk) (last : Nat) (n : ByteArray) (r : List ByteArray) : Le (truM d last n r).2 d := by
  unfold Wa.truM
  split
  · exact .truncate _ _ _
  · exact .refl _
theorem Le.synM (last : Nat) : ∀ (fs : List ByteArray) (d : Dsk), Le (synM d last fs).2 d
  | [], d => .refl _
  | n :: r, d => by
    unfold Wa.synM
    split
    · split
      · exact (Le.synM last r _).trans ((Le.sync _ _).trans (.truM _ _ _ _))
      · exact (Le.sync _ _).trans (.truM _ _ _ _)
    · exact .truM _ _ _ _
theorem Le.cleanM (m : List UInt8) (fs : List ByteArray) (d : Dsk) (last : Nat) : Le (cleanM m fs d last).2 d := by
  unfold Wa.cleanM
  split
  · exact (Le.synM _ _ _).trans (.delM2 _ _ _ _)
  · exact .delM2 _ _ _ _
/-- A disk as logs leave it: names, sizes. -/
structure Gd (d : Dsk) (u c : Nat) : Prop where
  fine : Fine d u c
  nodup : (keys d.es).Nodup
  kn : ∀ n ∈ keys d.es, Kn n
theorem key_mem {es : List (ByteArray × Fl)} {p : ByteArray × Fl} (h : p ∈ es) : p.1 ∈ keys es := List.mem_map.2 ⟨p, h, rfl⟩
theorem Gd.le {d d' : Dsk} {u c : Nat} (h : Gd d u c) (k : Le d' d) : Gd d' u c := by
  refine ⟨⟨Int.lt_of_le_of_lt k.cut h.fine.cut, Nat.le_trans k.used h.fine.used, ?_, fun p hp => ?_⟩, k.keys.nodup h.nodup, fun n hn => h.kn n (k.keys.subset hn)⟩
  · have := k.keys.length_le
    have h2 := h.fine.len
    unfold keys at this
    rw [List.length_map, List.length_map] at this
    omega
  · have h1 := k.keys.subset (key_mem hp)
    obtain ⟨q, hq, he⟩ := List.mem_map.1 h1
    rw [← he]
    exact h.fine.names q hq
theorem Gd.mono {d : Dsk} {u c u' c' : Nat} (h : Gd d u c) (hu : u ≤ u') (hc : c ≤ c') : Gd d u' c' := ⟨h.fine.mono hu hc, h.nodup, h.kn⟩
theorem Gd.used {d : Dsk} {u c u' : Nat} (h : Gd d u c) (hu : used d.es ≤ u') : Gd d u' c := ⟨⟨h.fine.cut, hu, h.fine.len, h.fine.names⟩, h.nodup, h.kn⟩
theorem put_nodup {es : List (ByteArray × Fl)} (h : (keys es).Nodup) (n : ByteArray) (f : Fl) : (keys (Sx.put es n f)).Nodup := by
  by_cases hm : n ∈ keys es
  · rw [put_keys hm]
    exact h
  · rw [put_none (look_no hm)]
    unfold keys at h hm ⊢
    rw [List.map_append, List.nodup_append]
    refine ⟨h, by simp, fun a ha b hb e => ?_⟩
    rw [List.map_cons, List.map_nil, List.mem_singleton] at hb
    rw [e, hb] at ha
    exact hm ha
theorem put_key {es : List (ByteArray × Fl)} {n x : ByteArray} {f : Fl} (h : x ∈ keys (Sx.put es n f)) : x = n ∨ x ∈ keys es := by
  obtain ⟨p, hp, rfl⟩ := List.mem_map.1 h
  rcases put_mem hp with rfl | hp
  · exact .inl rfl
  · exact .inr (key_mem hp)
theorem Gd.append {d : Dsk} {u c : Nat} (h : Gd d u c) {n : ByteArray} (hk : Kn n) (b : List UInt8) : Gd (d.append n b).2 (u + b.length) (c + 1) := by
  refine ⟨h.fine.append n b, ?_, ?_⟩
  · unfold Dsk.append
    split
    · exact h.nodup
    · split
      · split
        · exact h.nodup
        · rw [es_done]
          exact put_nodup h.nodup _ _
      · exact h.nodup
  · unfold Dsk.append
    split
    · exact h.kn
    · split
      · split
        · exact h.kn
        · rw [es_done]
          intro x hx
          rcases put_key hx with rfl | hx
          · exact hk
          · exact h.kn x hx
      · exact h.kn
theorem Gd.rename {d : Dsk} {u c : Nat} (h : Gd d u c) {a b : ByteArray} (hk : Kn b) : Gd (d.rename a b).2 u (c + 1) := by
  have hd := keys_del d.es a
  refine ⟨h.fine.rename a b, ?_, ?_⟩
  · unfold Dsk.rename
    split
    · split
      · rw [es_done]
        exact put_nodup (hd.nodup h.nodup) _ _
      · exact h.nodup
    · exact h.nodup
  · unfold Dsk.rename
    split
    · split
      · rw [es_done]
        intro x hx
        rcases put_key hx with rfl | hx
        · exact hk
        · exact h.kn x (hd.subset hx)
      · exact h.kn
    · exact h.kn
theorem Gd.make3 {d : Dsk} {g : Lg} {u c : Nat} (h : Gd d u c) (h1 : Kn (fresh g.name)) (h2 : Kn (nm g.name (g.age + 1) 0)) (b : List UInt8) : Gd (make3 g d b).2 (u + (20 + b.length)) (c + 2) := by
  have s1 := h.append h1 (rec1 0 b)
  rw [rec_len] at s1
  have s2 := s1.le (Le.sync _ (fresh g.name))
  have key : ∀ s : Int × Dsk, Gd s.2 (u + (20 + b.length)) (c + 1) → Gd (if s.1 = 0 then s.2.rename (fresh g.name) (nm g.name (g.age + 1) 0) else s).2 (u + (20 + b.length)) (c + 2) := fun s hs => by
    split
    · exact hs.rename h2
    · exact hs.mono (Nat.le_refl _) (by omega)
  refine key (if (d.append (fresh g.name) (rec1 0 b)).1 = 0 then (d.append (fresh g.name) (rec1 0 b)).2.sync (fresh g.name) else d.append (fresh g.name) (rec1 0 b)) ?_
  split
  · exact s2
  · exact s1
theorem Gd.restart {d : Dsk} {g : Lg} {u c : Nat} (h : Gd d u c) (h1 : Kn (fresh g.name)) (h2 : Kn (nm g.name (g.age + 1) 0)) (b : List UInt8) : Gd (g.restart d b).2.2 (u + (20 + b.length)) (c + 2) := by
  have s := h.make3 h1 h2 b
  unfold Lg.restart
  split
  · exact h.mono (by omega) (by omega)
  · split
    · exact s.le (.delM _ _)
    · exact s.le (.delete _ _)
theorem Gd.sync {d : Dsk} {g : Lg} {u c : Nat} (h : Gd d u c) : Gd (g.sync d).2.2 u c := by
  unfold Lg.sync
  split
  · exact h
  · exact h.le (.syncM _ _)
theorem Gd.lappend {d : Dsk} {g : Lg} {u c : Nat} (h : Gd d u c) {b : List UInt8} (h1 : Kn (g.last1 b)) : Gd (g.append d b).2.2 (u + (20 + b.length)) (c + 1) := by
  have s := h.append h1 (rec1 g.recs b)
  rw [rec_len] at s
  unfold Lg.append
  split
  · exact h.mono (by omega) (by omega)
  · split
    · exact h.mono (by omega) (by omega)
    · split
      · exact s
      · exact s
theorem used_crN (keep : List Int) (ns : List (List UInt8)) (es : List (ByteArray × Fl)) : ∀ i, used (crN keep ns es i) ≤ used es
  | 0 => Nat.le_refl _
  | i + 1 => by
    have ih := used_crN keep ns es i
    unfold crN
    have h := used_put (nameAt ns i) (crF keep i ((Sx.look (crN keep ns es i) (nameAt ns i)).getD f0)) (crN keep ns es i)
    have h2 : (crF keep i ((Sx.look (crN keep ns es i) (nameAt ns i)).getD f0)).b.length ≤ ((Sx.look (crN keep ns es i) (nameAt ns i)).getD f0).b.length := by
      unfold crF
      dsimp only
      rw [List.length_take]
      omega
    omega
theorem crash_keys (d : Dsk) (keep : List Int) : keys (d.crash keep).es = keys d.es := crN_keys keep d.es _ (by rw [keysS_len]; exact Nat.le_refl _)
theorem Gd.crash {d : Dsk} {u c : Nat} (h : Gd d u c) (keep : List Int) : Gd (d.crash keep) u c ∧ Free (d.crash keep) := by
  have hk := crash_keys d keep
  have hl : (d.crash keep).es.length = d.es.length := keys_len hk
  refine ⟨⟨⟨by show (-1 : Int) < _; decide, Nat.le_trans (used_crN _ _ _ _) h.fine.used, by rw [hl]; exact h.fine.len, keys_names hk h.fine.names⟩, by rw [hk]; exact h.nodup, by rw [hk]; exact h.kn⟩, ⟨rfl, by show (-1 : Int) ≤ 0; decide, by rw [hk]; exact h.nodup⟩⟩
theorem crash_none {d : Dsk} {n : ByteArray} (h : Sx.look d.es n = none) (keep : List Int) : Sx.look (d.crash keep).es n = none := look_no (by rw [crash_keys]; exact no_key h)
theorem crash_some {d : Dsk} {n : ByteArray} {f : Fl} (h : Sx.look d.es n = some f) (hs : f.safe ≤ f.b.length) (keep : List Int) : ∃ f', Sx.look (d.crash keep).es n = some f' ∧ f.safe ≤ f'.safe ∧ f'.safe ≤ f'.b.length ∧ ∃ k, f'.b = f.b.take k := by
  have hm : n ∈ keys (d.crash keep).es := by rw [crash_keys]; exact mem_keys h
  obtain ⟨f', hf'⟩ := look_some hm
  have e : fileOf d.es n = f := by unfold fileOf; rw [h]; rfl
  have := crN_left2 keep (keysS d.es) d.es n (by rw [e]; exact hs) d.es.length
  have e' : fileOf (crN keep (keysS d.es) d.es d.es.length) n = f' := by
    unfold fileOf
    have : Sx.look (crN keep (keysS d.es) d.es d.es.length) n = some f' := hf'
    rw [this]
    rfl
  rw [e', e] at this
  exact ⟨f', hf', this.1, this.2.1, this.2.2⟩
theorem crash_full {d : Dsk} {n : ByteArray} {f : Fl} (h : Sx.look d.es n = some f) (hs : f.safe = f.b.length) (keep : List Int) : ∃ f', Sx.look (d.crash keep).es n = some f' ∧ f'.b = f.b ∧ f'.safe = f'.b.length := by
  obtain ⟨f', h1, h2, h3, k, h4⟩ := crash_some h (by omega) keep
  have h5 : f'.b.length = min k f.b.length := by rw [h4, List.length_take]
  refine ⟨f', h1, ?_, by omega⟩
  rw [h4, List.take_of_length_le (by omega)]
theorem mem_list {d : Dsk} (hd : d.dead = false) {s : List UInt8} : s ∈ d.list ↔ bs s ∈ keys d.es := by
  unfold Dsk.list
  rw [hd, if_neg (by simp)]
  unfold keysS
  rw [(List.mergeSort_perm _ _).mem_iff, keysB_eq, List.mem_map]
  constructor
  · rintro ⟨k, hk, rfl⟩
    have : bs k.data.toList = k := rfl
    rw [this]
    exact hk
  · exact fun h => ⟨bs s, h, rfl⟩
theorem list_nodup {d : Dsk} (hn : (keys d.es).Nodup) : d.list.Nodup := by
  unfold Dsk.list
  split
  · exact List.nodup_nil
  · unfold keysS
    rw [(List.mergeSort_perm _ _).nodup_iff, keysB_eq]
    refine nodup_on ?_ hn
    intro a _ b _ h
    have h1 : bs a.data.toList = bs b.data.toList := by rw [h]
    exact h1
theorem Gd.names {d : Dsk} {u c : Nat} (h : Gd d u c) (hc : c ≤ 1000000) : Names d := ⟨h.fine.names, Nat.le_trans h.fine.len hc⟩
theorem Gd.list {d : Dsk} {u c : Nat} (h : Gd d u c) (hd : d.dead = false) : ∀ s ∈ d.list, Kn (bs s) := fun _ hs => h.kn _ ((mem_list hd).1 hs)
theorem Gd.size {d : Dsk} {u c : Nat} (h : Gd d u c) {z : Nat} (hu : u ≤ z) : ∀ n f, Sx.look d.es n = some f → f.b.length ≤ z := fun _ _ hf => Nat.le_trans (used_look _ _ _ hf) (Nat.le_trans h.fine.used hu)
theorem maxAge_le {m : List UInt8} {A : Nat} : ∀ (l : List (List UInt8)) (x : Nat), x ≤ A → (∀ s ∈ l, ∀ y, ageP m (bs s) = some y → y ≤ A) → maxAge m x l ≤ A
  | [], x, hx, _ => hx
  | s :: r, x, hx, h => by
    unfold maxAge
    refine maxAge_le r _ ?_ fun t ht => h t (List.mem_cons_of_mem _ ht)
    split
    · cases e : ageP m (bs s) with
      | none => exact Nat.max_le.2 ⟨hx, Nat.zero_le _⟩
      | some y => exact Nat.max_le.2 ⟨hx, h s List.mem_cons_self y e⟩
    · exact hx
theorem maxAge_ge {m : List UInt8} {A : Nat} : ∀ (l : List (List UInt8)) (x : Nat), (A ≤ x ∨ ∃ s ∈ l, ageP m (bs s) = some A) → A ≤ maxAge m x l
  | [], x, h => by
    rcases h with h | ⟨s, hs, _⟩
    · exact h
    · exact absurd hs List.not_mem_nil
  | s :: r, x, h => by
    unfold maxAge
    refine maxAge_ge r _ ?_
    rcases h with h | ⟨t, ht, e⟩
    · left
      split
      · exact Nat.le_trans h (Nat.le_max_left _ _)
      · exact h
    · rcases List.mem_cons.1 ht with rfl | ht
      · left
        rw [e]
        exact Nat.le_max_right _ _
      · exact .inr ⟨t, ht, e⟩
theorem maxAge_is {d : Dsk} {m : List UInt8} {A : Nat} (hd : d.dead = false) (h1 : ∀ n ∈ keys d.es, ∀ x, ageP m n = some x → x ≤ A) (h2 : A = 0 ∨ ∃ n ∈ keys d.es, ageP m n = some A) : maxAge m 0 d.list = A := by
  refine Nat.le_antisymm (maxAge_le _ _ (Nat.zero_le _) fun s hs y => h1 _ ((mem_list hd).1 hs) y) (maxAge_ge _ _ ?_)
  rcases h2 with rfl | ⟨n, hn, e⟩
  · exact .inl (Nat.le_refl _)
  · exact .inr ⟨n.data.toList, (mem_list hd).2 hn, e⟩
/-- What Open wants of a disk, and what it finds there. -/
structure Opens (d : Dsk) (m : List UInt8) (a k : Nat) (L : List (List UInt8)) (z : Nat) : Prop where
  age : maxAge m 0 d.list = a
  lt : a < 10000000
  found : Found d m a k L z
  few : L.length ≤ 999
  stop : ∀ i, 1000 ≤ i → i < 2000000000 → Sx.look d.es (nm m a i) = none
theorem found_few {d : Dsk} {m : List UInt8} {a k : Nat} {L : List (List UInt8)} {z : Nat} (h : Found d m a k L z) : k ≤ L.length := by
  rcases h with ⟨hr, _⟩ | ⟨k', L', M, f, l', hr, hs, _, hn, _, rfl, rfl, _⟩
  · exact run_len hr
  · have := run_len hr
    have h2 : 0 < M.length := List.length_pos_iff.2 hn
    rw [List.length_append]
    omega
theorem synM_ok (last : Nat) : ∀ (fs : List ByteArray) (d : Dsk), Free d → fs.Nodup → (∀ n ∈ fs, ∃ f, Sx.look d.es n = some f) →
    ∃ d', synM d last fs = (0, d') ∧ Free d' ∧ (∀ n, n ∉ fs → Sx.look d'.es n = Sx.look d.es n) ∧ ∀ n ∈ fs, ∀ f, Sx.look d.es n = some f → ∃ f', Sx.look d'.es n = some f' ∧ f'.safe = f'.b.length ∧ ((fs.getLast? = some n → f.b.length ≤ last) → f'.b = f.b)
  | [], d, h, _, _ => ⟨d, rfl, h, fun _ _ => rfl, fun n hn => absurd hn List.not_mem_nil⟩
  | n :: r, d, h, hn, hk => by
    rw [List.nodup_cons] at hn
    obtain ⟨f, hf⟩ := hk n List.mem_cons_self
    unfold synM
    by_cases hr : r = []
    · subst hr
      have e1 : truM d last n [] = (0, { d with es := Sx.put d.es n ⟨f.b.take (cutTo f last), min f.safe (cutTo f last)⟩ }) := by
        unfold truM Dsk.truncate
        rw [if_pos rfl, if_pos (isE_ok h hf).1, (isE_ok h hf).2]
        have : Dsk.done { d with es := Sx.put d.es n ⟨f.b.take (cutTo f last), min f.safe (cutTo f last)⟩ } = { d with es := Sx.put d.es n ⟨f.b.take (cutTo f last), min f.safe (cutTo f last)⟩ } := done_free h.cut
        rw [this]
      have h1 : Free { d with es := Sx.put d.es n ⟨f.b.take (cutTo f last), min f.safe (cutTo f last)⟩ } := h.sync hf
      have hf1 : Sx.look (Sx.put d.es n ⟨f.b.take (cutTo f last), min f.safe (cutTo f last)⟩) n = some ⟨f.b.take (cutTo f last), min f.safe (cutTo f last)⟩ := by rw [look_put, if_pos rfl]
      have e2 := sync_ok h1 hf1
      have h2 : Free { d with es := Sx.put (Sx.put d.es n ⟨f.b.take (cutTo f last), min f.safe (cutTo f last)⟩) n ⟨f.b.take (cutTo f last), (f.b.take (cutTo f last)).length⟩ } := h1.sync hf1
      rw [e1, if_pos rfl]
      dsimp only at e2 ⊢
      rw [e2, if_pos rfl]
      refine ⟨_, rfl, h2, fun x hx => ?_, fun x hx g hg => ?_⟩
      · have hne : n ≠ x := fun e => hx (e ▸ List.mem_cons_self)
        show Sx.look (Sx.put (Sx.put d.es n _) n _) x = _
        rw [look_put, if_neg hne, look_put, if_neg hne]
      · obtain rfl : x = n := by simpa using hx
        rw [hf] at hg
        cases hg
        refine ⟨⟨f.b.take (cutTo f last), (f.b.take (cutTo f last)).length⟩, ?_, rfl, fun hl => ?_⟩
        · show Sx.look (Sx.put (Sx.put d.es x _) x _) x = _
          rw [look_put, if_pos rfl]
        · have := hl rfl
          show f.b.take (cutTo f last) = f.b
          unfold cutTo
          rw [List.take_of_length_le (by omega)]
    · have e1 : truM d last n r = (0, d) := by
        unfold truM
        rw [if_neg hr]
      rw [e1, if_pos rfl]
      dsimp only
      rw [sync_ok h hf, if_pos rfl]
      dsimp only
      obtain ⟨d', h1, h2, h3, h4⟩ := synM_ok last r _ (h.sync (f' := ⟨f.b, f.b.length⟩) hf) hn.2 (fun x hx => by
        obtain ⟨g, hg⟩ := hk x (List.mem_cons_of_mem _ hx)
        refine ⟨g, ?_⟩
        show Sx.look (Sx.put d.es n _) x = _
        rw [look_put, if_neg (fun e => hn.1 (by rw [e]; exact hx))]
        exact hg)
      refine ⟨d', h1, h2, fun x hx => ?_, fun x hx g hg => ?_⟩
      · rw [h3 x (fun h9 => hx (List.mem_cons_of_mem _ h9))]
        show Sx.look (Sx.put d.es n _) x = _
        rw [look_put, if_neg (fun e => hx (by rw [e]; exact List.mem_cons_self))]
      · have hgl : (n :: r).getLast? = r.getLast? := by
          cases r with
          | nil => exact absurd rfl hr
          | cons y ys => rw [List.getLast?_cons_cons]
        rw [hgl]
        rcases List.mem_cons.1 hx with rfl | hx
        · rw [hf] at hg
          cases hg
          refine ⟨⟨f.b, f.b.length⟩, ?_, rfl, fun _ => rfl⟩
          rw [h3 x hn.1]
          show Sx.look (Sx.put d.es x _) x = _
          rw [look_put, if_pos rfl]
        · refine h4 x hx g ?_
          show Sx.look (Sx.put d.es n _) x = _
          rw [look_put, if_neg (fun e => hn.1 (by rw [e]; exact hx))]
          exact hg
theorem cleanM_ok (m : List UInt8) (fs : List ByteArray) (last : Nat) (d : Dsk) (h : Free d) (hn : fs.Nodup) (hk : ∀ n ∈ fs, ∃ f, Sx.look d.es n = some f) :
    ∃ d', cleanM m fs d last = (0, d') ∧ Free d' ∧ (∀ n, own m n → n ∉ fs → Sx.look d'.es n = none) ∧ (∀ n, ¬ own m n → n ∉ fs → Sx.look d'.es n = Sx.look d.es n) ∧ ∀ n ∈ fs, ∀ f, Sx.look d.es n = some f → ∃ f', Sx.look d'.es n = some f' ∧ f'.safe = f'.b.length ∧ ((fs.getLast? = some n → f.b.length ≤ last) → f'.b = f.b) := by
  obtain ⟨d1, h1, h2, _, h4, h5⟩ := delM2_ok m fs d.list d h (list_nodup h.nodup) (fun s hs => look_some ((mem_list h.dead).1 hs))
  unfold cleanM
  rw [h1, if_pos rfl]
  dsimp only
  have keep : ∀ n ∈ fs, Sx.look d1.es n = Sx.look d.es n := fun n hn => h5 n (.inl fun hm => hm.2 hn)
  obtain ⟨d', k1, k2, k3, k4⟩ := synM_ok last fs d1 h2 hn (fun n hn => by rw [keep n hn]; exact hk n hn)
  refine ⟨d', k1, k2, fun n ho hx => ?_, fun n ho hx => ?_, fun n hx f hf => k4 n hx f (by rw [keep n hx]; exact hf)⟩
  · rw [k3 n hx]
    by_cases hl : n ∈ keys d.es
    · exact h4 n ⟨n.data.toList, (mem_list h.dead).2 hl, rfl⟩ ⟨ho, hx⟩
    · rw [h5 n (.inr (fun ⟨s, hs, e⟩ => hl (e ▸ (mem_list h.dead).1 hs)))]
      exact look_no hl
  · rw [k3 n hx, h5 n (.inl fun hm => ho hm.1)]
theorem Opens.clean {d : Dsk} {m : List UInt8} {a k : Nat} {L : List (List UInt8)} {z : Nat} (h : Opens d m a k L z) (hm : 46 ∉ m) (hf : Free d) :
    ∃ d', cleanM m (segs m a k) d z = (0, d') ∧ Free d' ∧ (∀ n, own m n → n ∉ segs m a k → Sx.look d'.es n = none) ∧ (∀ n, ¬ own m n → n ∉ segs m a k → Sx.look d'.es n = Sx.look d.es n) ∧ ∀ n ∈ segs m a k, ∀ f, Sx.look d.es n = some f → ∃ f', Sx.look d'.es n = some f' ∧ f'.safe = f'.b.length ∧ (((segs m a k).getLast? = some n → f.b.length ≤ z) → f'.b = f.b) :=
  cleanM_ok m _ z d hf (segs_nodup hm (by have := h.lt; omega) (by have := found_few h.found; have := h.few; omega)) (found_has h.found)
end Wa
end Go.Proofs.YtfocnbmihcnaoaaGreatDoor
