/- What is wanted for WalEvery: a Sync that power may fail in; rows of what is read. -/
import Derived.Test.YtfocnbmihcnaoaaGreatDoorWaZ
namespace Go.Proofs.YtfocnbmihcnaoaaGreatDoor
set_option maxRecDepth 100000
namespace Wa
open Go Go.RowKit Sx Wire Dk
theorem sync_one {d : Dsk} {g : Lg} {k : Nat} {L : List (List UInt8)} {n : ByteArray} (hd : d.dead = false) (ho : Ok d g k L) (hdi : g.dirty = [n]) (hm : Nice g.name) (ha : g.age < 10000000) (hL : L.length < 10000000) :
    ∃ d', g.sync d = (0, { g with dirty := [], dead := false }, d') ∧ Le d' d ∧ (∀ x, ¬ own g.name x → Sx.look d'.es x = Sx.look d.es x) ∧ Ok d' { g with dirty := [], dead := false } k L := by
  have hnf := ho.dsub n (by rw [hdi]; simp)
  obtain ⟨f, hf⟩ := ho.has n hnf
  have hs := sync_step hd hf
  have hfell : (g.fell d).dead = false := by
    unfold Lg.fell
    dsimp only
    rw [ho.dead, hd]
    rfl
  obtain ⟨i, hi, hni⟩ := mem_segs.1 (by rw [← ho.files]; exact hnf)
  have hkL := run_len ho.sg.run
  have hown : own g.name n := hni ▸ hm.own ha (by omega)
  have hle : Le (Dsk.done { d with es := Sx.put d.es n ⟨f.b, f.b.length⟩ }) d := .put1 hf (Nat.le_refl _)
  have hlk : ∀ x, Sx.look (Dsk.done { d with es := Sx.put d.es n ⟨f.b, f.b.length⟩ }).es x = if n = x then some ⟨f.b, f.b.length⟩ else Sx.look d.es x := fun x => by rw [es_done, look_put]
  generalize Dsk.done { d with es := Sx.put d.es n ⟨f.b, f.b.length⟩ } = d2 at hs hle hlk
  refine ⟨d2, ?_, hle, fun x hx => by rw [hlk, if_neg (fun e : n = x => hx (e ▸ hown))], ⟨ho.files, ⟨run_keep ho.sg.run fun j hj f2 hf2 => ?_, fun x h1 h2 => ?_, ho.sg.top⟩, ho.recs, rfl, fun x hx _ f2 hf2 => ?_, fun x hx => absurd hx List.not_mem_nil, Nat.zero_le _⟩⟩
  · unfold Lg.sync
    have hsm : syncM d g.dirty = (0, [], d2) := by
      rw [hdi]
      unfold syncM
      rw [hs, if_pos rfl]
      rfl
    rw [if_neg (by rw [hfell]; simp), hsm]
    rfl
  · rw [hlk]
    split
    · rename_i e
      rw [← e, hf] at hf2
      cases hf2
      exact ⟨_, rfl, rfl⟩
    · exact ⟨f2, hf2, rfl⟩
  · rw [hlk, if_neg (fun e => h2 (by rw [← e]; show n ∈ segs g.name g.age k; rw [← ho.files]; exact hnf))]
    exact ho.sg.only x h1 h2
  · rw [hlk] at hf2
    split at hf2
    · cases hf2
      rfl
    · rename_i e
      exact ho.dirty x hx (by rw [hdi]; simpa using Ne.symm e) f2 hf2
theorem look_mem {n : ByteArray} {f : Fl} : ∀ {es : List (ByteArray × Fl)}, Sx.look es n = some f → (n, f) ∈ es
  | [], h => by cases h
  | r :: es, h => by
    unfold Sx.look at h
    split at h
    · rename_i e
      cases h
      rw [← e]
      exact List.mem_cons_self
    · exact List.mem_cons_of_mem _ (look_mem h)
theorem dk_safe {w : World} {p mb : Nat} {d : Dsk} (h : DkAt w p mb d) : ∀ n f, Sx.look d.es n = some f → f.safe ≤ f.b.length := by
  intro n f hf
  obtain ⟨arr, clock, _, _, hA⟩ := h.2
  have hm := look_mem hf
  revert hA hm
  generalize arr.toList = l
  generalize d.es = m
  intro hA hm
  induction l generalizing m with
  | nil =>
    cases m with
    | nil => exact absurd hm List.not_mem_nil
    | cons q m => exact hA.elim
  | cons x l ih =>
    cases m with
    | nil => exact hA.elim
    | cons q m =>
      rcases List.mem_cons.1 hm with h9 | h9
      · obtain ⟨_, _, _, _, _, hs⟩ := hA.1.2
        rw [← h9] at hs
        exact hs.2
      · exact ih m hA.2 h9
theorem ev_restart {d : Dsk} {g : Lg} {k : Nat} {Ah : List (List UInt8)} {u c : Nat} {b : List UInt8} (hok : Ok d g k Ah) (hgd : Gd d u c) (hm : Nice g.name) (hag : g.age = 0) (hlen : Ah.length ≤ 12) (hdi : g.dirty = []) (hb : b.length ≤ 1048576) (hr : ((used d.es + (20 + b.length) : Nat) : Int) ≤ d.room) (h4 : used d.es + (20 + b.length) ≤ 4194304) (keep : List Int) :
    ∃ a k' L z, Opens ((g.restart d b).2.2.crash keep) g.name a k' L z ∧ ((g.restart d b).1 = 0 ∨ (g.restart d b).1 = 43) ∧ ((g.restart d b).2.2.dead = false → (g.restart d b).1 = 0) ∧ (L = [b] ∨ ((g.restart d b).1 = 43 ∧ L = Ah)) := by
  cases hd : d.dead with
  | true =>
    have hres : g.restart d b = (43, g.fell d, d) := by
      unfold Lg.restart
      have hfell : (g.fell d).dead = true := by
        unfold Lg.fell
        dsimp only
        rw [hd, Bool.or_true]
      rw [if_pos hfell]
    rw [hres]
    exact ⟨_, _, _, _, open_same hok hm (by omega) (by omega) hdi (fun _ _ => rfl) keep, .inr rfl, fun h => Bool.noConfusion ((show d.dead = false from h).symm.trans hd), .inr ⟨rfl, rfl⟩⟩
  | false =>
    obtain ⟨e, g', d', he, hlive, hres⟩ := restart_gen hd hgd.nodup hok hm (by omega) (by omega) hr h4
    rw [he]
    rcases hres with ⟨rfl, hx, _, hs⟩ | ⟨hN, _, hnone, hend⟩
    · exact ⟨_, _, _, _, open_same hok hm (by omega) (by omega) hdi hs keep, .inr rfl, fun h => Bool.noConfusion ((show d'.dead = false from h).symm.trans hx), .inr ⟨rfl, rfl⟩⟩
    · refine ⟨_, _, _, _, open_anew hok hm (by omega) (by omega) hb hN hnone keep, ?_, ?_, .inl rfl⟩
      · rcases hend with ⟨rfl, _⟩ | ⟨rfl, _⟩
        · exact .inr rfl
        · exact .inl rfl
      · intro h
        rcases hend with ⟨rfl, hx, _⟩ | ⟨rfl, _⟩
        · have hx' : d'.dead = true := hx
          have h' : d'.dead = false := h
          rw [hx'] at h'
          cases h'
        · rfl
theorem ev_sync {d d1 : Dsk} {g g1 : Lg} {k i : Nat} {Ah : List (List UInt8)} {b : List UInt8} (hok : Ok d g k Ah) (hA : Apd d g k Ah b i g1 d1) (hm : Nice g.name) (hag : g.age = 0) (hlen : Ah.length ≤ 12) (hdi : g.dirty = []) (hb : b.length ≤ 1048576) (hsf : ∀ n f, Sx.look d1.es n = some f → f.safe ≤ f.b.length) (keep : List Int) :
    ∃ a k' L z, Opens ((g1.sync d1).2.2.crash keep) g.name a k' L z ∧ ((g1.sync d1).1 = 0 ∨ (g1.sync d1).1 = 43) ∧ ((g1.sync d1).2.2.dead = false → (g1.sync d1).1 = 0) ∧ (L = Ah ++ [b] ∨ ((g1.sync d1).1 = 43 ∧ L = Ah)) := by
  cases hd : d1.dead with
  | true =>
    have hres : g1.sync d1 = (43, g1.fell d1, d1) := by
      unfold Lg.sync
      have hfell : (g1.fell d1).dead = true := by
        unfold Lg.fell
        dsimp only
        rw [hd, Bool.or_true]
      rw [if_pos hfell]
    rw [hres]
    obtain ⟨k', L', z', h1, h2⟩ := open_torn hok hm (by omega) (by omega) hb hdi hA hsf keep
    refine ⟨_, k', L', z', h1, .inr rfl, fun h => ?_, ?_⟩
    · have h' : d1.dead = false := h
      rw [hd] at h'
      cases h'
    · rcases h2 with h2 | h2
      · exact .inr ⟨rfl, h2⟩
      · exact .inl h2
  | false =>
    have hdi1 : g1.dirty = [nm g.name g.age i] := by
      rw [hA.dirty, hdi, addN_out (by simp)]
      rfl
    have hkl : (Ah ++ [b]).length ≤ 13 := by
      rw [List.length_append, List.length_singleton]
      omega
    obtain ⟨d2, h1, h2, h3, h4⟩ := sync_one hd hA.ok hdi1 (by rw [hA.name]; exact hm) (by rw [hA.age]; omega) (by omega)
    rw [h1]
    have h5 := open_same h4 (d' := d2) (by show Nice g1.name; rw [hA.name]; exact hm) (by show g1.age < 10000000; rw [hA.age]; omega) (by omega) rfl (fun _ _ => rfl) keep
    have h5' : Opens (d2.crash keep) g1.name g1.age (i + 1) (Ah ++ [b]) g1.size := h5
    rw [hA.name] at h5'
    exact ⟨_, _, _, _, h5', .inl rfl, fun _ => rfl, .inl rfl⟩
/-- The values in a row that is read. -/
theorem bs_vals {w : World} {a : Option Addr} {c : Nat} {L : List (List UInt8)} (h : BsS w (.slice a L.length c) L) (hf : (∃ b off, a = some ⟨b, off, none⟩) ∨ (a = none ∧ L = [] ∧ c = 0)) :
    ∃ us : List Value, us.length = L.length ∧ SRows w 1 (.slice a L.length c) (us.map fun u => [u]) ∧ All2 (fun u x => By w u x) us L := by
  obtain ⟨a', c', e, hr⟩ := h
  cases e
  rcases hf with ⟨b, off, rfl⟩ | ⟨rfl, rfl, rfl⟩
  · have key : ∀ k, k ≤ L.length → ∃ us : List Value, us.length = k ∧ (∀ j (hj : j < us.length), b < w.heap.size ∧ w.cell? ⟨b, off + j, none⟩ = some us[j]) ∧ All2 (fun u x => By w u x) us (L.take k) := by
      intro k
      induction k with
      | zero => exact fun _ => ⟨[], rfl, fun j hj => absurd hj (Nat.not_lt_zero _), trivial⟩
      | succ k ih =>
        intro hk
        obtain ⟨us, h1, h2, h3⟩ := ih (by omega)
        obtain ⟨g, o, u, e1, e2, e3, e4⟩ := hr k (by omega)
        cases e1
        refine ⟨us ++ [u], by rw [List.length_append, h1]; rfl, fun j hj => ?_, ?_⟩
        · rw [List.length_append, List.length_singleton] at hj
          rcases Nat.lt_succ_iff_lt_or_eq.1 hj with h9 | h9
          · rw [List.getElem_append_left h9]
            exact h2 j h9
          · subst h9
            rw [List.getElem_append_right (Nat.le_refl _)]
            simp only [Nat.sub_self, List.getElem_cons_zero]
            exact ⟨e3, by rw [h1]; exact e2⟩
        · rw [List.take_succ_eq_append_getElem (by omega)]
          exact all2_snoc (r := fun u x => By w u x) e4 h3
    obtain ⟨us, h1, h2, h3⟩ := key L.length (Nat.le_refl _)
    rw [List.take_length] at h3
    refine ⟨us, h1, ⟨b, off, c, .inl (by rw [List.length_map, h1]), fun j hj => ?_⟩, h3⟩
    rw [List.length_map] at hj
    obtain ⟨k1, k2⟩ := h2 j hj
    refine ⟨k1, fun i u hu => ?_⟩
    rw [List.getElem_map] at hu
    match i, hu with
    | 0, hu =>
      cases hu
      rw [Nat.mul_one, Nat.add_zero]
      exact k2
    | _ + 1, hu => cases hu
  · exact ⟨[], rfl, .nil w 1, trivial⟩
theorem all2_at {β γ : Type} {r : β → γ → Prop} : ∀ {l : List β} {m : List γ}, All2 r l m → ∀ j (h : j < l.length) (h' : j < m.length), r l[j] m[j]
  | _ :: _, _ :: _, h, 0, _, _ => h.1
  | _ :: _, _ :: _, h, j + 1, hj, hj' => all2_at h.2 j (by simpa using hj) (by simpa using hj')
theorem bs_own {B : Nat} {w : World} {v : Value} {us : List Value} {L : List (List UInt8)} (h : w.ownsRow B 22 1 v us.length us) (hu : All2 (fun u x => By w u x) us L) : BsS w v L := by
  have hl := All2.len hu
  rcases h.2 with ⟨rfl, e⟩ | ⟨g, cap, cur, rfl, hg1, hg2, hg3, hg4, hg5, hg6⟩
  · obtain rfl : us = [] := List.eq_nil_of_length_eq_zero e
    cases L with
    | nil => exact ⟨none, 0, rfl, fun j hj => absurd hj (Nat.not_lt_zero _)⟩
    | cons x L => exact hu.elim
  · refine ⟨some ⟨g, 0, none⟩, cap, by rw [← hl], fun j hj => ?_⟩
    have hju : j < us.length := by omega
    refine ⟨g, 0, us[j], rfl, ?_, ?_, all2_at hu j hju hj⟩
    · have := h.cells (g := g) rfl j us[j] (List.getElem?_eq_getElem hju)
      rw [add_plain] at this
      exact this
    · exact (Array.getElem?_eq_some_iff.1 hg2).1
theorem ints_one {w : World} {us : List Value} {L : List (List UInt8)} (h : All2 (fun u x => By w u x) us L) : ∀ u ∈ us, u.oneCell' = true := by
  induction us generalizing L with
  | nil => exact fun u hu => absurd hu List.not_mem_nil
  | cons x us ih =>
    cases L with
    | nil => exact h.elim
    | cons y L =>
      intro u hu
      rcases List.mem_cons.1 hu with rfl | hu
      · obtain ⟨a, c, rfl⟩ := By.form h.1
        rfl
      · exact ih h.2 u hu
section rules
variable {rd : Option Nat} {n : Nat} {ops : Array Oper} {Q : Post} {rest : List Oper} {F : Fr} {ds : List Deferred} {w : World} {ty : TypeId} {pos : String} {after : Array Edge}
/-- append(nil, x...) of rows of bytes that are read. -/
theorem Lst_appendN {d B : Nat} {s x : Operand} {y : Value} {us : List Value} (hy : SRows w 1 y (us.map fun u => [u])) (hone : ∀ u ∈ us, u.oneCell' = true) (hl : us.length ≤ 1000000000) (hbase : B ≤ w.heap.size) (hs : ev F s = .slice none 0 0) (hx : ev F x = y) (hd : Nat.blt d n = true)
    (h : ∀ v' w', w'.ownsRow B 22 1 v' us.length us → Below B w w' → Lst Tryz.prog rd n ops Q rest (upd F d v') ds w') :
    Lst Tryz.prog rd n ops Q (⟨some d, .call { callee := .builtin .append, args := #[s, x], argTypes := #[28, 28] }, ty, pos, after, none⟩ :: rest) F ds w := by
  have hnil : w.ownsRow B 22 1 (.slice none 0 0) 0 [] := ⟨rfl, .inl ⟨rfl, rfl⟩⟩
  have hfl : (us.map fun u => [u]).flatten = us := by
    clear hy hone hl h
    induction us with
    | nil => rfl
    | cons x us ih =>
      rw [List.map_cons, List.flatten_cons, ih]
      rfl
  apply Lst_appendR (hown := hnil) (hy := hy) (hls := fun l hl9 => by obtain ⟨u, _, rfl⟩ := List.mem_map.1 hl9; rfl) (hone := by rw [hfl]; exact hone) (bytes := 24)
  focus exact hs
  focus exact hx
  focus rfl
  focus rfl
  focus rfl
  focus rfl
  focus rfl
  focus rfl
  focus rfl
  focus (rw [List.length_map]; omega)
  focus (rw [List.length_map]; omega)
  focus exact hbase
  focus exact hd
  intro v' w' ho hg
  rw [hfl, List.length_map, Nat.zero_add, List.nil_append] at ho
  exact h v' w' ho (Below.own (Below.refl B w) hnil hg (Nat.le_refl _) hbase)
end rules
end Wa
end Go.Proofs.YtfocnbmihcnaoaaGreatDoor
