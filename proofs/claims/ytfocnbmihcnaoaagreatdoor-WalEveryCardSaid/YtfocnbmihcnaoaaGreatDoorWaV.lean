/- What Append, Sync and Restart leave, plainly; what Open finds then, and behind a crash. -/
import Derived.Test.YtfocnbmihcnaoaaGreatDoorWaU
namespace Go.Proofs.YtfocnbmihcnaoaaGreatDoor
set_option maxRecDepth 100000
namespace Wa
open Go Sx Wire Dk
/-- A log's name. -/
structure Nice (m : List UInt8) : Prop where
  dot : 46 ∉ m
  len : m.length ≤ 3
theorem Nice.nm {m : List UInt8} (h : Nice m) {a i : Nat} (ha : a < 10000000) (hi : i < 10000000) : nameOk (nm m a i) = true ∧ Kn (nm m a i) := by
  refine ⟨?_, .inl ⟨m, a, i, h.dot, by have := h.len; omega, by omega, by omega, rfl⟩⟩
  have h1 := nmL_len (m := m) ha hi
  have h2 := h.len
  have h3 : (Wa.nm m a i).size = (nmL m a i).length := rfl
  have hs : decide ((Wa.nm m a i).size ≤ 32) = true := decide_eq_true (by omega)
  unfold nameOk
  rw [hs, Bool.and_true]
  refine decide_eq_true fun e => ?_
  have e1 : (Wa.nm m a i).size = 0 := by rw [e]; rfl
  rw [h3] at e1
  unfold nmL at e1
  rw [List.length_append, List.length_cons] at e1
  omega
theorem Nice.fresh {m : List UInt8} (h : Nice m) : nameOk (fresh m) = true ∧ Kn (fresh m) := by
  refine ⟨?_, .inr ⟨m, h.dot, by have := h.len; omega, rfl⟩⟩
  have h2 := h.len
  have h3 : (Wa.fresh m).size = m.length + 1 := by
    show (m ++ [126]).length = _
    rw [List.length_append]
    rfl
  have hs : decide ((Wa.fresh m).size ≤ 32) = true := decide_eq_true (by omega)
  unfold nameOk
  rw [hs, Bool.and_true]
  refine decide_eq_true fun e => ?_
  have e1 : (Wa.fresh m).size = 0 := by rw [e]; rfl
  omega
theorem Nice.own {m : List UInt8} (h : Nice m) {a i : Nat} (ha : a < 10000000) (hi : i < 10000000) : own m (Wa.nm m a i) := own_nm' h.dot (by omega) (by omega)
theorem Nice.inj {m : List UInt8} (h : Nice m) {a i a' i' : Nat} (ha : a < 10000000) (hi : i < 10000000) (ha' : a' < 10000000) (hi' : i' < 10000000) (e : Wa.nm m a i = Wa.nm m a' i') : a = a' ∧ i = i' := (nm_inj h.dot h.dot (by omega) (by omega) (by omega) (by omega) e).2
/-- The segments that stand. -/
structure Sg (d : Dsk) (m : List UInt8) (a k : Nat) (L : List (List UInt8)) (z : Nat) : Prop where
  run : Run d m a k L z
  only : ∀ n, own m n → n ∉ segs m a k → Sx.look d.es n = none
  top : k = 0 → a = 0
/-- A log that works. -/
structure Ok (d : Dsk) (g : Lg) (k : Nat) (L : List (List UInt8)) : Prop where
  files : g.files = segs g.name g.age k
  sg : Sg d g.name g.age k L g.size
  recs : g.recs = L.length
  dead : g.dead = false
  dirty : ∀ n ∈ g.files, n ∉ g.dirty → ∀ f, Sx.look d.es n = some f → f.safe = f.b.length
  dsub : ∀ n ∈ g.dirty, n ∈ g.files
  dlen : g.dirty.length ≤ L.length
theorem Sg.keep {d d' : Dsk} {m : List UInt8} {a k : Nat} {L : List (List UInt8)} {z : Nat} (h : Sg d m a k L z) (ho : ∀ n, own m n → Sx.look d'.es n = Sx.look d.es n) (hm : Nice m) (ha : a < 10000000) (hL : L.length < 10000000) : Sg d' m a k L z := by
  refine ⟨run_keep h.run fun i hi f hf => ⟨f, ?_, rfl⟩, fun n hn hs => by rw [ho n hn]; exact h.only n hn hs, h.top⟩
  rw [ho _ (hm.own ha (by have := run_len h.run; omega))]
  exact hf
theorem Ok.keep {d d' : Dsk} {g : Lg} {k : Nat} {L : List (List UInt8)} (h : Ok d g k L) (ho : ∀ n, own g.name n → Sx.look d'.es n = Sx.look d.es n) (hm : Nice g.name) (ha : g.age < 10000000) (hL : L.length < 10000000) : Ok d' g k L := by
  refine ⟨h.files, h.sg.keep ho hm ha hL, h.recs, h.dead, fun n hn hd f hf => ?_, h.dsub, h.dlen⟩
  have hn' := hn
  rw [h.files] at hn'
  obtain ⟨i, hi, rfl⟩ := mem_segs.1 hn'
  rw [ho _ (hm.own ha (by have := run_len h.sg.run; omega))] at hf
  exact h.dirty _ hn hd f hf
theorem Ok.has {d : Dsk} {g : Lg} {k : Nat} {L : List (List UInt8)} (h : Ok d g k L) : ∀ n ∈ g.files, ∃ f, Sx.look d.es n = some f := by
  intro n hn
  rw [h.files] at hn
  obtain ⟨i, hi, rfl⟩ := mem_segs.1 hn
  exact run_has h.sg.run hi
theorem addN_self (L : List ByteArray) (n : ByteArray) : n ∈ addN L n := by
  by_cases h : n ∈ L
  · rw [addN_in h]
    exact h
  · rw [addN_out h]
    simp
theorem addN_old {L : List ByteArray} {n x : ByteArray} (h : x ∈ L) : x ∈ addN L n := by
  by_cases k : n ∈ L
  · rw [addN_in k]
    exact h
  · rw [addN_out k]
    exact List.mem_append_left _ h
theorem addN_mem {L : List ByteArray} {n x : ByteArray} (h : x ∈ addN L n) : x ∈ L ∨ x = n := by
  by_cases k : n ∈ L
  · rw [addN_in k] at h
    exact .inl h
  · rw [addN_out k] at h
    simpa using h
theorem addN_len (L : List ByteArray) (n : ByteArray) : (addN L n).length ≤ L.length + 1 := by
  by_cases k : n ∈ L
  · rw [addN_in k]
    omega
  · rw [addN_out k]
    simp
theorem append_step {d : Dsk} {n : ByteArray} {b : List UInt8} (hd : d.dead = false) (hn : nameOk n = true) (hr : ((used d.es + b.length : Nat) : Int) ≤ d.room) (h4 : used d.es + b.length ≤ 4194304) : d.append n b = (0, Dsk.done { d with es := Sx.put d.es n ⟨(d.file n).b ++ b, (d.file n).safe⟩ }) := by
  unfold Dsk.append
  have hu := file_used d n
  have hf : d.full n b.length = false := by
    unfold Dsk.full
    rw [decide_eq_false (by omega), decide_eq_false (by omega)]
    rfl
  rw [hd, hn, hf]
  rfl
theorem sync_step {d : Dsk} {n : ByteArray} {f : Fl} (hd : d.dead = false) (hf : Sx.look d.es n = some f) : d.sync n = (0, Dsk.done { d with es := Sx.put d.es n ⟨f.b, f.b.length⟩ }) := by
  unfold Dsk.sync Dsk.isE Dsk.file
  rw [hd, hf]
  rfl
theorem delete_step {d : Dsk} {n : ByteArray} {f : Fl} (hd : d.dead = false) (hf : Sx.look d.es n = some f) : d.delete n = (0, Dsk.done { d with es := Sx.del d.es n }) := by
  unfold Dsk.delete Dsk.isE
  rw [hd, hf]
  rfl
theorem rename_step {d : Dsk} {n n' : ByteArray} {f : Fl} (hd : d.dead = false) (hf : Sx.look d.es n = some f) (hn : nameOk n' = true) : d.rename n n' = (0, Dsk.done { d with es := Sx.put (Sx.del d.es n) n' f }) := by
  unfold Dsk.rename Dsk.isE Dsk.file
  rw [hd, hf, hn]
  rfl
theorem dead_sync {d : Dsk} (hd : d.dead = true) (n : ByteArray) : d.sync n = (43, d) := by
  unfold Dsk.sync Dsk.isE
  rw [hd]
  rfl
theorem dead_delete {d : Dsk} (hd : d.dead = true) (n : ByteArray) : d.delete n = (43, d) := by
  unfold Dsk.delete Dsk.isE
  rw [hd]
  rfl
theorem dead_rename {d : Dsk} (hd : d.dead = true) (n n' : ByteArray) : d.rename n n' = (43, d) := by
  unfold Dsk.rename Dsk.isE
  rw [hd]
  rfl
theorem dead_cut {d : Dsk} {es : List (ByteArray × Fl)} (hd : d.dead = false) (h : (Dsk.done { d with es := es }).dead = true) : 0 < d.cut := by
  unfold Dsk.done at h
  split at h
  · rename_i h9
    exact h9
  · have h' : d.dead = true := h
    rw [hd] at h'
    cases h'
theorem live_cut {d : Dsk} {es : List (ByteArray × Fl)} (hd : d.dead = false) (hc : d.cut ≤ 0) : (Dsk.done { d with es := es }).dead = false := by
  cases e : (Dsk.done { d with es := es }).dead with
  | false => rfl
  | true =>
    have := dead_cut hd e
    omega
theorem cutd_done (d : Dsk) (es : List (ByteArray × Fl)) : (Dsk.done { d with es := es }).cut ≤ d.cut := cut_done { d with es := es }
/-- What Append leaves: the segment's number is i; it was there already, or is new. -/
structure Apd (d : Dsk) (g : Lg) (k : Nat) (L : List (List UInt8)) (b : List UInt8) (i : Nat) (g' : Lg) (d' : Dsk) : Prop where
  num : k = i ∨ k = i + 1
  es : d'.es = Sx.put d.es (nm g.name g.age i) ⟨(d.file (nm g.name g.age i)).b ++ rec1 L.length b, (d.file (nm g.name g.age i)).safe⟩
  ok : Ok d' g' (i + 1) (L ++ [b])
  name : g'.name = g.name
  age : g'.age = g.age
  seg : g'.seg = g.seg
  dirty : g'.dirty = addN g.dirty (nm g.name g.age i)
  room : d'.room = d.room
  cut : d'.cut ≤ d.cut
  dead : d'.dead = true → 0 < d.cut
  used : used d'.es = used d.es + (20 + b.length)
  others : ∀ n, n ≠ nm g.name g.age i → Sx.look d'.es n = Sx.look d.es n
  last : g.last1 b = nm g.name g.age i
  old : newSeg g b = false → k = i + 1
theorem append_gen {d : Dsk} {g : Lg} {k : Nat} {L : List (List UInt8)} {b : List UInt8} (hd : d.dead = false) (ho : Ok d g k L) (hm : Nice g.name) (ha : g.age < 10000000) (hL : L.length < 9999999) (hb : b.length ≤ 1048576) (hr : ((used d.es + (20 + b.length) : Nat) : Int) ≤ d.room) (h4 : used d.es + (20 + b.length) ≤ 4194304) :
    ∃ i g' d', g.append d b = (0, g', d') ∧ Apd d g k L b i g' d' := by
  have hk := run_len ho.sg.run
  have hlen : g.files.length = k := by rw [ho.files, segs_len]
  have key : ∃ i, g.last1 b = nm g.name g.age i ∧ (g.seg1 b).1 = segs g.name g.age (i + 1) ∧ ((k = i ∧ (g.seg1 b).2 = 0) ∨ (k = i + 1 ∧ (g.seg1 b).2 = g.size)) ∧ (newSeg g b = false → k = i + 1) := by
    unfold Lg.last1 Lg.seg1
    by_cases hs : newSeg g b = true
    · rw [if_pos hs, hlen, ho.files]
      dsimp only
      refine ⟨k, ?_, (segs_succ _ _ _).symm, .inl ⟨rfl, rfl⟩, fun e => by rw [hs] at e; cases e⟩
      rw [← segs_succ, segs_len]
      show ((segs g.name g.age (k + 1))[k]?).getD _ = _
      unfold segs
      rw [List.getElem?_map, List.getElem?_range (by omega)]
      rfl
    · rw [if_neg hs]
      dsimp only
      have hpos : k ≠ 0 := by
        intro e
        apply hs
        unfold newSeg
        rw [hlen, e]
        rfl
      obtain ⟨i, rfl⟩ : ∃ i, k = i + 1 := ⟨k - 1, by omega⟩
      refine ⟨i, ?_, ho.files, .inr ⟨rfl, rfl⟩, fun _ => rfl⟩
      rw [ho.files, segs_len]
      show ((segs g.name g.age (i + 1))[i]?).getD _ = _
      unfold segs
      rw [List.getElem?_map, List.getElem?_range (by omega)]
      rfl
  obtain ⟨i, hn, hf, hcase, hold⟩ := key
  have hik : i ≤ k := by rcases hcase with ⟨e, _⟩ | ⟨e, _⟩ <;> omega
  have hnice := hm.nm ha (i := i) (by omega)
  have hap := append_step (b := rec1 g.recs b) hd hnice.1 (by rw [rec_len]; exact hr) (by rw [rec_len]; exact h4)
  rw [ho.recs] at hap
  have hfell : (g.fell d).dead = false := by
    unfold Lg.fell
    dsimp only
    rw [ho.dead, hd]
    rfl
  have hG : g.append d b = (0, { g with files := (g.seg1 b).1, size := (g.seg1 b).2 + (20 + b.length), recs := g.recs + 1, dirty := addN g.dirty (g.last1 b), dead := false }, Dsk.done { d with es := Sx.put d.es (nm g.name g.age i) ⟨(d.file (nm g.name g.age i)).b ++ rec1 L.length b, (d.file (nm g.name g.age i)).safe⟩ }) := by
    unfold Lg.append
    rw [if_neg (by rw [hfell]; simp), if_neg (by omega), hn, ho.recs, hap, if_pos rfl]
  refine ⟨i, _, _, hG, ?_⟩
  · have hes := es_done d (Sx.put d.es (nm g.name g.age i) ⟨(d.file (nm g.name g.age i)).b ++ rec1 L.length b, (d.file (nm g.name g.age i)).safe⟩)
    have hlook : ∀ n, Sx.look (Dsk.done { d with es := Sx.put d.es (nm g.name g.age i) ⟨(d.file (nm g.name g.age i)).b ++ rec1 L.length b, (d.file (nm g.name g.age i)).safe⟩ }).es n = if nm g.name g.age i = n then some ⟨(d.file (nm g.name g.age i)).b ++ rec1 L.length b, (d.file (nm g.name g.age i)).safe⟩ else Sx.look d.es n := fun n => by rw [hes, look_put]
    have hoth : ∀ n, n ≠ nm g.name g.age i → Sx.look (Dsk.done { d with es := Sx.put d.es (nm g.name g.age i) ⟨(d.file (nm g.name g.age i)).b ++ rec1 L.length b, (d.file (nm g.name g.age i)).safe⟩ }).es n = Sx.look d.es n := fun n hne => by rw [hlook, if_neg (Ne.symm hne)]
    have hself : Sx.look (Dsk.done { d with es := Sx.put d.es (nm g.name g.age i) ⟨(d.file (nm g.name g.age i)).b ++ rec1 L.length b, (d.file (nm g.name g.age i)).safe⟩ }).es (nm g.name g.age i) = some ⟨(d.file (nm g.name g.age i)).b ++ rec1 L.length b, (d.file (nm g.name g.age i)).safe⟩ := by rw [hlook, if_pos rfl]
    have hne : ∀ j, j < 10000000 → j ≠ i → nm g.name g.age j ≠ nm g.name g.age i := fun j hj hji e => hji (hm.inj ha hj ha (by omega) e).2
    refine ⟨?_, hes, ⟨hf, ⟨?_, ?_, fun e => absurd e (by omega)⟩, ?_, rfl, ?_, ?_, ?_⟩, rfl, rfl, rfl, congrArg (addN g.dirty) hn, done_room _, cutd_done _ _, dead_cut hd, ?_, hoth, hn, hold⟩
    · rcases hcase with ⟨e, _⟩ | ⟨e, _⟩
      · exact .inl e
      · exact .inr e
    · dsimp only
      rcases hcase with ⟨rfl, hz⟩ | ⟨rfl, hz⟩
      · have hnone : Sx.look d.es (nm g.name g.age k) = none := ho.sg.only _ (hm.own ha (by omega)) (fun h9 => by
          obtain ⟨j, hj, e⟩ := mem_segs.1 h9
          exact hne j (by omega) (by omega) e)
        have hfile : d.file (nm g.name g.age k) = f0 := by
          unfold Dsk.file
          rw [hnone]
          rfl
        rw [hz, Nat.zero_add]
        refine run_new (run_keep ho.sg.run fun j hj f hf => ⟨f, ?_, rfl⟩) hself ?_ hb
        · rw [hoth _ (hne j (by omega) (by omega))]
          exact hf
        · rw [hfile]
          rfl
      · obtain ⟨f, hfl⟩ := run_has ho.sg.run (Nat.lt_succ_self i)
        have hfile : d.file (nm g.name g.age i) = f := by
          unfold Dsk.file
          rw [hfl]
          rfl
        rw [hz]
        refine run_more ho.sg.run (fun j hj f hf => ⟨f, ?_, rfl⟩) hfl hself ?_ hb
        · rw [hoth _ (hne j (by omega) (by omega))]
          exact hf
        · rw [hfile]
    · intro n hown hns
      have h1 : n ≠ nm g.name g.age i := fun e => hns (mem_segs.2 ⟨i, by omega, e.symm⟩)
      rw [hoth n h1]
      refine ho.sg.only n hown fun h9 => hns ?_
      obtain ⟨j, hj, e⟩ := mem_segs.1 h9
      exact mem_segs.2 ⟨j, by rcases hcase with ⟨e, _⟩ | ⟨e, _⟩ <;> omega, e⟩
    · dsimp only
      rw [ho.recs, List.length_append]
      rfl
    · dsimp only
      intro n hnf hnd f hl
      rw [hn] at hnd
      have h1 : n ≠ nm g.name g.age i := fun e => hnd (by rw [e]; exact addN_self _ _)
      rw [hoth n h1] at hl
      refine ho.dirty n ?_ (fun h9 => hnd (addN_old h9)) f hl
      rw [hf] at hnf
      obtain ⟨j, hj, e⟩ := mem_segs.1 hnf
      rw [ho.files]
      refine mem_segs.2 ⟨j, ?_, e⟩
      have : j ≠ i := fun h9 => h1 (by rw [← e, h9])
      rcases hcase with ⟨e, _⟩ | ⟨e, _⟩ <;> omega
    · dsimp only
      intro n hnd
      rw [hn] at hnd
      rw [hf]
      rcases addN_mem hnd with h9 | rfl
      · have := ho.dsub n h9
        rw [ho.files] at this
        obtain ⟨j, hj, e⟩ := mem_segs.1 this
        exact mem_segs.2 ⟨j, by rcases hcase with ⟨e, _⟩ | ⟨e, _⟩ <;> omega, e⟩
      · exact mem_segs.2 ⟨i, by omega, rfl⟩
    · dsimp only
      have := addN_len g.dirty (g.last1 b)
      have h2 := ho.dlen
      rw [List.length_append]
      show (addN g.dirty (g.last1 b)).length ≤ L.length + 1
      omega
    · rw [hes]
      have := used_put (nm g.name g.age i) ⟨(d.file (nm g.name g.age i)).b ++ rec1 L.length b, (d.file (nm g.name g.age i)).safe⟩ d.es
      have e : ((Sx.look d.es (nm g.name g.age i)).getD f0) = d.file (nm g.name g.age i) := rfl
      rw [e] at this
      dsimp only at this
      rw [List.length_append, rec_len] at this
      omega
theorem syncM_ok : ∀ (fs : List ByteArray) (d : Dsk), Free d → (∀ n ∈ fs, ∃ f, Sx.look d.es n = some f) → ∃ d', syncM d fs = (0, [], d') ∧ Free d' ∧ ∀ n, (n ∉ fs → Sx.look d'.es n = Sx.look d.es n) ∧ ∀ f, Sx.look d.es n = some f → ∃ f', Sx.look d'.es n = some f' ∧ f'.b = f.b ∧ (n ∈ fs → f'.safe = f'.b.length)
  | [], d, h, _ => ⟨d, rfl, h, fun n => ⟨fun _ => rfl, fun f hf => ⟨f, hf, rfl, fun h => absurd h List.not_mem_nil⟩⟩⟩
  | n :: r, d, h, hk => by
    obtain ⟨f, hf⟩ := hk n List.mem_cons_self
    have hlk : ∀ x, Sx.look ({ d with es := Sx.put d.es n ⟨f.b, f.b.length⟩ } : Dsk).es x = if n = x then some ⟨f.b, f.b.length⟩ else Sx.look d.es x := fun x => look_put _ _ _ _
    obtain ⟨d', h1, h2, h3⟩ := syncM_ok r _ (h.sync (f' := ⟨f.b, f.b.length⟩) hf) (fun x hx => by
      rw [hlk]
      split
      · exact ⟨_, rfl⟩
      · exact hk x (List.mem_cons_of_mem _ hx))
    unfold syncM
    rw [sync_ok h hf, if_pos rfl]
    dsimp only
    refine ⟨d', h1, h2, fun x => ⟨fun hx => ?_, fun g hg => ?_⟩⟩
    · rw [(h3 x).1 (fun h9 => hx (List.mem_cons_of_mem _ h9)), hlk, if_neg (fun e => hx (by rw [e]; exact List.mem_cons_self))]
    · by_cases e : n = x
      · subst e
        rw [hf] at hg
        cases hg
        by_cases hr : n ∈ r
        · obtain ⟨f', k1, k2, k3⟩ := (h3 n).2 ⟨f.b, f.b.length⟩ (by rw [hlk, if_pos rfl])
          exact ⟨f', k1, k2, fun _ => k3 hr⟩
        · refine ⟨⟨f.b, f.b.length⟩, ?_, rfl, fun _ => rfl⟩
          rw [(h3 n).1 hr, hlk, if_pos rfl]
      · obtain ⟨f', k1, k2, k3⟩ := (h3 x).2 g (by rw [hlk, if_neg e]; exact hg)
        refine ⟨f', k1, k2, fun hx => k3 ?_⟩
        rcases List.mem_cons.1 hx with h9 | h9
        · exact absurd h9.symm e
        · exact h9
/-- What Sync leaves. -/
theorem lsync_ok {d : Dsk} {g : Lg} {k : Nat} {L : List (List UInt8)} (h : Free d) (ho : Ok d g k L) : ∃ d', g.sync d = (0, { g with dirty := [], dead := false }, d') ∧ Free d' ∧ Ok d' { g with dirty := [], dead := false } k L ∧ Le d' d ∧ ∀ n, n ∉ g.files → Sx.look d'.es n = Sx.look d.es n := by
  obtain ⟨d', h1, h2, h3⟩ := syncM_ok g.dirty d h (fun n hn => ho.has n (ho.dsub n hn))
  have hle := Le.syncM g.dirty d
  rw [h1] at hle
  refine ⟨d', ?_, h2, ⟨ho.files, ⟨run_keep ho.sg.run fun i hi f hf => ?_, fun n hn hs => ?_, ho.sg.top⟩, ho.recs, rfl, fun n hn _ f hf => ?_, fun n hn => absurd hn List.not_mem_nil, Nat.zero_le _⟩, hle, fun n hn => (h3 n).1 fun h9 => hn (ho.dsub n h9)⟩
  · unfold Lg.sync
    have hfell : (g.fell d).dead = false := by
      unfold Lg.fell
      dsimp only
      rw [ho.dead, h.dead]
      rfl
    rw [if_neg (by rw [hfell]; simp), h1]
    rfl
  · obtain ⟨f', k1, k2, _⟩ := (h3 _).2 f hf
    exact ⟨f', k1, k2⟩
  · have hs' : n ∉ g.files := by rw [ho.files]; exact hs
    rw [(h3 n).1 fun h9 => hs' (ho.dsub n h9)]
    exact ho.sg.only n hn hs
  · dsimp only at hn
    obtain ⟨f1, hf1⟩ := ho.has n hn
    obtain ⟨f', k1, k2, k3⟩ := (h3 n).2 f1 hf1
    rw [hf] at k1
    cases k1
    by_cases hd : n ∈ g.dirty
    · exact k3 hd
    · have e := (h3 n).1 hd
      rw [hf, hf1] at e
      cases e
      exact ho.dirty n hn hd f hf1
theorem delM_gen : ∀ (fs : List ByteArray) (d : Dsk), (keys d.es).Nodup → fs.Nodup → (∀ n ∈ fs, ∃ f, Sx.look d.es n = some f) → ∃ e d', delM d fs = (e, d') ∧ (∀ n, n ∉ fs → Sx.look d'.es n = Sx.look d.es n) ∧
    (e = 43 ∧ d'.dead = true ∧ (0 < d.cut ∨ d.dead = true) ∨ e = 0 ∧ ∀ n ∈ fs, Sx.look d'.es n = none) ∧ (d.dead = false → d.cut ≤ 0 → d'.dead = false)
  | [], d, _, _, _ => ⟨0, d, rfl, fun _ _ => rfl, .inr ⟨rfl, fun n hn => absurd hn List.not_mem_nil⟩, fun h _ => h⟩
  | n :: r, d, hnd, hn, hk => by
    rw [List.nodup_cons] at hn
    obtain ⟨f, hf⟩ := hk n List.mem_cons_self
    unfold delM
    cases hd : d.dead with
    | true =>
      rw [dead_delete hd, if_pos rfl]
      exact ⟨43, d, rfl, fun _ _ => rfl, .inl ⟨rfl, hd, .inr rfl⟩, fun h => by cases h⟩
    | false =>
      rw [delete_step hd hf, if_neg (by simp)]
      dsimp only
      have hlk : ∀ x, Sx.look (Dsk.done { d with es := Sx.del d.es n }).es x = if n = x then none else Sx.look d.es x := fun x => by rw [es_done, look_del hnd]
      obtain ⟨e, d', h1, h2, h3, h4⟩ := delM_gen r (Dsk.done { d with es := Sx.del d.es n }) (by rw [es_done]; exact (keys_del _ _).nodup hnd) hn.2 (fun x hx => by
        rw [hlk, if_neg (fun e => hn.1 (by rw [e]; exact hx))]
        exact hk x (List.mem_cons_of_mem _ hx))
      refine ⟨e, d', h1, fun x hx => ?_, ?_, fun _ hc => h4 (live_cut hd hc) (Int.le_trans (cutd_done _ _) hc)⟩
      · rw [h2 x (fun h9 => hx (List.mem_cons_of_mem _ h9)), hlk, if_neg (fun e => hx (by rw [e]; exact List.mem_cons_self))]
      · rcases h3 with ⟨h5, h6, h7⟩ | ⟨h5, h6⟩
        · refine .inl ⟨h5, h6, .inl ?_⟩
          rcases h7 with h7 | h7
          · exact Int.lt_of_lt_of_le h7 (cutd_done _ _)
          · exact dead_cut hd h7
        · refine .inr ⟨h5, fun x hx => ?_⟩
          rcases List.mem_cons.1 hx with rfl | hx
          · rw [h2 x hn.1, hlk, if_pos rfl]
          · exact h6 x hx
end Wa
end Go.Proofs.YtfocnbmihcnaoaaGreatDoor
