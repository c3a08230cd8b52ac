/- The contracts of a log that works. -/
import Derived.Test.YtfocnbmihcnaoaaGreatDoorWaW
namespace Go.Proofs.YtfocnbmihcnaoaaGreatDoor
set_option maxRecDepth 100000
namespace Wa
open Go Go.RowKit Sx Wire Dk
/-- A log in memory, on its disk, all of it behind a world. -/
structure LogM (W0 w : World) (lb p mb : Nat) (fv dv : Value) (g : Lg) (d : Dsk) : Prop where
  base : Base W0 w
  log : LgAt w lb p fv dv g
  dk : DkAt w p mb d
  low : ∀ k ∈ foot lb p mb fv dv, W0.heap.size ≤ k
structure Lv (W0 w : World) (lb p mb : Nat) (fv dv : Value) (g : Lg) (d : Dsk) (k : Nat) (L : List (List UInt8)) (u c : Nat) : Prop where
  mem : LogM W0 w lb p mb fv dv g d
  ok : Ok d g k L
  free : Free d
  gd : Gd d u c
/-- What all steps keep. -/
structure Nx (d : Dsk) (g : Lg) (d' : Dsk) (g' : Lg) : Prop where
  name : g'.name = g.name
  seg : g'.seg = g.seg
  room : d'.room = d.room
  others : ∀ n, ¬ own g.name n → Sx.look d'.es n = Sx.look d.es n
theorem foot_mem {lb p mb : Nat} {fv dv : Value} {k : Nat} : k ∈ foot lb p mb fv dv ↔ k = lb ∨ k = p ∨ k = mb ∨ k ∈ rowsOf fv dv := by
  unfold foot
  simp only [List.mem_cons]
theorem LogM.step {W0 w w' : World} {lb p mb : Nat} {fv dv fv' dv' : Value} {g g' : Lg} {d d' : Dsk} (h : LogM W0 w lb p mb fv dv g d) (hl : LgAt w' lb p fv' dv' g') (hd : DkAt w' p mb d') (hc : Chg (foot lb p mb fv dv) w w') (hr : ∀ k ∈ rowsOf fv' dv', k ∈ rowsOf fv dv ∨ w.heap.size ≤ k) : LogM W0 w' lb p mb fv' dv' g' d' := by
  refine ⟨h.base.chg hc h.low, hl, hd, fun k hk => ?_⟩
  have hs := h.base.low.size
  rcases foot_mem.1 hk with rfl | rfl | rfl | hk
  · exact h.low _ (foot_mem.2 (.inl rfl))
  · exact h.low _ (foot_mem.2 (.inr (.inl rfl)))
  · exact h.low _ (foot_mem.2 (.inr (.inr (.inl rfl))))
  · rcases hr k hk with hk | hk
    · exact h.low _ (foot_mem.2 (.inr (.inr (.inr hk))))
    · omega
theorem LogM.below {W0 w w' : World} {lb p mb : Nat} {fv dv : Value} {g : Lg} {d : Dsk} (h : LogM W0 w lb p mb fv dv g d) (hb : Below w.heap.size w w') : LogM W0 w' lb p mb fv dv g d := ⟨h.base.below hb, h.log.below hb, h.dk.below hb, h.low⟩
theorem Lv.below {W0 w w' : World} {lb p mb : Nat} {fv dv : Value} {g : Lg} {d : Dsk} {k : Nat} {L : List (List UInt8)} {u c : Nat} (h : Lv W0 w lb p mb fv dv g d k L u c) (hb : Below w.heap.size w w') : Lv W0 w' lb p mb fv dv g d k L u c := ⟨h.mem.below hb, h.ok, h.free, h.gd⟩
theorem run_size {d : Dsk} {m : List UInt8} {a k : Nat} {L : List (List UInt8)} {z : Nat} (h : Run d m a k L z) : z ≤ used d.es := by
  cases h with
  | nil => exact Nat.zero_le _
  | snoc h hf hM hn hl => exact used_look _ _ _ hf
theorem foot_sub {lb p mb : Nat} {fv dv : Value} : ∀ k ∈ [lb, p, mb], k ∈ foot lb p mb fv dv := fun k hk => by
  simp only [List.mem_cons, List.not_mem_nil, or_false] at hk
  exact foot_mem.2 (by rcases hk with h | h | h <;> simp [h])
section
attribute [local irreducible] RnS RnT
attribute [local irreducible] W Lst Qst Pu seqQ blkQ rndQ cutQ retQ Does Enters IntKind.wrap bits sb World.alloc World.putObj Blk
theorem m_Open {p mb : Nat} {m : List UInt8} {a k : Nat} {L : List (List UInt8)} {z : Nat} {d : Dsk} {u c : Nat} (seg : Int) (ho : Opens d m a k L z) (hm : Nice m) (hf : Free d) (hg : Gd d u c) (hu : u ≤ 1000000) (hc : c ≤ 1000000) (W0 w : World) (hE : Base W0 w) (hp : W0.heap.size ≤ p) (hmb : W0.heap.size ≤ mb) (hd : DkAt w p mb d) :
    Does Tryz.prog 9 #[.pointer (some ⟨p, 0, none⟩), .string (bs m), .int .i64 seg] w fun v w' => ∃ lb fv ov, v = .tuple #[.pointer (some ⟨lb, 0, none⟩), ov, .int .i64 0] ∧ LogM W0 w' lb p mb fv (.slice none 0 0) { Lg.begun m seg d with files := segs m a k, size := z, recs := L.length } (cleanM m (segs m a k) d z).2 ∧ OwnBs w.heap.size w' ov L ∧ Chg [p, mb] w w' ∧ w.heap.size ≤ lb ∧ ∀ j, fv.ownBlock = some j → w.heap.size ≤ j := by
  refine (c_Open p mb 1000 m seg d hf.dead (by have := hf.cut; omega) (hg.names hc) (hg.list hf.dead) hm.dot (by have := hm.len; omega) (Nat.le_refl _) (fun i hi => ?_) (by rw [ho.age]; have := ho.lt; omega) (hg.size hu) (fun k' L' z' hF => ?_) W0 w hE hp hmb hd).mono ?_
  · rw [ho.age]
    by_cases h : i < 2000000000
    · exact ho.stop i hi h
    · exact far_none hm.dot ho.lt (by omega) hg.kn
  · rw [ho.age] at hF ⊢
    obtain ⟨rfl, rfl, rfl⟩ := found_det ho.found hF
    obtain ⟨d', h1, _⟩ := ho.clean hm.dot hf
    rw [h1]
  · rintro v w' ⟨k', L', z', lb, fv, ov, rfl, hF, _, hL, hD, hO, hC, h1, h2⟩
    rw [ho.age] at hF hL hD
    obtain ⟨rfl, rfl, rfl⟩ := found_det ho.found hF
    have hs := hE.low.size
    refine ⟨lb, fv, ov, rfl, ⟨hE.chg hC (by simp only [List.mem_cons, List.not_mem_nil, or_false, forall_eq_or_imp, forall_eq]; exact ⟨hp, hmb⟩), hL, hD, fun j hj => ?_⟩, hO, hC, h1, h2⟩
    rcases foot_mem.1 hj with rfl | rfl | rfl | hj
    · omega
    · exact hp
    · exact hmb
    · unfold rowsOf at hj
      rcases List.mem_append.1 hj with hj | hj
      · have := h2 j (by simpa using hj)
        omega
      · cases hj
theorem m_Append {W0 w : World} {lb p mb : Nat} {fv dv : Value} {g : Lg} {d : Dsk} {k : Nat} {L : List (List UInt8)} {u c : Nat} {d0 : Dsk} (h : LogM W0 w lb p mb fv dv g d) (ho : Ok d0 g k L) (hu0 : used d0.es ≤ 100000000) (hcut : d.cut < 9223372036854775808) (hm : Nice g.name) (ha : g.age < 10000000) (hL : L.length ≤ 1000) (hg : Gd d u c) (hu : u ≤ 100000000) (v0 : Value) (b : List UInt8) (hbl : b.length ≤ 50000000) (hv : By w v0 b) :
    Does Tryz.prog 10 #[.pointer (some ⟨lb, 0, none⟩), v0] w (AppR w lb p mb fv dv (g.append d b)) := by
  have h1 := run_len ho.sg.run
  have h2 := run_size ho.sg.run
  have h3 := hg.fine.used
  have h4 := ho.dlen
  have h5 := hm.len
  exact c_LAppend lb p mb fv dv g d v0 b hbl hcut (by omega) (by omega) (by omega) (by rw [ho.files, segs_len]; omega) (by omega) (by rw [ho.recs]; omega) (by omega) W0 w h.base h.low h.log h.dk hv
theorem s_Append {W0 w : World} {lb p mb : Nat} {fv dv : Value} {g : Lg} {d : Dsk} {k : Nat} {L : List (List UInt8)} {u c : Nat} (h : Lv W0 w lb p mb fv dv g d k L u c) (hm : Nice g.name) (ha : g.age < 10000000) (hL : L.length ≤ 1000) (hu : u ≤ 100000000) (v0 : Value) (b : List UInt8) (hb : b.length ≤ 1048576) (hv : By w v0 b)
    (hr : ((used d.es + (20 + b.length) : Nat) : Int) ≤ d.room) (h4 : used d.es + (20 + b.length) ≤ 4194304) :
    Does Tryz.prog 10 #[.pointer (some ⟨lb, 0, none⟩), v0] w fun v w' => v = .int .i64 0 ∧ ∃ fv' dv' g' d' i, Lv W0 w' lb p mb fv' dv' g' d' (i + 1) (L ++ [b]) (u + (20 + b.length)) (c + 1) ∧ Nx d g d' g' ∧ Apd d g k L b i g' d' ∧ Chg (foot lb p mb fv dv) w w' ∧ ∀ j ∈ rowsOf fv' dv', j ∈ rowsOf fv dv ∨ w.heap.size ≤ j := by
  refine (m_Append h.mem h.ok (Nat.le_trans h.gd.fine.used hu) (by have := h.free.cut; omega) hm ha hL h.gd hu v0 b (by omega) hv).mono ?_
  rintro v w' ⟨rfl, fv', dv', hl, hd, hc, hrows⟩
  obtain ⟨i, g', d', he, hA⟩ := append_gen h.free.dead h.ok hm ha (by omega) hb hr h4
  have hi : i < 10000000 := by
    have := run_len h.ok.sg.run
    have := hA.num
    omega
  have hg := h.gd.lappend (g := g) (b := b) (by rw [hA.last]; exact (hm.nm ha hi).2)
  rw [he] at hl hd hg ⊢
  have hdead : d'.dead = false := by
    cases e : d'.dead with
    | false => rfl
    | true =>
      have := hA.dead e
      have := h.free.cut
      omega
  refine ⟨rfl, fv', dv', g', d', i, ⟨h.mem.step hl hd hc hrows, hA.ok, ⟨hdead, Int.le_trans hA.cut h.free.cut, hg.nodup⟩, hg⟩, ⟨hA.name, hA.seg, hA.room, fun n hn => hA.others n fun e => hn (e ▸ hm.own ha hi)⟩, hA, hc, hrows⟩
theorem s_Sync {W0 w : World} {lb p mb : Nat} {fv dv : Value} {g : Lg} {d : Dsk} {k : Nat} {L : List (List UInt8)} {u c : Nat} (h : Lv W0 w lb p mb fv dv g d k L u c) (hm : Nice g.name) (ha : g.age < 10000000) (hL : L.length ≤ 1000) :
    Does Tryz.prog 11 #[.pointer (some ⟨lb, 0, none⟩)] w fun v w' => v = .int .i64 0 ∧ ∃ fv' dv' g' d', Lv W0 w' lb p mb fv' dv' g' d' k L u c ∧ Nx d g d' g' ∧ g'.age = g.age ∧ g'.dirty = [] ∧ used d'.es ≤ used d.es ∧ Chg (foot lb p mb fv dv) w w' ∧ ∀ j ∈ rowsOf fv' dv', j ∈ rowsOf fv dv ∨ w.heap.size ≤ j := by
  refine (c_LSync lb p mb fv dv g d (by have := h.free.cut; omega) (by have := h.ok.dlen; omega) w h.mem.log h.mem.dk).mono ?_
  rintro v w' ⟨rfl, dv', hl, hd, hc, hown⟩
  obtain ⟨d', he, hf, hO, hle, hoth⟩ := lsync_ok h.free h.ok
  rw [he] at hl hd ⊢
  have hc' := hc.mono (foot_sub (fv := fv) (dv := dv))
  have hrows : ∀ j ∈ rowsOf fv dv', j ∈ rowsOf fv dv ∨ w.heap.size ≤ j := fun j hj => by
    unfold rowsOf at hj ⊢
    rw [hown] at hj
    exact .inl hj
  refine ⟨rfl, fv, dv', _, d', ⟨h.mem.step hl hd hc' hrows, hO, hf, h.gd.le hle⟩, ⟨rfl, rfl, hle.room, fun n hn => hoth n fun h9 => ?_⟩, rfl, rfl, hle.used, hc', hrows⟩
  rw [h.ok.files] at h9
  obtain ⟨j, hj, rfl⟩ := mem_segs.1 h9
  have := run_len h.ok.sg.run
  exact hn (hm.own ha (by omega))
theorem s_Restart {W0 w : World} {lb p mb : Nat} {fv dv : Value} {g : Lg} {d : Dsk} {k : Nat} {L : List (List UInt8)} {u c : Nat} (h : Lv W0 w lb p mb fv dv g d k L u c) (hm : Nice g.name) (ha : g.age + 1 < 10000000) (hL : L.length ≤ 1000) (hu : u ≤ 100000000) (v0 : Value) (b : List UInt8) (hb : b.length ≤ 1048576) (hv : By w v0 b)
    (hr : ((used d.es + (20 + b.length) : Nat) : Int) ≤ d.room) (h4 : used d.es + (20 + b.length) ≤ 4194304) :
    Does Tryz.prog 12 #[.pointer (some ⟨lb, 0, none⟩), v0] w fun v w' => v = .int .i64 0 ∧ ∃ fv' dv' g' d', Lv W0 w' lb p mb fv' dv' g' d' 1 [b] (u + (20 + b.length)) (c + 2) ∧ Nx d g d' g' ∧ g'.age = g.age + 1 ∧ Sx.look d'.es (nm g.name (g.age + 1) 0) = some ⟨rec1 0 b, 20 + b.length⟩ ∧ (∀ n, own g.name n → n ≠ nm g.name (g.age + 1) 0 → Sx.look d'.es n = none) ∧ Chg (foot lb p mb fv dv) w w' ∧ ∀ j ∈ rowsOf fv' dv', j ∈ rowsOf fv dv ∨ w.heap.size ≤ j := by
  have hul := h.gd.fine.used
  have hkl := run_len h.ok.sg.run
  refine (c_LRestart lb p mb fv dv g d v0 b hb (by have := h.free.cut; omega) (by omega) (by have := hm.len; omega) (by omega) (by rw [h.ok.files, segs_len]; omega) W0 w h.mem.base (h.mem.low _ (foot_mem.2 (.inl rfl))) h.mem.log h.mem.dk hv).mono ?_
  rintro v w' ⟨rfl, fv', dv', hl, hd, hc, hrw⟩
  obtain ⟨e, g', d', he, hlive, hres⟩ := restart_gen h.free.dead h.gd.nodup h.ok hm ha (by omega) hr h4
  have hg := h.gd.restart (g := g) hm.fresh.2 (hm.nm ha (by omega)).2 b
  have hcut := h.free.cut
  have hle : (g.restart d b).2.2.room = d.room ∧ (g.restart d b).2.2.cut ≤ d.cut := by
    have key : ∀ s : Int × Dsk, s.2.room = d.room → s.2.cut ≤ d.cut → ((if s.1 = 0 then s.2.rename (fresh g.name) (nm g.name (g.age + 1) 0) else s).2.room = d.room ∧ (if s.1 = 0 then s.2.rename (fresh g.name) (nm g.name (g.age + 1) 0) else s).2.cut ≤ d.cut) := fun s h1 h2 => by
      split
      · refine ⟨?_, Int.le_trans (cut_rename _ _ _) h2⟩
        unfold Dsk.rename
        split
        · split
          · exact (done_room _).trans h1
          · exact h1
        · exact h1
      · exact ⟨h1, h2⟩
    have a1 : (d.append (fresh g.name) (rec1 0 b)).2.room = d.room := by
      unfold Dsk.append
      split
      · rfl
      · split
        · split
          · rfl
          · exact done_room _
        · rfl
    have a2 := cut_append d (fresh g.name) (rec1 0 b)
    have hmk : (make3 g d b).2.room = d.room ∧ (make3 g d b).2.cut ≤ d.cut := by
      refine key (if (d.append (fresh g.name) (rec1 0 b)).1 = 0 then (d.append (fresh g.name) (rec1 0 b)).2.sync (fresh g.name) else d.append (fresh g.name) (rec1 0 b)) ?_ ?_
      · split
        · exact (Le.sync _ _).room.trans a1
        · exact a1
      · split
        · exact Int.le_trans (Le.sync _ _).cut a2
        · exact a2
    unfold Lg.restart
    split
    · exact ⟨rfl, Int.le_refl _⟩
    · split
      · exact ⟨(Le.delM _ _).room.trans hmk.1, Int.le_trans (Le.delM _ _).cut hmk.2⟩
      · exact ⟨(Le.delete _ _).room.trans hmk.1, Int.le_trans (Le.delete _ _).cut hmk.2⟩
  rw [he] at hl hd hg hle ⊢
  have hdead := hlive hcut
  rcases hres with ⟨_, hx, _⟩ | ⟨hN, hoth, hnone, hend⟩
  · rw [hdead] at hx
    cases hx
  rcases hend with ⟨_, hx, _⟩ | ⟨rfl, rfl, hfn⟩
  · rw [hdead] at hx
    cases hx
  have hall : ∀ n, own g.name n → n ≠ nm g.name (g.age + 1) 0 → Sx.look d'.es n = none := fun n h1 h2 => by
    by_cases h3 : n ∈ g.files
    · exact hfn n h3
    · exact hnone n h1 h2 h3
  have hc' := hc.mono (foot_sub (fv := fv) (dv := dv))
  have hrows : ∀ j ∈ rowsOf fv' dv', j ∈ rowsOf fv dv ∨ w.heap.size ≤ j := fun j hj => by
    rcases hrw with ⟨rfl, rfl⟩ | h9
    · exact .inl hj
    · exact .inr (h9 j hj)
  refine ⟨rfl, fv', dv', _, d', ⟨h.mem.step hl hd hc' hrows, ⟨rfl, ⟨run_new .nil hN rfl hb, fun n h1 h2 => hall n h1 fun e9 => h2 (mem_segs.2 ⟨0, by omega, e9.symm⟩), fun e9 => absurd e9 (by omega)⟩, rfl, rfl, fun n hn _ f hf => ?_, fun n hn => absurd hn List.not_mem_nil, Nat.zero_le _⟩, ⟨hdead, Int.le_trans hle.2 hcut, hg.nodup⟩, hg⟩, ⟨rfl, rfl, hle.1, hoth⟩, rfl, hN, hall, hc', hrows⟩
  obtain rfl : n = nm g.name (g.age + 1) 0 := by simpa [Lg.anew] using hn
  rw [hN] at hf
  cases hf
  exact (rec_len 0 b).symm
theorem s_Open {p mb : Nat} {m : List UInt8} {a k : Nat} {L : List (List UInt8)} {z : Nat} {d : Dsk} {u c : Nat} (seg : Int) (hs : Sg d m a k L z) (ha : a < 10000000) (hL : L.length ≤ 999) (hm : Nice m) (hf : Free d) (hg : Gd d u c) (hu : u ≤ 1000000) (hc : c ≤ 1000000) (W0 w : World) (hE : Base W0 w) (hp : W0.heap.size ≤ p) (hmb : W0.heap.size ≤ mb) (hd : DkAt w p mb d) :
    Does Tryz.prog 9 #[.pointer (some ⟨p, 0, none⟩), .string (bs m), .int .i64 seg] w fun v w' => ∃ lb fv ov g' d', v = .tuple #[.pointer (some ⟨lb, 0, none⟩), ov, .int .i64 0] ∧ Lv W0 w' lb p mb fv (.slice none 0 0) g' d' k L u c ∧ g'.name = m ∧ g'.age = a ∧ g'.dirty = [] ∧ g'.seg = max seg 64 ∧ d'.room = d.room ∧ used d'.es ≤ used d.es ∧ (∀ n, ¬ own m n → Sx.look d'.es n = Sx.look d.es n) ∧ OwnBs w.heap.size w' ov L ∧ Chg [p, mb] w w' ∧ w.heap.size ≤ lb ∧ ∀ j, fv.ownBlock = some j → w.heap.size ≤ j := by
  have ho := hs.opens hf.dead hm ha hL
  refine (m_Open seg ho hm hf hg hu hc W0 w hE hp hmb hd).mono ?_
  rintro v w' ⟨lb, fv, ov, rfl, h1, h2, h3, h4, h5⟩
  obtain ⟨k1, k2, k3⟩ := open_ok ho hs hm hf
  have hle := Le.cleanM m (segs m a k) d z
  exact ⟨lb, fv, ov, _, _, rfl, ⟨h1, k3 seg, k1, hg.le hle⟩, rfl, ho.age, rfl, rfl, hle.room, hle.used, k2, h2, h3, h4, h5⟩
end
end Wa
end Go.Proofs.YtfocnbmihcnaoaaGreatDoor
