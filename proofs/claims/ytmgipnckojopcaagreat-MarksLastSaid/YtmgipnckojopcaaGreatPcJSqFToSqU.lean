/- Merged: SqF, SqG, SqJ, SqL, SqR, SqU. -/
import Derived.Test.YtmgipnckojopcaaGreatPcJPlaceToSqW
import Derived.LaidEqlPtr
namespace Go.Proofs.YtmgipnckojopcaaGreat
set_option maxRecDepth 100000
namespace Sq
open Go Go.RowKit Sx Tl
variable {E : Env} {ord rt N D : List Id} {ρ : Id → Rec} {w : World}
theorem KC.of {A A' : World} (h : Below A.heap.size A A') : KC A A' := ⟨h.size, fun k _ hk _ => (h.block k (lt_of_some hk)).trans hk⟩
theorem KF.of {A A' : World} {B : Nat} (h : Below A.heap.size A A') : KeepsFrom B A A' := ⟨h.size, fun k _ _ hk _ => (h.block k (lt_of_some hk)).trans hk⟩
theorem KC.map {A A' : World} {b : Nat} (h : Chg [b] A A') (hb : ∀ o, A.heap[b]? = some o → o.isCells = false) : KC A A' := ⟨h.size, fun k o hk ho => (h.block k (lt_of_some hk) (fun hm => by
  rw [List.mem_singleton.1 hm] at hk
  have := hb o hk
  rw [ho] at this
  cases this)).trans hk⟩
theorem KF.map {A A' : World} {b B : Nat} (h : Chg [b] A A') (hb : b < B) : KeepsFrom B A A' := ⟨h.size, fun k o hB hk _ => (h.block k (lt_of_some hk) (fun hm => by
  rw [List.mem_singleton.1 hm] at hB
  omega)).trans hk⟩
theorem mp_cells {α : Type} {R : Value → α → Prop} {b : Nat} {m : List (Id × α)} (h : SxG.MpAt idv w b R m) : ∀ o, w.heap[b]? = some o → o.isCells = false := by
  intro o ho
  obtain ⟨arr, clock, h1, _⟩ := h
  rw [h1] at ho
  cases ho
  rfl
/-- What Find tells. -/
def findV (ord D : List Id) (k : Id) : Int := if k ∈ D then (ord.idxOf k : Int) else -1
/-- The sequence's own, but its cache. -/
abbrev SF (t : Tag) : Prop := t = .seq ∨ t = .at'
theorem Kept.nodeF {w' : World} {k : Id} {r : Rec} (h : Kept E SF w w') (hn : NodeAt w E k r) : NodeAt w' E k r := h.node hn (by rintro (h | h) <;> cases h) (by rintro (h | h) <;> cases h) (by rintro (h | h) <;> cases h)
theorem Kept.coreF {w' : World} {so sr : Value} {fresh : Bool} {m : List (Id × Nat)} (h : Core w E ord rt N D ρ) (hk : Kept E SF w w') (hO : RowAt w E .order so ord) (hR : RowAt w E .root sr rt) (hS : Blk w' E.p [.map (some E.ma), so, sr, .map (some E.mt), .bool fresh] 83) (hm : SxG.MpAt idv w' E.mt RI m) (hf : fresh = true → ∀ k ∈ ord, SxG.look m k = some (ord.idxOf k)) : Core w' E ord rt N D ρ := by
  obtain ⟨es, h6, h7⟩ := h.all
  exact ⟨h.tp, h.tma, h.tmt, ⟨so, sr, fresh, m, hS, hk.row hO (by rintro (h | h) <;> cases h), hk.row hR (by rintro (h | h) <;> cases h), hm, hf⟩, ⟨es, hk.map h6 (by rw [h.tma]; rintro (h | h) <;> cases h), h7⟩, fun k hkN => hk.nodeF (h.nodes k hkN)⟩
theorem Kept.putNew {S : Tag → Prop} {A : World} (h : Kept E S w A) {d : Nat} (hd : w.heap.size ≤ d) (o : Obj) : Kept E S w (A.putObj d o) :=
  ⟨h.os, h.tape, h.output, by rw [World.putObj_size]; exact h.size, fun g h1 h2 => (World.putObj_heap_other (by omega)).trans (h.block g h1 h2)⟩
theorem Kept.calm {S : Tag → Prop} {A A' : World} (h : Kept E S w A) (hc : Sx.Calm w.heap.size A A') : Kept E S w A' :=
  ⟨hc.os.trans h.os, hc.tape.trans h.tape, hc.output.trans h.output, Nat.le_trans h.size hc.size, fun g h1 h2 => by
    have hb := h.block g h1 h2
    have hlt : g < A.heap.size := Nat.lt_of_lt_of_le h1 h.size
    rw [← hb]
    exact (hc.same g _ (Array.getElem?_eq_getElem hlt) (.inl h1)).trans (Array.getElem?_eq_getElem hlt).symm⟩
/-- What the range has done so far. -/
structure Rng (E : Env) (ord : List Id) (b : Nat) (k0 : Id) (Z : World) (k : Nat) (A : World) : Prop where
  map : ∃ m, SxG.MpAt idv A E.mt RI m ∧ ∀ (i : Nat) (hi : i < ord.length), i < k → SxG.look m ord[i] = some i
  kept : Kept E (fun t => t = .at') Z A
  box : Blk A b [.pointer (some ⟨E.p, 0, none⟩)] 25
  key : Blk A (b + 1) (idcs k0) 40
theorem Rng.calm {b : Nat} {k0 : Id} {Z A A' : World} {k : Nat} (h : Rng E ord b k0 Z k A) (hc : Sx.Calm Z.heap.size A A') (hm : E.mt < Z.heap.size) : Rng E ord b k0 Z k A' := by
  obtain ⟨⟨m, h1, h2⟩, h3, h4, h5⟩ := h
  have hlt := h1.lt
  exact ⟨⟨m, h1.mono ((hc.same _ _ (Array.getElem?_eq_getElem hlt) (.inl hm)).trans (Array.getElem?_eq_getElem hlt).symm) (fun _ _ h => h), h2⟩, h3.calm hc, hc.blk h4, hc.blk h5⟩
theorem ucs_one (u : Un) : ∀ v ∈ ucs u, v.oneCell' = true := fun v hv => by
  unfold ucs at hv
  simp only [List.mem_cons, List.not_mem_nil, or_false] at hv
  rcases hv with rfl | rfl | rfl | rfl | rfl | rfl <;> rfl
theorem idxOf_at {l : List Id} (hn : l.Nodup) {i : Nat} (hi : i < l.length) : l.idxOf l[i] = i := List.Nodup.idxOf_getElem hn i hi
attribute [local irreducible] W Lst Qst Pu seqQ blkQ rndQ cutQ retQ Does Enters IntKind.wrap bits sb World.alloc World.putObj Blk
set_option maxHeartbeats 4000000 in
theorem c_Find (k : Id) (hD : ∀ j, j ∈ ord ↔ j ∈ D) (hN : ∀ j ∈ ord, j ∈ N ∧ (ρ j).u.id = j) (hnd : ord.Nodup) (hlen : ord.length ≤ 1000000000) (h : Core w E ord rt N D ρ) :
    Does Tryz.prog 40 #[.pointer (some ⟨E.p, 0, none⟩), idv k] w fun v w' => v = .int .i64 (findV ord D k) ∧ Core w' E ord rt N D ρ ∧ Kept E SF w w' := by
  refine Does_of_marks (args := [.pointer (some ⟨E.p, 0, none⟩), idv k]) Tryz.func40 (by kernel_rfl) rfl rfl rfl rfl rfl ?_
  obtain ⟨so, sr, fresh, m, hS, hO, hR, hM, hF⟩ := id h.seq
  have hlt := hS.lt
  (refine Ga ?_)
  have hbX : Below w.heap.size w ((w.alloc (.cells [.pointer (some ⟨E.p, 0, none⟩)].toArray 25)).alloc (.cells (idcs k).toArray 40)) := Bel
  have kS : Blk ((w.alloc (.cells [.pointer (some ⟨E.p, 0, none⟩)].toArray 25)).alloc (.cells (idcs k).toArray 40)) w.heap.size [.pointer (some ⟨E.p, 0, none⟩)] 25 := (by (repeat (first | assumption | (apply Blk.below (hb := hb1); rotate_left; (focus ((try simp only [Sx.sizes]); omega)); rotate_right) | (apply Blk.below (hb := hb2); rotate_left; (focus ((try simp only [Sx.sizes]); omega)); rotate_right) | (apply Blk.below (hb := hb3); rotate_left; (focus ((try simp only [Sx.sizes]); omega)); rotate_right) | (apply Blk.below (hb := hb4); rotate_left; (focus ((try simp only [Sx.sizes]); omega)); rotate_right) | (apply Blk.below (hb := hb5); rotate_left; (focus ((try simp only [Sx.sizes]); omega)); rotate_right) | (apply Blk.below (hb := hb6); rotate_left; (focus ((try simp only [Sx.sizes]); omega)); rotate_right) | (apply Blk.below (hb := hb7); rotate_left; (focus ((try simp only [Sx.sizes]); omega)); rotate_right) | (apply Blk.below (hb := hb8); rotate_left; (focus ((try simp only [Sx.sizes]); omega)); rotate_right) | (apply Blk.below (hb := hb9); rotate_left; (focus ((try simp only [Sx.sizes]); omega)); rotate_right) | exact Blk.newE (by first | rfl | ((try simp only [Sx.sizes]); first | done | omega)) _ _ | exact Blk.put_same (by (try simp only [Sx.sizes]); first | done | omega) _ _ | (apply Blk.put_ne; (focus omega)) | apply Blk.alloc | apply Blk.drew)); done)
  have kI : Blk ((w.alloc (.cells [.pointer (some ⟨E.p, 0, none⟩)].toArray 25)).alloc (.cells (idcs k).toArray 40)) (w.heap.size + 1) (idcs k) 40 := (by (repeat (first | assumption | (apply Blk.below (hb := hb1); rotate_left; (focus ((try simp only [Sx.sizes]); omega)); rotate_right) | (apply Blk.below (hb := hb2); rotate_left; (focus ((try simp only [Sx.sizes]); omega)); rotate_right) | (apply Blk.below (hb := hb3); rotate_left; (focus ((try simp only [Sx.sizes]); omega)); rotate_right) | (apply Blk.below (hb := hb4); rotate_left; (focus ((try simp only [Sx.sizes]); omega)); rotate_right) | (apply Blk.below (hb := hb5); rotate_left; (focus ((try simp only [Sx.sizes]); omega)); rotate_right) | (apply Blk.below (hb := hb6); rotate_left; (focus ((try simp only [Sx.sizes]); omega)); rotate_right) | (apply Blk.below (hb := hb7); rotate_left; (focus ((try simp only [Sx.sizes]); omega)); rotate_right) | (apply Blk.below (hb := hb8); rotate_left; (focus ((try simp only [Sx.sizes]); omega)); rotate_right) | (apply Blk.below (hb := hb9); rotate_left; (focus ((try simp only [Sx.sizes]); omega)); rotate_right) | exact Blk.newE (by first | rfl | ((try simp only [Sx.sizes]); first | done | omega)) _ _ | exact Blk.put_same (by (try simp only [Sx.sizes]); first | done | omega) _ _ | (apply Blk.put_ne; (focus omega)) | apply Blk.alloc | apply Blk.drew)); done)
  have hX := h.below hbX
  have hSX := hS.below hbX hlt
  have hOX := (Kept.of (E := E) (S := fun _ => False) hbX).row hO (fun h => h)
  have hRX := (Kept.of (E := E) (S := fun _ => False) hbX).row hR (fun h => h)
  have hMX := (Kept.of (E := E) (S := fun _ => False) hbX).map hM (fun h => h)
  generalize (w.alloc (.cells [.pointer (some ⟨E.p, 0, none⟩)].toArray 25)).alloc (.cells (idcs k).toArray 40) = X at *
  have hOw := hO
  have hRw := hR
  have hmlt := hM.lt
  clear hS hO hR hM
  have ltS := kS.lt
  have ltI := kI.lt
  have ltP := hSX.lt
  by_cases hk : k ∈ D
  · have hf : findV ord D k = (ord.idxOf k : Int) := if_pos hk
    refine W_draws (Grown _) rfl (by kernel_rfl) (grown_start _) ?_
    (refine Qb ?_)
    apply Qst_lookup
    focus rfl
    focus rfl
    focus exact fun A9 hA9 => ((hX.below hA9).lookAll k).trans (by rw [if_pos hk])
    focus rfl
    (refine Qb ?_)
    intro w9 hb9
    have b9 := Sx.Below.after (w := w) Bel hb9
    have s9 := hb9.size
    try simp only [Sx.sizes] at s9
    have h9 := hX.below hb9
    have hS9 := hSX.below hb9 ltP
    have hO9 := (Kept.of (E := E) (S := fun _ => False) hb9).row hOX (fun h => h)
    have hR9 := (Kept.of (E := E) (S := fun _ => False) hb9).row hRX (fun h => h)
    have hM9 := (Kept.of (E := E) (S := fun _ => False) hb9).map hMX (fun h => h)
    have kS9 := kS.below hb9 ltS
    have kI9 := kI.below hb9 ltI
    have hbw := hbX.trans (hb9.mono hbX.size)
    clear hX hSX hOX hRX hMX kS kI hbX hb9 s9
    generalize w9 = Y at *
    have ltS := kS9.lt
    have ltI := kI9.lt
    have ltP := hS9.lt
    cases fresh with
    | true =>
      have hlook := hF rfl k ((hD k).2 hk)
      (refine Ga ?_)
      refine W_draws (Grown _) rfl (by kernel_rfl) (grown_start _) ?_
      (refine Qb ?_)
      apply Qst_lookup
      focus rfl
      focus rfl
      focus exact fun A9 hA9 => lookMt ((Kept.of (E := E) (S := fun _ => False) hA9).map hM9 (fun h => h)) k _ hlook
      focus rfl
      (refine Qb ?_)
      intro w8 hb8
      (refine Ga ?_)
      apply retM1p
      focus rfl
      rw [hf]
      exact ⟨rfl, h9.below hb8, .of (hbw.trans (hb8.mono hbw.size))⟩
    | false =>
      (refine Ga ?_)
      (apply Lst_call; (focus rfl); (focus rfl))
      refine (c_All E.p Y _ rfl).mono ?_
      rintro v Z ⟨rfl, rfl⟩
      have hbZ : Below Y.heap.size Y (Y.alloc (.cells [.pointer (some ⟨E.p, 0, none⟩)].toArray 25)) := Bel
      have kB : Blk (Y.alloc (.cells [.pointer (some ⟨E.p, 0, none⟩)].toArray 25)) Y.heap.size [.pointer (some ⟨E.p, 0, none⟩)] 25 := (by (repeat (first | assumption | (apply Blk.below (hb := hb1); rotate_left; (focus ((try simp only [Sx.sizes]); omega)); rotate_right) | (apply Blk.below (hb := hb2); rotate_left; (focus ((try simp only [Sx.sizes]); omega)); rotate_right) | (apply Blk.below (hb := hb3); rotate_left; (focus ((try simp only [Sx.sizes]); omega)); rotate_right) | (apply Blk.below (hb := hb4); rotate_left; (focus ((try simp only [Sx.sizes]); omega)); rotate_right) | (apply Blk.below (hb := hb5); rotate_left; (focus ((try simp only [Sx.sizes]); omega)); rotate_right) | (apply Blk.below (hb := hb6); rotate_left; (focus ((try simp only [Sx.sizes]); omega)); rotate_right) | (apply Blk.below (hb := hb7); rotate_left; (focus ((try simp only [Sx.sizes]); omega)); rotate_right) | (apply Blk.below (hb := hb8); rotate_left; (focus ((try simp only [Sx.sizes]); omega)); rotate_right) | (apply Blk.below (hb := hb9); rotate_left; (focus ((try simp only [Sx.sizes]); omega)); rotate_right) | exact Blk.newE (by first | rfl | ((try simp only [Sx.sizes]); first | done | omega)) _ _ | exact Blk.put_same (by (try simp only [Sx.sizes]); first | done | omega) _ _ | (apply Blk.put_ne; (focus omega)) | apply Blk.alloc | apply Blk.drew)); done)
      (refine Ga ?_)
      have hZ := h9.below hbZ
      have hSZ := hS9.below hbZ ltP
      have kSZ := kS9.below hbZ ltS
      have kIZ := kI9.below hbZ ltI
      have hMZ := (Kept.of (E := E) (S := fun _ => False) hbZ).map hM9 (fun h => h)
      have hOZ := (Kept.of (E := E) (S := fun _ => False) hbZ).row hO9 (fun h => h)
      have hRZ := (Kept.of (E := E) (S := fun _ => False) hbZ).row hR9 (fun h => h)
      have hwZ := b9.trans (hbZ.mono b9.size)
      have hltm := hMZ.lt
      have hsZ := hbZ.size
      have ltB := kB.lt
      generalize Y.alloc (.cells [.pointer (some ⟨E.p, 0, none⟩)].toArray 25) = Z at *
      refine W_rangeA ord.length (encU ord ρ) KC rfl e_All rfl (fun _ => rfl) (g_All Y.heap.size kB hZ (fun j hj => (hN j hj).1) hlen) KC.trans (fun A l r r' hl h => KC.put A l r r' hl h)
        (Rng E ord w.heap.size k Z) (fun _ _ _ => False) (fun _ A A' h hc => h.calm hc hltm) (fun _ _ _ _ h _ => h) ⟨⟨m, hMZ, fun i _ hi => absurd hi (Nat.not_lt_zero _)⟩, .refl _ _ _, kSZ, kIZ⟩
        (fun q x => [(2, .pointer (some ⟨w.heap.size, 0, none⟩)), (5, .int .i64 (q : Int)), (6, .pointer (some ⟨x, 0, none⟩))]) (fun q x A => Rng E ord w.heap.size k Z q A ∧ Blk A x (ucs (ρ (ord.getD q (0, 0))).u) 52)
        (fun _ _ A A' h hc => ⟨h.1.calm hc hltm, hc.blk h.2⟩) ?_ ?_ ?_ ?_
      · intro l q A hq hR
        unfold encU
        (refine Ga ?_)
        have hbA : Below A.heap.size A ((A.alloc (.cells [.int .u64 0, .int .u64 0, .int .u64 0, .int .u64 0, .int .u64 0, .int .u64 0].toArray 52)).putObj A.heap.size (.cells (ucs (ρ (ord.getD q (0, 0))).u).toArray 52)) := Bel
        have kN : Blk ((A.alloc (.cells [.int .u64 0, .int .u64 0, .int .u64 0, .int .u64 0, .int .u64 0, .int .u64 0].toArray 52)).putObj A.heap.size (.cells (ucs (ρ (ord.getD q (0, 0))).u).toArray 52)) A.heap.size (ucs (ρ (ord.getD q (0, 0))).u) 52 := (by (repeat (first | assumption | (apply Blk.below (hb := hb1); rotate_left; (focus ((try simp only [Sx.sizes]); omega)); rotate_right) | (apply Blk.below (hb := hb2); rotate_left; (focus ((try simp only [Sx.sizes]); omega)); rotate_right) | (apply Blk.below (hb := hb3); rotate_left; (focus ((try simp only [Sx.sizes]); omega)); rotate_right) | (apply Blk.below (hb := hb4); rotate_left; (focus ((try simp only [Sx.sizes]); omega)); rotate_right) | (apply Blk.below (hb := hb5); rotate_left; (focus ((try simp only [Sx.sizes]); omega)); rotate_right) | (apply Blk.below (hb := hb6); rotate_left; (focus ((try simp only [Sx.sizes]); omega)); rotate_right) | (apply Blk.below (hb := hb7); rotate_left; (focus ((try simp only [Sx.sizes]); omega)); rotate_right) | (apply Blk.below (hb := hb8); rotate_left; (focus ((try simp only [Sx.sizes]); omega)); rotate_right) | (apply Blk.below (hb := hb9); rotate_left; (focus ((try simp only [Sx.sizes]); omega)); rotate_right) | exact Blk.newE (by first | rfl | ((try simp only [Sx.sizes]); first | done | omega)) _ _ | exact Blk.put_same (by (try simp only [Sx.sizes]); first | done | omega) _ _ | (apply Blk.put_ne; (focus omega)) | apply Blk.alloc | apply Blk.drew)); done)
        apply Lst_storeA (hb := Blk.newE rfl _ _) (vs := ucs (ρ (ord.getD q (0, 0))).u) (l' := ucs (ρ (ord.getD q (0, 0))).u)
        focus rfl
        focus rfl
        focus rfl
        focus rfl
        focus exact ucs_one _
        focus (unfold ucs; repeat constructor)
        apply Lst_nil
        exact ⟨rfl, A.heap.size, ⟨rfl, rfl, rfl, trivial⟩, ⟨hR.calm (Sx.Below.calm hbA (Nat.le_refl _)) hltm, kN⟩, KF.of hbA, KC.of hbA⟩
      · rintro l q x J A hq ⟨hR, kU⟩
        obtain ⟨⟨m1, hm1, hl1⟩, hk1, hb1, hi1⟩ := hR
        have hSA := hk1.blk hSZ (by rw [h.tp]; simp)
        have ltU := kU.lt
        have ltb := hb1.lt
        have ltp := hSA.lt
        have hid : (ρ (ord.getD q (0, 0))).u.id = ord[q] := by
          rw [List.getD_eq_getElem?_getD, List.getElem?_eq_getElem hq]
          exact (hN _ (List.getElem_mem hq)).2
        generalize (ρ (ord.getD q (0, 0))).u = u at *
        unfold ucs at kU
        (refine Ga ?_)
        refine W_draw 7 (Grown A) rfl (by kernel_rfl) (grown_start A) ?_
        (refine Qb ?_)
        intro w8 hb8
        have hm8 := (Kept.of (E := E) (S := fun _ => False) hb8).map hm1 (fun h => h)
        apply SxG.Lst_mapput (k := u.id) (ky := idv) (R := RI) (v := .int .i64 (q : Int)) q
        focus rfl
        focus rfl
        focus rfl
        focus rfl
        focus exact idKey
        focus exact hm8
        focus rfl
        intro w7 hm7 hc7 _
        (refine Ga ?_)
        have hmt8 : E.mt < Z.heap.size := hltm
        refine ⟨(KF.of hb8).trans (KF.map hc7 hmt8), (KC.of hb8).trans (KC.map hc7 (mp_cells hm8)), ⟨_, hm7, fun i hi hiq => ?_⟩, (hk1.trans (.of hb8)).trans (.ofChg hc7 (fun b hb => by rw [List.mem_singleton.1 hb]; exact h.tmt)), hc7.blk (hb1.below hb8 ltb) ?_, hc7.blk (hi1.below hb8 hi1.lt) ?_⟩
        · rw [SxG.look_put]
          by_cases e : ord[i] = u.id
          · rw [if_pos e]
            have : i = q := by
              have h1 := idxOf_at hnd hi
              have h2 := idxOf_at hnd hq
              rw [e, hid, h2] at h1
              exact h1.symm
            rw [this]
          · rw [if_neg e]
            exact hl1 i hi (by
              rcases Nat.lt_or_ge i q with h | h
              · exact h
              · exfalso
                obtain rfl : i = q := by omega
                exact e hid.symm)
        · simp only [List.mem_singleton]
          rintro e
          rw [e] at hb1
          have h1 := mp_cells hm1 _ (Blk.raw hb1)
          cases h1
        · simp only [List.mem_singleton]
          rintro e
          rw [e] at hi1
          have h1 := mp_cells hm1 _ (Blk.raw hi1)
          cases h1
      · intro d A hd hR hA
        obtain ⟨⟨m1, hm1, hl1⟩, hk1, hb1, hi1⟩ := hR
        have hSA := hk1.blk hSZ (by rw [h.tp]; simp)
        have ltb := hb1.lt
        have ltp := hSA.lt
        have lti := hi1.lt
        have hpd : E.p ≠ d := by omega
        have hbd : w.heap.size ≤ d := Nat.le_trans hwZ.size hd
        have hkw : Kept E SF w A := (Kept.of hwZ).trans (hk1.mono fun t ht => .inr ht)
        have hne1 : E.p ≠ w.heap.size := by omega
        have hne2 : E.p ≠ w.heap.size + 1 := by omega
        have hlook : SxG.look m1 k = some (ord.idxOf k) := by
          have hi : ord.idxOf k < ord.length := List.idxOf_lt_length_iff.2 ((hD k).2 hk)
          have := hl1 (ord.idxOf k) hi hi
          rwa [List.getElem_idxOf] at this
        have hall : ∀ j ∈ ord, SxG.look m1 j = some (ord.idxOf j) := fun j hj => by
          have hi : ord.idxOf j < ord.length := List.idxOf_lt_length_iff.2 hj
          have := hl1 (ord.idxOf j) hi hi
          rwa [List.getElem_idxOf] at this
        (refine Ga ?_)
        have hkp := hkw.trans (Kept.put (S := SF) E.p (.inl h.tp) (.cells [.map (some E.ma), so, sr, .map (some E.mt), .bool true].toArray 83))
        have hpm : E.mt ≠ E.p := fun e => by
          have := h.tmt
          rw [e, h.tp] at this
          cases this
        have hSV : Blk (A.putObj E.p (.cells [.map (some E.ma), so, sr, .map (some E.mt), .bool true].toArray 83)) E.p [.map (some E.ma), so, sr, .map (some E.mt), .bool true] 83 := Blk.put_same ltp _ _
        have hMV : SxG.MpAt idv (A.putObj E.p (.cells [.map (some E.ma), so, sr, .map (some E.mt), .bool true].toArray 83)) E.mt RI m1 := hm1.mono (World.putObj_heap_other hpm) (fun _ _ h => h)
        have hbV : Blk (A.putObj E.p (.cells [.map (some E.ma), so, sr, .map (some E.mt), .bool true].toArray 83)) w.heap.size [.pointer (some ⟨E.p, 0, none⟩)] 25 := Blk.put_ne (Ne.symm hne1) hb1
        have hiV : Blk (A.putObj E.p (.cells [.map (some E.ma), so, sr, .map (some E.mt), .bool true].toArray 83)) (w.heap.size + 1) (idcs k) 40 := Blk.put_ne (Ne.symm hne2) hi1
        have hAV : (A.putObj E.p (.cells [.map (some E.ma), so, sr, .map (some E.mt), .bool true].toArray 83)).heap[d]? = some (.deferred (some [])) := (World.putObj_heap_other (Ne.symm hpd)).trans hA
        generalize A.putObj E.p (.cells [.map (some E.ma), so, sr, .map (some E.mt), .bool true].toArray 83) = V at *
        have ltpV := hSV.lt
        have ltbV := hbV.lt
        have ltiV := hiV.lt
        have ltd := lt_of_some hAV
        refine W_draws (Grown _) rfl (by kernel_rfl) (grown_start _) ?_
        (refine Qb ?_)
        apply Qst_lookup
        focus rfl
        focus rfl
        focus exact fun A9 hA9 => lookMt ((Kept.of (E := E) (S := fun _ => False) hA9).map hMV (fun h => h)) k _ hlook
        focus rfl
        (refine Qb ?_)
        intro w8 hb8
        have hk8 := hkp.trans (.of hb8)
        have hA8 := (hb8.block d ltd).trans hAV
        have hS8 := hSV.below hb8 ltpV
        have hM8 := (Kept.of (E := E) (S := fun _ => False) hb8).map hMV (fun h => h)
        (refine Ga ?_)
        refine retM1 hA8 rfl ?_
        rw [hf]
        have hkf := hk8.putNew hbd (.deferred none)
        have hmd : E.mt ≠ d := by omega
        exact ⟨rfl, Kept.coreF h hkf hOw hRw (Blk.put_ne hpd hS8) (hM8.mono (World.putObj_heap_other hmd) (fun _ _ h => h)) (fun _ => hall), hkf⟩
      · intro d c q A _ _ _ h
        exact h.elim
  · have hf : findV ord D k = -1 := if_neg hk
    refine W_draws (Grown _) rfl (by kernel_rfl) (grown_start _) ?_
    (refine Qb ?_)
    apply Qst_lookup
    focus rfl
    focus rfl
    focus exact fun A9 hA9 => ((hX.below hA9).lookAll k).trans (by rw [if_neg hk])
    focus rfl
    (refine Qb ?_)
    intro w9 hb9
    have b9 := Sx.Below.after (w := w) Bel hb9
    have s9 := hb9.size
    try simp only [Sx.sizes] at s9
    (refine Ga ?_)
    apply retM1p
    focus rfl
    rw [hf]
    exact ⟨rfl, hX.below hb9, .of b9⟩
end Sq
namespace Sq
open Go Go.RowKit Sx Tl
section rules
variable {P : Program} {rd : Option Nat} {n : Nat} {ops : Array Oper} {Q : Post} {rest : List Oper} {F : Fr} {ds : List Deferred} {w : World} {ty : TypeId} {pos : String} {after : Array Edge}
theorem Lst_ptreq {d : Nat} {t t' te : TypeId} {x y : Operand} {a b : Nat} {j : TypeInfo} {la lb : List Value} {ea eb : TypeId} (r : Bool) (hx : ev F x = .pointer (some ⟨a, 0, none⟩)) (hy : ev F y = .pointer (some ⟨b, 0, none⟩)) (ht : P.underlying t = some (.pointer te)) (hj : P.info? te = some j) (hsz : j.size ≠ 0)
    (ha : Blk w a la ea) (hb : Blk w b lb eb) (hr : decide (a = b) = r) (hd : Nat.blt d n = true) (h : Lst P rd n ops Q rest (upd F d (.bool r)) ds w) : Lst P rd n ops Q (⟨some d, .binOp .eql t x y t', ty, pos, after, none⟩ :: rest) F ds w := by
  refine Lst_value (v := .bool r) (w' := w) rfl ?_ hd h
  refine bin_run hx hy guard_ptr ?_
  subst hr
  by_cases e : a = b
  · subst e
    rw [decide_eq_true rfl]
    exact run_eql_ptr_same w ⟨a, 0, none⟩ ht hj
  · rw [decide_eq_false e]
    exact run_eql_ptr_other w ht hj hsz (fun h => e (by injection h)) ha hb
theorem retQ_g {rs : List ResultVar} {R : Value → World → Prop} : ∀ l F ds w, ¬ retQ P rs R (.goto l) F ds w := fun _ _ _ _ h => h
end rules
variable {E : Env} {ord rt N D : List Id} {ρ : Id → Rec} {w : World}
/-- How far behind a right child's Right stands. -/
def farV (ord D : List Id) (u : Un) : Int := if u.r = Fo.none' then (ord.length : Int) else findV ord D u.r
def aheadV (ord D : List Id) (a b : Un) : Bool := if farV ord D a = farV ord D b then Fo.lt a.id b.id else decide (farV ord D b < farV ord D a)
/-- Those above one. -/
def Chain (ρ : Id → Rec) (N : List Id) : Id → List Id → Prop
  | k, [] => (ρ k).par = none
  | k, j :: c => (ρ k).par = some j ∧ j ∈ N ∧ Chain ρ N j c
theorem Core.ad_inj (h : Core w E ord rt N D ρ) {j k : Id} (hj : j ∈ N) (hk : k ∈ N) (e : E.ad j = E.ad k) : j = k := by
  have h1 := (h.nodes j hj).tag
  rw [e, (h.nodes k hk).tag] at h1
  cases h1
  rfl
attribute [local irreducible] W Lst Qst Pu seqQ blkQ rndQ cutQ retQ Does Enters IntKind.wrap bits sb World.alloc World.putObj Blk
theorem c_Len (h : Core w E ord rt N D ρ) : Does Tryz.prog 29 #[.pointer (some ⟨E.p, 0, none⟩)] w fun v w' => v = .int .i64 (ord.length : Int) ∧ w = w' := by
  refine Does_of (args := [.pointer (some ⟨E.p, 0, none⟩)]) Tryz.func29 (by kernel_rfl) rfl rfl rfl rfl rfl ?_
  obtain ⟨so, sr, fresh, m, hS, hO, hR, hM, hF⟩ := h.seq
  obtain ⟨a, c, rfl, _, _⟩ := hO.at
  (refine Ga ?_)
  (apply retQ1; (focus rfl))
  exact ⟨rfl, rfl⟩
theorem c_far (k : Id) (hkN : k ∈ N) (hD : ∀ j, j ∈ ord ↔ j ∈ D) (hN : ∀ j ∈ ord, j ∈ N ∧ (ρ j).u.id = j) (hnd : ord.Nodup) (hlen : ord.length ≤ 1000000000) (h : Core w E ord rt N D ρ) :
    Does Tryz.prog 98 #[.pointer (some ⟨E.p, 0, none⟩), pv E k] w fun v w' => v = .int .i64 (farV ord D (ρ k).u) ∧ Core w' E ord rt N D ρ ∧ Kept E SF w w' := by
  refine Does_of (args := [.pointer (some ⟨E.p, 0, none⟩), pv E k]) Tryz.func98 (by kernel_rfl) rfl rfl rfl rfl rfl ?_
  have hn0 := h.nodes k hkN
  obtain ⟨_, sl, sr, hn, _, _⟩ := hn0
  unfold ncs at hn
  unfold pv
  (refine Ga ?_)
  (apply Lst_call; (focus rfl); (focus rfl))
  refine (n_none (ρ k).u.r w).mono ?_
  rintro v w1 ⟨rfl, hb1⟩
  by_cases hr : (ρ k).u.r = Fo.none'
  · rw [decide_eq_true hr]
    have h1 := h.below hb1
    obtain ⟨so, sr, fresh, m, hS, hO, hR, hM, hF⟩ := h1.seq
    obtain ⟨a, c, rfl, _, _⟩ := hO.at
    (refine Ga ?_)
    (apply retQ1; (focus rfl))
    exact ⟨by rw [farV, if_pos hr]; rfl, h1, .of hb1⟩
  · rw [decide_eq_false hr]
    have h1 := h.below hb1
    have hn := hn.below hb1 hn.lt
    (refine Ga ?_)
    (apply Lst_call; (focus rfl); (focus rfl))
    refine (c_Find (ρ k).u.r hD hN hnd hlen h1).mono ?_
    rintro v w2 ⟨rfl, h2, hk2⟩
    (refine Ga ?_)
    (apply retQ1; (focus rfl))
    exact ⟨by rw [farV, if_neg hr]; rfl, h2, (Kept.of hb1).trans hk2⟩
theorem c_under (k top : Id) (l : List Id) (hkN : k ∈ N) (htN : top ∈ N) (hc : Chain ρ N k l) (h : Core w E ord rt N D ρ) :
    Does Tryz.prog 70 #[.pointer (some ⟨E.p, 0, none⟩), pv E k, pv E top] w fun v w' => v = .bool (decide (top ∈ l)) ∧ w = w' := by
  refine Does_of (args := [.pointer (some ⟨E.p, 0, none⟩), pv E k, pv E top]) Tryz.func70 (by kernel_rfl) rfl rfl rfl rfl rfl ?_
  (refine Ga ?_)
  apply W_scope
  focus exact retQ_g
  (refine Ga ?_)
  apply W_label
  (refine Ga ?_)
  refine W_loop (α := Id × List Id) (fun x => [(1, pv E x.1), (2, pv E top)]) (fun x A => x.1 ∈ N ∧ Chain ρ N x.1 x.2 ∧ (top ∈ l ↔ top ∈ x.2) ∧ w = A) (fun x _ => x.2.length) (k, l) ⟨hkN, hc, Iff.rfl, rfl⟩ ⟨rfl, rfl, trivial⟩ ?_
  rintro J ⟨j, c⟩ A ⟨hj, hc, hi, rfl⟩
  obtain ⟨_, sl, sr, hn, _, _⟩ := h.nodes j hj
  obtain ⟨_, tl, tr, ht, _, _⟩ := h.nodes top htN
  unfold ncs at hn ht
  unfold pv
  cases c with
  | nil =>
    have hp : (ρ j).par = none := hc
    rw [hp] at hn
    unfold parv at hn
    (refine Ga ?_)
    (apply retQ1; (focus rfl))
    refine ⟨?_, rfl⟩
    rw [decide_eq_false (fun hm => by have := hi.1 hm; cases this)]
    rfl
  | cons i c =>
    obtain ⟨hp, hiN, hc⟩ := hc
    rw [hp] at hn
    unfold parv pv at hn
    have hni := h.nodes i hiN
    obtain ⟨_, il, ir, hbi, _, _⟩ := hni
    (refine Ga ?_)
    apply Lst_ptreq (decide (i = top)) (ha := hbi) (hb := ht)
    focus rfl
    focus rfl
    focus rfl
    focus rfl
    focus decide
    focus (rw [decide_eq_decide]; exact ⟨fun e => h.ad_inj hiN htN e, fun e => by rw [e]⟩)
    focus rfl
    by_cases e : i = top
    · rw [decide_eq_true e]
      (refine Ga ?_)
      (apply retQ1; (focus rfl))
      refine ⟨?_, rfl⟩
      rw [decide_eq_true (hi.2 (by rw [← e]; exact List.mem_cons_self ..))]
      rfl
    · rw [decide_eq_false e]
      (refine Ga ?_)
      refine rndQ_n (α := Id × List Id) (i, c) ⟨hiN, hc, hi.trans ⟨fun hm => ?_, fun hm => List.mem_cons_of_mem _ hm⟩, rfl⟩ ⟨rfl, rfl, trivial⟩ (by simp)
      rcases List.mem_cons.1 hm with hm | hm
      · exact absurd hm.symm e
      · exact hm
theorem c_ahead (i j : Id) (hiN : i ∈ N) (hjN : j ∈ N) (hD : ∀ j, j ∈ ord ↔ j ∈ D) (hN : ∀ j ∈ ord, j ∈ N ∧ (ρ j).u.id = j) (hnd : ord.Nodup) (hlen : ord.length ≤ 1000000000) (h : Core w E ord rt N D ρ) :
    Does Tryz.prog 85 #[.pointer (some ⟨E.p, 0, none⟩), pv E i, pv E j] w fun v w' => v = .bool (aheadV ord D (ρ i).u (ρ j).u) ∧ Core w' E ord rt N D ρ ∧ Kept E SF w w' := by
  refine Does_of (args := [.pointer (some ⟨E.p, 0, none⟩), pv E i, pv E j]) Tryz.func85 (by kernel_rfl) rfl rfl rfl rfl rfl ?_
  (refine Ga ?_)
  (apply Lst_call; (focus rfl); (focus rfl))
  refine (c_far i hiN hD hN hnd hlen h).mono ?_
  rintro v w1 ⟨rfl, h1, hk1⟩
  (refine Ga ?_)
  (apply Lst_call; (focus rfl); (focus rfl))
  refine (c_far j hjN hD hN hnd hlen h1).mono ?_
  rintro v w2 ⟨rfl, h2, hk2⟩
  have hk := hk1.trans hk2
  clear h1 hk1 hk2
  by_cases he : farV ord D (ρ i).u = farV ord D (ρ j).u
  · obtain ⟨_, il, ir, hi, _, _⟩ := h2.nodes i hiN
    obtain ⟨_, jl, jr, hj, _, _⟩ := h2.nodes j hjN
    have hli := hi.lt
    have hlj := hj.lt
    unfold ncs at hi hj
    unfold pv
    have ha : aheadV ord D (ρ i).u (ρ j).u = Fo.lt (ρ i).u.id (ρ j).u.id := if_pos he
    rw [he]
    (refine Ga ?_)
    refine W_draws (Grown _) rfl (by kernel_rfl) (grown_start _) ?_
    (refine Qb ?_)
    apply Qst_call (.bool (Fo.lt (ρ i).u.id (ρ j).u.id))
    focus rfl
    focus rfl
    · intro A9 hb9
      exact (n_Less (ρ i).u.id (ρ j).u.id A9).mono fun v w' h => ⟨h.1, Sx.Below.after hb9 h.2⟩
    (refine Qb ?_)
    intro w8 hb8
    (refine Ga ?_)
    (apply retQ1; (focus rfl))
    exact ⟨by rw [ha]; rfl, h2.below hb8, hk.trans (.of hb8)⟩
  · have ha : aheadV ord D (ρ i).u (ρ j).u = decide (farV ord D (ρ j).u < farV ord D (ρ i).u) := if_neg he
    generalize farV ord D (ρ i).u = x at *
    generalize farV ord D (ρ j).u = y at *
    (refine Ga ?_)
    by_cases hl : y < x
    · (refine Ga ?_)
      (apply retQ1; (focus rfl))
      exact ⟨by rw [ha, decide_eq_true hl]; rfl, h2, hk⟩
    · (refine Ga ?_)
      (apply retQ1; (focus rfl))
      exact ⟨by rw [ha, decide_eq_false hl]; rfl, h2, hk⟩
end Sq
namespace Sq
open Go Go.RowKit Sx Tl
variable {E : Env} {ord rt N D : List Id} {ρ : Id → Rec} {w : World}
def fset (ρ : Id → Rec) (k : Id) (r : Rec) : Id → Rec := fun j => if j = k then r else ρ j
theorem fset_same (ρ : Id → Rec) (k : Id) (r : Rec) : fset ρ k r k = r := if_pos rfl
theorem fset_ne {ρ : Id → Rec} {k j : Id} {r : Rec} (h : j ≠ k) : fset ρ k r j = ρ j := if_neg h
/-- The same places; tags of new blocks may be new. -/
structure Ex (E : Env) (w : World) (E' : Env) (w' : World) : Prop where
  p : E'.p = E.p
  ma : E'.ma = E.ma
  mt : E'.mt = E.mt
  ad : E'.ad = E.ad
  old : ∀ g, g < w.heap.size → E'.tg g = E.tg g
  far : ∀ g, w'.heap.size ≤ g → E'.tg g = E.tg g
theorem Ex.refl (E : Env) (w w' : World) : Ex E w E w' := ⟨rfl, rfl, rfl, rfl, fun _ _ => rfl, fun _ _ => rfl⟩
theorem Ex.trans {E' E'' : Env} {w' w'' : World} (h : Ex E w E' w') (k : Ex E' w' E'' w'') (h1 : w.heap.size ≤ w'.heap.size) (h2 : w'.heap.size ≤ w''.heap.size) : Ex E w E'' w'' :=
  ⟨k.p.trans h.p, k.ma.trans h.ma, k.mt.trans h.mt, k.ad.trans h.ad, fun g hg => (k.old g (Nat.lt_of_lt_of_le hg h1)).trans (h.old g hg), fun g hg => (k.far g hg).trans (h.far g (Nat.le_trans h2 hg))⟩
theorem Ex.pv {E' : Env} {w' : World} (h : Ex E w E' w') : pv E' = pv E := funext fun k => by unfold Sq.pv; rw [h.ad]
theorem Ex.parv {E' : Env} {w' : World} (h : Ex E w E' w') : parv E' = parv E := funext fun k => by
  cases k with
  | none => rfl
  | some k => exact congrFun h.pv k
theorem Ex.ncs {E' : Env} {w' : World} (h : Ex E w E' w') : ncs E' = ncs E := funext fun r => funext fun a => funext fun b => by unfold Sq.ncs; rw [h.parv]
theorem Ex.row {E' : Env} {A w' : World} {τ : Tag} {v : Value} {l : List Id} (h : Ex E w E' w') (hr : RowAt A E τ v l) (hA : A.heap.size ≤ w.heap.size) : RowAt A E' τ v l :=
  ⟨by rw [h.pv]; exact hr.own, fun g hg => (h.old g (Nat.lt_of_lt_of_le (own_ltg hr.own hg) hA)).trans (hr.tag g hg)⟩
theorem Ex.node {E' : Env} {A w' : World} {k : Id} {r : Rec} (h : Ex E w E' w') (hn : NodeAt A E k r) (hA : A.heap.size ≤ w.heap.size) : NodeAt A E' k r := by
  obtain ⟨ht, sl, sr, hb, hl, hr⟩ := hn
  exact ⟨by rw [h.ad, h.old _ (Nat.lt_of_lt_of_le hb.lt hA)]; exact ht, sl, sr, by rw [h.ad, h.ncs]; exact hb, h.row hl hA, h.row hr hA⟩
theorem Core.ext {E' : Env} {A w' : World} (h : Core A E ord rt N D ρ) (x : Ex E w E' w') (hA : A.heap.size ≤ w.heap.size) : Core A E' ord rt N D ρ := by
  obtain ⟨so, sr, fresh, m, h1, h2, h3, h4, h5⟩ := h.seq
  obtain ⟨es, h6, h7⟩ := h.all
  refine ⟨?_, ?_, ?_, ⟨so, sr, fresh, m, ?_, x.row h2 hA, x.row h3 hA, ?_, h5⟩, ⟨es, ?_, ?_⟩, fun k hk => x.node (h.nodes k hk) hA⟩
  · rw [x.p, x.old _ (Nat.lt_of_lt_of_le h1.lt hA)]; exact h.tp
  · rw [x.ma, x.old _ (Nat.lt_of_lt_of_le h6.lt hA)]; exact h.tma
  · rw [x.mt, x.old _ (Nat.lt_of_lt_of_le h4.lt hA)]; exact h.tmt
  · rw [x.p, x.ma, x.mt]; exact h1
  · rw [x.mt]; exact h4
  · rw [x.ma]; exact h6
  · rw [x.ad]; exact h7
/-- One node has turned. -/
theorem Core.updNode {S : Tag → Prop} {w' : World} {k : Id} {r : Rec} (h : Core w E ord rt N D ρ) (hk : Kept E S w w') (hs : ∀ t, S t → t = .other ∨ t = .node k ∨ t = .left k ∨ t = .right k) (hn : NodeAt w' E k r) : Core w' E ord rt N D (fset ρ k r) := by
  have no : ∀ t, t ≠ .other → t ≠ .node k → t ≠ .left k → t ≠ .right k → ¬ S t := fun t h1 h2 h3 h4 hS => by
    rcases hs t hS with h | h | h | h
    · exact h1 h
    · exact h2 h
    · exact h3 h
    · exact h4 h
  obtain ⟨so, sr, fresh, m, h1, h2, h3, h4, h5⟩ := h.seq
  obtain ⟨es, h6, h7⟩ := h.all
  refine ⟨h.tp, h.tma, h.tmt, ⟨so, sr, fresh, m, hk.blk h1 (by rw [h.tp]; exact no _ (by simp) (by simp) (by simp) (by simp)), hk.row h2 (no _ (by simp) (by simp) (by simp) (by simp)), hk.row h3 (no _ (by simp) (by simp) (by simp) (by simp)), hk.map h4 (by rw [h.tmt]; exact no _ (by simp) (by simp) (by simp) (by simp)), h5⟩,
    ⟨es, hk.map h6 (by rw [h.tma]; exact no _ (by simp) (by simp) (by simp) (by simp)), h7⟩, fun j hj => ?_⟩
  by_cases e : j = k
  · subst e
    rw [fset_same]
    exact hn
  · rw [fset_ne e]
    exact hk.node (h.nodes j hj) (no _ (by simp) (by simpa using e) (by simp) (by simp)) (no _ (by simp) (by simp) (by simpa using e) (by simp)) (no _ (by simp) (by simp) (by simp) (by simpa using e))
/-- The sequence's own struct has turned, and its rows. -/
theorem Core.updSeq {S : Tag → Prop} {w' : World} {ord' rt' : List Id} (h : Core w E ord rt N D ρ) (hk : Kept E S w w') (hs : ∀ t, S t → t = .other ∨ t = .seq ∨ t = .order ∨ t = .root ∨ t = .at')
    (hn : ∃ so sr fresh m, Blk w' E.p [.map (some E.ma), so, sr, .map (some E.mt), .bool fresh] 83 ∧ RowAt w' E .order so ord' ∧ RowAt w' E .root sr rt' ∧ SxG.MpAt idv w' E.mt RI m ∧ (fresh = true → ∀ k ∈ ord', SxG.look m k = some (ord'.idxOf k))) : Core w' E ord' rt' N D ρ := by
  have no : ∀ t, t ≠ .other → t ≠ .seq → t ≠ .order → t ≠ .root → t ≠ .at' → ¬ S t := fun t h1 h2 h3 h4 h5 hS => by
    rcases hs t hS with h | h | h | h | h
    · exact h1 h
    · exact h2 h
    · exact h3 h
    · exact h4 h
    · exact h5 h
  obtain ⟨es, h6, h7⟩ := h.all
  exact ⟨h.tp, h.tma, h.tmt, hn, ⟨es, hk.map h6 (by rw [h.tma]; exact no _ (by simp) (by simp) (by simp) (by simp) (by simp)), h7⟩, fun j hj => hk.node (h.nodes j hj) (no _ (by simp) (by simp) (by simp) (by simp) (by simp)) (no _ (by simp) (by simp) (by simp) (by simp) (by simp)) (no _ (by simp) (by simp) (by simp) (by simp) (by simp))⟩
/-- A unit is there now: by its id its node is told. -/
theorem Core.updAll {S : Tag → Prop} {w' : World} {D' : List Id} (h : Core w E ord rt N D ρ) (hk : Kept E S w w') (hs : ∀ t, S t → t = .other ∨ t = .all) (hn : ∃ es, SxG.MpAt idv w' E.ma RP es ∧ ∀ k, SxG.look es k = if k ∈ D' then some (E.ad k) else none) : Core w' E ord rt N D' ρ := by
  have no : ∀ t, t ≠ .other → t ≠ .all → ¬ S t := fun t h1 h2 hS => by
    rcases hs t hS with h | h
    · exact h1 h
    · exact h2 h
  obtain ⟨so, sr, fresh, m, h1, h2, h3, h4, h5⟩ := h.seq
  exact ⟨h.tp, h.tma, h.tmt, ⟨so, sr, fresh, m, hk.blk h1 (by rw [h.tp]; exact no _ (by simp) (by simp)), hk.row h2 (no _ (by simp) (by simp)), hk.row h3 (no _ (by simp) (by simp)), hk.map h4 (by rw [h.tmt]; exact no _ (by simp) (by simp)), h5⟩, hn,
    fun j hj => hk.node (h.nodes j hj) (no _ (by simp) (by simp)) (no _ (by simp) (by simp)) (no _ (by simp) (by simp))⟩
/-- All that is told of is there. -/
structure Clo (ord rt N D : List Id) (ρ : Id → Rec) : Prop where
  ord : ∀ j ∈ ord, j ∈ N
  rt : ∀ j ∈ rt, j ∈ N
  D : ∀ j ∈ D, j ∈ N
  L : ∀ k ∈ N, ∀ j ∈ (ρ k).L, j ∈ N
  R : ∀ k ∈ N, ∀ j ∈ (ρ k).R, j ∈ N
  par : ∀ k ∈ N, ∀ j, (ρ k).par = some j → j ∈ N
def Env.node (E : Env) (x : Id) (b : Nat) : Env := { E with ad := fun j => if j = x then b else E.ad j, tg := fun g => if g = b then .node x else E.tg g }
theorem map_pvx {x : Id} {b : Nat} {l : List Id} (h : x ∉ l) : l.map (pv (E.node x b)) = l.map (pv E) := List.map_congr_left fun j hj => by
  have : j ≠ x := fun e => h (e ▸ hj)
  show Value.pointer (some ⟨if j = x then b else E.ad j, 0, none⟩) = _
  rw [if_neg this]
  rfl
theorem row_x {x : Id} {b : Nat} {τ : Tag} {v : Value} {l : List Id} (h : RowAt w E τ v l) (hx : x ∉ l) (hb : w.heap.size ≤ b) : RowAt w (E.node x b) τ v l :=
  ⟨by rw [map_pvx hx]; exact h.own, fun g hg => by
    have := own_ltg h.own hg
    show (if g = b then Tag.node x else E.tg g) = τ
    rw [if_neg (by omega)]
    exact h.tag g hg⟩
/-- A node that nothing tells of yet. -/
theorem Core.newNode {x : Id} {r : Rec} {sl sr : Value} {A : World} (h : Core w E ord rt N D ρ) (hc : Clo ord rt N D ρ) (hx : x ∉ N) (hA : Below w.heap.size w A) {b : Nat} (hlb : w.heap.size ≤ b) (hb : Blk A b (ncs (E.node x b) r sl sr) 115) (hl : RowAt A (E.node x b) (.left x) sl r.L) (hr : RowAt A (E.node x b) (.right x) sr r.R) :
    Core A (E.node x b) ord rt (x :: N) D (fset ρ x r) := by
  have tgo : ∀ g, g < w.heap.size → (E.node x b).tg g = E.tg g := fun g hg => if_neg (by omega)
  have ado : ∀ j, j ∈ N → (E.node x b).ad j = E.ad j := fun j hj => if_neg (fun e : j = x => hx (e ▸ hj))
  obtain ⟨so, sr', fresh, m, h1, h2, h3, h4, h5⟩ := h.seq
  obtain ⟨es, h6, h7⟩ := h.all
  have hk := Kept.of (E := E) (S := fun _ => False) hA
  have kk : ∀ j ∈ N, NodeAt A (E.node x b) j (ρ j) := fun j hj => by
    obtain ⟨t1, sl1, sr1, t2, t3, t4⟩ := h.nodes j hj
    refine ⟨?_, sl1, sr1, ?_, ?_, ?_⟩
    · rw [ado j hj, tgo _ t2.lt]
      exact t1
    · rw [ado j hj]
      have : ncs (E.node x b) (ρ j) sl1 sr1 = ncs E (ρ j) sl1 sr1 := by
        have hp : parv (E.node x b) (ρ j).par = parv E (ρ j).par := by
          cases e : (ρ j).par with
          | none => rfl
          | some q =>
            show Value.pointer (some ⟨(E.node x b).ad q, 0, none⟩) = _
            rw [ado q (hc.par j hj q e)]
            rfl
        unfold ncs
        rw [hp]
      rw [this]
      exact hk.blk t2 (fun h => h)
    · have := row_x (b := b) t3 (fun hm => hx (hc.L j hj x hm)) hlb
      exact ⟨own_kept this.own fun g hg => hA.block g (own_ltg t3.own hg), this.tag⟩
    · have := row_x (b := b) t4 (fun hm => hx (hc.R j hj x hm)) hlb
      exact ⟨own_kept this.own fun g hg => hA.block g (own_ltg t4.own hg), this.tag⟩
  refine ⟨(tgo _ h1.lt).trans h.tp, (tgo _ h6.lt).trans h.tma, (tgo _ h4.lt).trans h.tmt, ⟨so, sr', fresh, m, hk.blk h1 (fun h => h), ?_, ?_, hk.map h4 (fun h => h), h5⟩, ⟨es, hk.map h6 (fun h => h), fun k => ?_⟩, fun j hj => ?_⟩
  · have := row_x (b := b) h2 (fun hm => hx (hc.ord x hm)) hlb
    exact ⟨own_kept this.own fun g hg => hA.block g (own_ltg h2.own hg), this.tag⟩
  · have := row_x (b := b) h3 (fun hm => hx (hc.rt x hm)) hlb
    exact ⟨own_kept this.own fun g hg => hA.block g (own_ltg h3.own hg), this.tag⟩
  · rw [h7]
    by_cases e : k ∈ D
    · rw [if_pos e, if_pos e, ado k (hc.D k e)]
    · rw [if_neg e, if_neg e]
  · by_cases e : j = x
    · subst e
      rw [fset_same]
      exact ⟨by show (if (if j = j then b else E.ad j) = b then Tag.node j else _) = _; rw [if_pos rfl, if_pos rfl], sl, sr, by show Blk A (if j = j then b else E.ad j) _ _; rw [if_pos rfl]; exact hb, hl, hr⟩
    · rw [fset_ne e]
      exact kk j ((List.mem_cons.1 hj).resolve_left e)
end Sq
namespace Sq
open Go Go.RowKit Sx Tl
variable {E : Env} {ord rt N D : List Id} {ρ : Id → Rec} {w : World}
/-- Not of anyone else's. -/
abbrev SA (t : Tag) : Prop := t ≠ .other
/-- The sizes of these units. -/
def sumN (ρ : Id → Rec) (l : List Id) : Nat := (l.map fun j => (ρ j).n).sum
/-- Another tag for a new block. -/
def Env.tag (E : Env) (b : Nat) (τ : Tag) : Env := { E with tg := fun g => if g = b then τ else E.tg g }
theorem Ex.tag {A : World} {b : Nat} (τ : Tag) (h1 : w.heap.size ≤ b) (h2 : b < A.heap.size) : Ex E w (E.tag b τ) A :=
  ⟨rfl, rfl, rfl, rfl, fun g hg => if_neg (by omega), fun g hg => if_neg (by omega)⟩
/-- What slices.Insert tells, in tags. -/
theorem row_ins {τ : Tag} {v u : Value} {l : List Id} {k : Nat} {x : Id} {A : World} (hr : RowAt w E τ v l)
    (ho : A.ownsRow 0 85 1 u (l.length + 1) ((l.map (pv E)).take k ++ [pv E x] ++ (l.map (pv E)).drop k)) (hk : k ≤ l.length) (hg : w.grownBy A v.ownBlock) (hb : u.ownBlock = v.ownBlock ∨ u.ownBlock = some w.heap.size) :
    ∃ E', Ex E w E' A ∧ RowAt A E' τ u (l.take k ++ x :: l.drop k) ∧ Kept E' (fun t => t = τ) w A := by
  have e1 : (l.map (pv E)).take k ++ [pv E x] ++ (l.map (pv E)).drop k = (l.take k ++ x :: l.drop k).map (pv E) := by simp
  have e2 : l.length + 1 = (l.take k ++ x :: l.drop k).length := by simp only [List.length_append, List.length_take, List.length_cons, List.length_drop]; omega
  rw [e1, e2] at ho
  rcases hb with hb | hb
  · refine ⟨E, .refl _ _ _, ⟨ho, fun g hg' => hr.tag g (hb ▸ hg')⟩, .grown hg fun g hg' => hr.tag g hg'⟩
  · have hlt := own_ltg ho hb
    refine ⟨E.tag w.heap.size τ, .tag τ (Nat.le_refl _) hlt, ⟨ho, fun g hg' => ?_⟩, .grown hg fun g hg' => ?_⟩
    · rw [hb] at hg'
      cases hg'
      exact if_pos rfl
    · have := own_ltg hr.own hg'
      show (if g = w.heap.size then τ else E.tg g) = τ
      rw [if_neg (by omega)]
      exact hr.tag g hg'
theorem sumN_le {l : List Id} (hn : ∀ j ∈ l, (ρ j).n ≤ 1000000000) (hl : l.length ≤ 1000000000) : sumN ρ l ≤ 1000000000000000000 := by
  have : ∀ l : List Id, (∀ j ∈ l, (ρ j).n ≤ 1000000000) → sumN ρ l ≤ l.length * 1000000000 := fun l => by
    induction l with
    | nil => intro _; exact Nat.zero_le _
    | cons a l ih =>
      intro h
      have h1 := ih fun j hj => h j (List.mem_cons_of_mem _ hj)
      have h2 := h a (List.mem_cons_self ..)
      show (ρ a).n + sumN ρ l ≤ (l.length + 1) * 1000000000
      omega
  have := this l hn
  omega
theorem sumN_drop {l : List Id} {k : Nat} (hk : k < l.length) : sumN ρ (l.drop k) = (ρ l[k]).n + sumN ρ (l.drop (k + 1)) := by
  rw [List.drop_eq_getElem_cons hk]
  rfl
theorem sumN_dle {l : List Id} (k : Nat) : sumN ρ (l.drop k) ≤ sumN ρ l := by
  conv => rhs; rw [← List.take_append_drop k l]
  unfold sumN
  rw [List.map_append, List.sum_append]
  omega
theorem sumN_take {l : List Id} {k : Nat} (hk : k < l.length) : sumN ρ (l.take (k + 1)) = sumN ρ (l.take k) + (ρ l[k]).n := by
  unfold sumN
  rw [List.take_succ_eq_append_getElem hk, List.map_append, List.sum_append]
  simp
theorem sumN_tle {l : List Id} (k : Nat) : sumN ρ (l.take k) ≤ sumN ρ l := by
  conv => rhs; rw [← List.take_append_drop k l]
  unfold sumN
  rw [List.map_append, List.sum_append]
  omega
theorem findV_le (hlen : ord.length ≤ 1000000000) (k : Id) : -1 ≤ findV ord D k ∧ findV ord D k ≤ 1000000000 := by
  unfold findV
  have : ord.idxOf k ≤ ord.length := List.idxOf_le_length
  split <;> omega
theorem cell_lt {b o : Nat} {v : Value} (h : w.cell? ⟨b, o, none⟩ = some v) : b < w.heap.size := by
  unfold World.cell? at h
  cases e : w.heap[b]? with
  | none => simp [e] at h
  | some ob => exact lt_of_some e
theorem cell_below {w w' : World} {b o : Nat} {v : Value} (hb : Below w.heap.size w w') (h : w.cell? ⟨b, o, none⟩ = some v) : w'.cell? ⟨b, o, none⟩ = some v := by
  rw [World.cell?_of_block (hb.block b (cell_lt h))]
  exact h
theorem Kept.back {E' : Env} {S T : Tag → Prop} {A A' : World} (h : Kept E' S w A) (hE : Ex E w E' A') (hs : ∀ t, S t → T t) : Kept E T w A :=
  ⟨h.os, h.tape, h.output, h.size, fun g h1 h2 => h.block g h1 fun h3 => h2 (by have := hs _ h3; rwa [hE.old g h1] at this)⟩
attribute [local irreducible] W Lst Qst Pu seqQ blkQ rndQ cutQ retQ Does Enters IntKind.wrap bits sb World.alloc World.putObj Blk
set_option maxHeartbeats 2000000 in
theorem c_leftOf (x p : Id) (k : Nat) (hxN : x ∈ N) (hpN : p ∈ N) (hxp : x ≠ p) (hxu : (ρ x).u.id = x) (hpu : (ρ p).u.id = p) (hL : ∀ j ∈ (ρ p).L, j ∈ N ∧ (ρ j).u.id = j ∧ j ≠ x ∧ j ≠ p) (hLl : (ρ p).L.length ≤ 1000000000 - 1) (hn : ∀ j ∈ (ρ p).L, (ρ j).n ≤ 1000000000)
    (hkl : k ≤ (ρ p).L.length) (hk1 : ∀ i (hi : i < (ρ p).L.length), k ≤ i → Fo.lt x (ρ p).L[i] = true) (hk2 : ∀ i (hi : i < (ρ p).L.length), i + 1 = k → Fo.lt x (ρ p).L[i] = false)
    (hD : ∀ j, j ∈ ord ↔ j ∈ D) (hN : ∀ j ∈ ord, j ∈ N ∧ (ρ j).u.id = j) (hnd : ord.Nodup) (hlen : ord.length ≤ 1000000000) (h : Core w E ord rt N D ρ) :
    Does Tryz.prog 71 #[.pointer (some ⟨E.p, 0, none⟩), pv E x, pv E p] w fun v w' => v = .int .i64 (findV ord D p - (sumN ρ ((ρ p).L.drop k) : Int)) ∧
      ∃ E', Ex E w E' w' ∧ Kept E SA w w' ∧ Core w' E' ord rt N D (fset (fset ρ x { ρ x with par := some p }) p { ρ p with L := (ρ p).L.take k ++ x :: (ρ p).L.drop k }) := by
  refine Does_of (args := [.pointer (some ⟨E.p, 0, none⟩), pv E x, pv E p]) Tryz.func71 (by kernel_rfl) rfl rfl rfl rfl rfl ?_
  obtain ⟨htx, xl, xr, hbx, hxl, hxr⟩ := h.nodes x hxN
  have hlx := hbx.lt
  have hKx := Kept.put (S := fun t => t = .node x) (w := w) (E.ad x) htx (.cells (ncs E { ρ x with par := some p } xl xr).toArray 115)
  have hnx : NodeAt (w.putObj (E.ad x) (.cells (ncs E { ρ x with par := some p } xl xr).toArray 115)) E x { ρ x with par := some p } :=
    ⟨htx, xl, xr, Blk.put_same hlx _ _, hKx.row hxl (by simp), hKx.row hxr (by simp)⟩
  have h1 := h.updNode hKx (fun t ht => .inr (.inl ht)) hnx
  have hK1 : Kept E SA w _ := hKx.mono (T := SA) fun t ht => by rw [ht]; simp
  clear hKx hnx
  obtain ⟨w1, hw1⟩ : ∃ w1, w.putObj (E.ad x) (.cells (ncs E { ρ x with par := some p } xl xr).toArray 115) = w1 := ⟨_, rfl⟩
  rw [hw1] at h1 hK1
  have hN1 : ∀ j ∈ ord, j ∈ N ∧ (fset ρ x { ρ x with par := some p } j).u.id = j := fun j hj => by
    by_cases e : j = x
    · subst e
      rw [fset_same]
      exact ⟨hxN, hxu⟩
    · rw [fset_ne e]
      exact hN j hj
  have hnp := h1.nodes p hpN
  rw [fset_ne (Ne.symm hxp)] at hnp
  obtain ⟨htp, pl, pr, hbp, hpl, hpr⟩ := hnp
  unfold ncs parv pv at *
  (refine Ga ?_)
  rw [hw1]
  (refine Ga ?_)
  (apply Lst_call; (focus rfl); (focus rfl))
  refine (c_Find (ρ p).u.id hD hN1 hnd hlen h1).mono ?_
  rintro v w2 ⟨rfl, h2, hk2⟩
  rw [hpu]
  have hK2 := hK1.trans (hk2.mono (T := SA) fun t ht => by rcases ht with rfl | rfl <;> simp)
  clear h1 hK1 hpl hpr hbp hw1 hk2 hbx hxl hxr
  have hnp := h2.nodes p hpN
  rw [fset_ne (Ne.symm hxp)] at hnp
  obtain ⟨_, pl, pr, hbp, hpl, hpr⟩ := hnp
  have hnx := h2.nodes x hxN
  rw [fset_same] at hnx
  obtain ⟨_, xl, xr, hbx, hxl, hxr⟩ := hnx
  have hplO := hpl
  obtain ⟨a, c, rfl, hac, hat⟩ := hpl.at
  have hnodes : ∀ j ∈ (ρ p).L, ∃ sl sr, Blk w2 (E.ad j) (ncs E (ρ j) sl sr) 115 := fun j hj => by
    obtain ⟨h1, h2', h3, h4⟩ := hL j hj
    have := h2.nodes j h1
    rw [fset_ne h3] at this
    obtain ⟨_, sl, sr, hb, _, _⟩ := this
    exact ⟨sl, sr, hb⟩
  have hV := findV_le (D := D) hlen p
  have hsb := sumN_le hn (by omega)
  unfold ncs parv pv at *
  (refine Ga ?_)
  refine W_cutB (α := Unit) (fun _ => [(0, .pointer (some ⟨E.p, 0, none⟩)), (1, .pointer (some ⟨E.ad x, 0, none⟩)), (2, .pointer (some ⟨E.ad p, 0, none⟩)), (7, .int .i64 (findV ord D p - (sumN ρ ((ρ p).L.drop k) : Int))), (8, .int .i64 (k : Int))]) (fun _ A => Grown w2 A) ?_ ?_
  · refine W_loop (α := Nat) (fun i => [(0, .pointer (some ⟨E.p, 0, none⟩)), (1, .pointer (some ⟨E.ad x, 0, none⟩)), (2, .pointer (some ⟨E.ad p, 0, none⟩)), (7, .int .i64 (findV ord D p - (sumN ρ ((ρ p).L.drop i) : Int))), (8, .int .i64 (i : Int))]) (fun i A => k ≤ i ∧ i ≤ (ρ p).L.length ∧ Grown w2 A) (fun i _ => i) (ρ p).L.length ⟨hkl, Nat.le_refl _, Below.refl _ _⟩ ⟨rfl, rfl, rfl, ?_, rfl, trivial⟩ ?_
    · rw [List.drop_length]
      exact congrArg (Value.int .i64) (by show findV ord D p = _ - ((0 : Nat) : Int); omega)
    rintro J i A ⟨hki, hil, hbA⟩
    have hbpA := hbp.below hbA hbp.lt
    have hbxA := hbx.below hbA hbx.lt
    have hltp := hbpA.lt
    have hltx := hbxA.lt
    by_cases hi0 : i = 0
    · subst hi0
      obtain rfl : k = 0 := by omega
      (refine Ga ?_)
      refine W_draws (Grown _) rfl (by kernel_rfl) (grown_start _) ?_
      (refine Qb ?_)
      intro w8 hb8
      (refine Ga ?_)
      exact cutQ_n () (hbA.trans (hb8.mono hbA.size)) ⟨rfl, rfl, rfl, rfl, rfl, trivial⟩
    · obtain ⟨i, rfl⟩ : ∃ q, i = q + 1 := ⟨i - 1, by omega⟩
      have hiL : i < (ρ p).L.length := by omega
      obtain ⟨g, rfl, hci⟩ := hat i hiL
      obtain ⟨q1, hq2, _⟩ := hL _ (List.getElem_mem hiL)
      obtain ⟨jl, jr, hbj⟩ := hnodes _ (List.getElem_mem hiL)
      have hcA : ∀ A', Grown w2 A' → A'.cell? ⟨g, 0 + i, none⟩ = some (.pointer (some ⟨E.ad (ρ p).L[i], 0, none⟩)) := fun A' hA' => cell_below hA' hci
      have hnj := hn _ (List.getElem_mem hiL)
      have hsl1 := sumN_dle (ρ := ρ) (l := (ρ p).L) (i + 1)
      have hsd := sumN_drop (ρ := ρ) hiL
      have hsl := sumN_dle (ρ := ρ) (l := (ρ p).L) i
      have hk1i := hk1 i hiL
      have hk2i := hk2 i hiL
      generalize (ρ p).L[i] = j at *
      have hbjA := hbj.below hbA hbj.lt
      have hltj := hbjA.lt
      have hi1 : (((i + 1 : Nat) : Int) - 1) = (i : Int) := by omega
      (refine Ga ?_)
      refine W_draws (Grown _) rfl (by kernel_rfl) (grown_start _) ?_
      (refine Qb ?_)
      apply Qst_pu
      · apply P_idx1 (j := i)
        focus rfl
        focus exact congrArg (Value.int .i64) hi1
        focus rfl
        focus rfl
        focus rfl
        focus omega
      focus rfl
      (refine Qb ?_)
      apply Qst_loadc
      focus rfl
      focus rfl
      focus rfl
      focus exact fun A9 hA9 => hcA A9 (hbA.trans (hA9.mono hbA.size))
      focus rfl
      (refine Qb ?_)
      apply Qst_call (.bool (Fo.lt (ρ x).u.id (ρ j).u.id))
      focus rfl
      focus rfl
      · intro A9 hb9
        exact (n_Less (ρ x).u.id (ρ j).u.id A9).mono fun v w' h => ⟨h.1, Sx.Below.after hb9 h.2⟩
      rw [hxu, hq2]
      by_cases hki' : k ≤ i
      · rw [hk1i hki']
        (refine Qb ?_)
        intro w8 hb8
        have hbB := hbA.trans (hb8.mono hbA.size)
        have hbpB := hbp.below hbB hbp.lt
        have hbjB := hbj.below hbB hbj.lt
        have hcB := hcA w8 hbB
        unfold ncs at hbjB
        (refine Ga ?_)
        apply Lst_pu
        · apply P_idx1 (j := i)
          focus rfl
          focus exact congrArg (Value.int .i64) hi1
          focus rfl
          focus rfl
          focus rfl
          focus omega
        focus rfl
        (refine Ga ?_)
        refine rndQ_n (α := Nat) i ⟨hki', by omega, hbB⟩ ⟨rfl, rfl, rfl, ?_, congrArg (Value.int .i64) hi1, trivial⟩ (by omega)
        exact congrArg (Value.int .i64) (by omega)
      · obtain rfl : k = i + 1 := by omega
        rw [hk2i rfl]
        (refine Qb ?_)
        intro w8 hb8
        (refine Ga ?_)
        exact cutQ_n () (hbA.trans (hb8.mono hbA.size)) ⟨rfl, rfl, rfl, rfl, rfl, trivial⟩
  · intro J _ A hbA
    have hA := h2.below hbA
    have hKA := hK2.trans (.of hbA)
    have hbpA := hbp.below hbA hbp.lt
    have hltp := hbpA.lt
    clear h2 hK2 hbp hbx hnodes hxl hxr
    (refine Ga ?_)
    (apply Lst_slit; (focus rfl); (focus rfl); (focus rfl); (focus rfl); (focus rfl); (focus rfl); (focus rfl); (focus rfl); (focus rfl); (focus (repeat (first | apply FillO.nil | (apply FillO.cons; (focus constructor); (focus rfl); (focus rfl); (focus (repeat constructor)))))); (focus ((try simp only [Sx.sizes]); first | done | rfl)); (focus rfl))
    (refine Ga ?_)
    have hbX : Below A.heap.size A (A.alloc (.cells [.pointer (some ⟨E.ad x, 0, none⟩)].toArray 85)) := Bel
    have kX : Blk (A.alloc (.cells [.pointer (some ⟨E.ad x, 0, none⟩)].toArray 85)) A.heap.size [.pointer (some ⟨E.ad x, 0, none⟩)] 85 := (by (repeat (first | assumption | (apply Blk.below (hb := hb1); rotate_left; (focus ((try simp only [Sx.sizes]); omega)); rotate_right) | (apply Blk.below (hb := hb2); rotate_left; (focus ((try simp only [Sx.sizes]); omega)); rotate_right) | (apply Blk.below (hb := hb3); rotate_left; (focus ((try simp only [Sx.sizes]); omega)); rotate_right) | (apply Blk.below (hb := hb4); rotate_left; (focus ((try simp only [Sx.sizes]); omega)); rotate_right) | (apply Blk.below (hb := hb5); rotate_left; (focus ((try simp only [Sx.sizes]); omega)); rotate_right) | (apply Blk.below (hb := hb6); rotate_left; (focus ((try simp only [Sx.sizes]); omega)); rotate_right) | (apply Blk.below (hb := hb7); rotate_left; (focus ((try simp only [Sx.sizes]); omega)); rotate_right) | (apply Blk.below (hb := hb8); rotate_left; (focus ((try simp only [Sx.sizes]); omega)); rotate_right) | (apply Blk.below (hb := hb9); rotate_left; (focus ((try simp only [Sx.sizes]); omega)); rotate_right) | exact Blk.newE (by first | rfl | ((try simp only [Sx.sizes]); first | done | omega)) _ _ | exact Blk.put_same (by (try simp only [Sx.sizes]); first | done | omega) _ _ | (apply Blk.put_ne; (focus omega)) | apply Blk.alloc | apply Blk.drew)); done)
    have hrX : RowAt (A.alloc (.cells [.pointer (some ⟨E.ad x, 0, none⟩)].toArray 85)) E (.left p) (.slice a (ρ p).L.length c) (ρ p).L := (Kept.of (E := E) (S := fun _ => False) hbX).row ((Kept.of (E := E) (S := fun _ => False) hbA).row hplO (fun h => h)) (fun h => h)
    have hsX := hbX.size
    have hprX : RowAt (A.alloc (.cells [.pointer (some ⟨E.ad x, 0, none⟩)].toArray 85)) E (.right p) pr (ρ p).R := (Kept.of (E := E) (S := fun _ => False) hbX).row ((Kept.of (E := E) (S := fun _ => False) hbA).row hpr (fun h => h)) (fun h => h)
    have hvne : ∀ g, (Value.slice a (ρ p).L.length c).ownBlock = some g → g < A.heap.size := fun g hg => own_ltg ((Kept.of (E := E) (S := fun _ => False) hbA).row hplO (fun h => h)).own hg
    (apply Lst_call; (focus rfl); (focus rfl))
    refine (c_Ins 0 (ρ p).L.length k 1 _ _ ((ρ p).L.map (pv E)) [pv E x] [pv E x] A.heap.size 0 1 85 hkl (by decide) (by omega) (A.alloc (.cells [.pointer (some ⟨E.ad x, 0, none⟩)].toArray 85)) hrX.own (Nat.zero_le _) rfl rfl kX (fun j u hu => by rwa [Nat.zero_add]) (fun u hu => by obtain ⟨q, _, rfl⟩ := List.mem_map.1 hu; rfl) (fun u hu => by rw [List.mem_singleton.1 hu]; rfl) (fun hg => by have := hvne _ hg; omega)).mono ?_
    rintro v w4 ⟨ho, hg, hb⟩
    obtain ⟨E', hE, hrow, hkp⟩ := row_ins hrX ho hkl hg hb
    have hXc := hA.below hbX
    have hbpX := hbpA.below hbX hltp
    have hKX := hKA.trans (.of hbX)
    clear hrX ho hg hb hvne kX hbpA hKA hplO hA hat
    obtain ⟨v1, v2, v3, rfl⟩ := own_slice hrow.own
    generalize A.alloc (.cells [.pointer (some ⟨E.ad x, 0, none⟩)].toArray 85) = X at *
    have htp' : E'.tg (E.ad p) = .node p := (hE.old _ hbpX.lt).trans htp
    have hbp4 := hkp.blk hbpX (by rw [htp']; simp)
    have hlp4 := hbp4.lt
    have hC4 := hXc.ext hE (Nat.le_refl _)
    (refine Ga ?_)
    (apply retQ1; (focus rfl))
    have hkq : Kept E' (fun t => t = .node p ∨ t = .left p) X (w4.putObj (E.ad p) (.cells (ncs E { ρ p with L := (ρ p).L.take k ++ x :: (ρ p).L.drop k } (.slice v1 v2 v3) pr).toArray 115)) :=
      (hkp.mono fun t ht => .inr ht).trans (.put _ (.inl htp') _)
    refine ⟨rfl, E', ⟨hE.p, hE.ma, hE.mt, hE.ad, fun g hg => hE.old g (Nat.lt_of_lt_of_le hg hKX.size), fun g hg => hE.far g (by rw [World.putObj_size] at hg; exact hg)⟩, hKX.trans (hkq.back hE fun t ht => by rcases ht with rfl | rfl <;> simp), ?_⟩
    refine hC4.updNode hkq (fun t ht => ht.elim (fun h => .inr (.inl h)) (fun h => .inr (.inr (.inl h)))) ⟨by rw [hE.ad]; exact htp', .slice v1 v2 v3, pr, by rw [hE.ad, hE.ncs]; exact Blk.put_same hlp4 _ _, ?_, ?_⟩
    · exact (Kept.put (S := fun t => t = .node p) _ htp' _).row hrow (by simp)
    · exact hkq.row (hE.row hprX (Nat.le_refl _)) (by simp)
end Sq
namespace Sq
open Go Go.RowKit Sx Tl
variable {E : Env} {ord rt N D : List Id} {ρ : Id → Rec} {w : World}
def rowOf (ρ : Id → Rec) (rt : List Id) : Option Id → List Id
  | none => rt
  | some p => (ρ p).R
def hB (E : Env) : Option Id → Nat
  | none => E.p
  | some p => E.ad p
def hO : Option Id → Nat
  | none => 2
  | some _ => 8
def hT : Option Id → Tag
  | none => .root
  | some p => .right p
def place0 (ord D : List Id) : Option Id → Int
  | none => 0
  | some p => findV ord D p + 1
theorem Core.hold (h : Core w E ord rt N D ρ) (par : Option Id) (hp : ∀ p, par = some p → p ∈ N) : ∃ sl, w.cell? ⟨hB E par, hO par, none⟩ = some sl ∧ RowAt w E (hT par) sl (rowOf ρ rt par) := by
  cases par with
  | none =>
    obtain ⟨so, sr, fresh, m, hS, hO, hR, hM, hF⟩ := h.seq
    exact ⟨sr, by show w.cell? ⟨E.p, 2, none⟩ = _; rw [hS.cell]; rfl, hR⟩
  | some p =>
    obtain ⟨ht, sl, sr, hb, hl, hr⟩ := h.nodes p (hp p rfl)
    exact ⟨sr, by show w.cell? ⟨E.ad p, 8, none⟩ = _; rw [hb.cell]; rfl, hr⟩
/-- The record behind a right child has come. -/
def recR (ρ : Id → Rec) (par : Option Id) (l : List Id) : Id → Rec := match par with
  | none => ρ
  | some p => fset ρ p { ρ p with R := l }
def rtR (rt : List Id) (par : Option Id) (l : List Id) : List Id := match par with
  | none => l
  | some _ => rt
attribute [local irreducible] W Lst Qst Pu seqQ blkQ rndQ cutQ retQ Does Enters IntKind.wrap bits sb World.alloc World.putObj Blk
set_option maxHeartbeats 2000000 in
theorem c_rightOf (x : Id) (par : Option Id) (k : Nat) (hxN : x ∈ N) (hp : ∀ p, par = some p → p ∈ N ∧ p ≠ x ∧ (ρ p).u.id = p) (hxu : (ρ x).u.id = x) (hL : ∀ j ∈ rowOf ρ rt par, j ∈ N ∧ j ≠ x) (hLl : (rowOf ρ rt par).length ≤ 1000000000 - 1) (hn : ∀ j ∈ rowOf ρ rt par, (ρ j).n ≤ 1000000000)
    (hkl : k ≤ (rowOf ρ rt par).length) (hk1 : ∀ i (hi : i < (rowOf ρ rt par).length), i < k → aheadV ord D (ρ (rowOf ρ rt par)[i]).u (ρ x).u = true) (hk2 : ∀ i (hi : i < (rowOf ρ rt par).length), i = k → aheadV ord D (ρ (rowOf ρ rt par)[i]).u (ρ x).u = false)
    (hD : ∀ j, j ∈ ord ↔ j ∈ D) (hN : ∀ j ∈ ord, j ∈ N ∧ (ρ j).u.id = j) (hnd : ord.Nodup) (hlen : ord.length ≤ 1000000000) (h : Core w E ord rt N D ρ) :
    Does Tryz.prog 72 #[.pointer (some ⟨E.p, 0, none⟩), pv E x, parv E par] w fun v w' => v = .int .i64 (place0 ord D par + (sumN ρ ((rowOf ρ rt par).take k) : Int)) ∧
      ∃ E', Ex E w E' w' ∧ Kept E SA w w' ∧ Core w' E' ord (rtR rt par ((rowOf ρ rt par).take k ++ x :: (rowOf ρ rt par).drop k)) N D (recR (fset ρ x { ρ x with par := par }) par ((rowOf ρ rt par).take k ++ x :: (rowOf ρ rt par).drop k)) := by
  refine Does_of (args := [.pointer (some ⟨E.p, 0, none⟩), pv E x, parv E par]) Tryz.func72 (by kernel_rfl) rfl rfl rfl rfl rfl ?_
  obtain ⟨htx, xl, xr, hbx, hxl, hxr⟩ := h.nodes x hxN
  have hlx := hbx.lt
  have hKx := Kept.put (S := fun t => t = .node x) (w := w) (E.ad x) htx (.cells (ncs E { ρ x with par := par } xl xr).toArray 115)
  have hnx : NodeAt (w.putObj (E.ad x) (.cells (ncs E { ρ x with par := par } xl xr).toArray 115)) E x { ρ x with par := par } :=
    ⟨htx, xl, xr, Blk.put_same hlx _ _, hKx.row hxl (by simp), hKx.row hxr (by simp)⟩
  have h1 := h.updNode hKx (fun t ht => .inr (.inl ht)) hnx
  have hK1 : Kept E SA w _ := hKx.mono (T := SA) fun t ht => by rw [ht]; simp
  clear hKx hnx
  obtain ⟨w1, hw1⟩ : ∃ w1, w.putObj (E.ad x) (.cells (ncs E { ρ x with par := par } xl xr).toArray 115) = w1 := ⟨_, rfl⟩
  rw [hw1] at h1 hK1
  have hN1 : ∀ j ∈ ord, j ∈ N ∧ (fset ρ x { ρ x with par := par } j).u.id = j := fun j hj => by
    by_cases e : j = x
    · subst e
      rw [fset_same]
      exact ⟨hxN, hxu⟩
    · rw [fset_ne e]
      exact hN j hj
  have hu1 : ∀ j, (fset ρ x { ρ x with par := par } j).u = (ρ j).u := fun j => by
    by_cases e : j = x
    · subst e
      rw [fset_same]
    · rw [fset_ne e]
  have hr1 : rowOf (fset ρ x { ρ x with par := par }) rt par = rowOf ρ rt par := by
    cases par with
    | none => rfl
    | some p => exact congrArg Rec.R (fset_ne (hp p rfl).2.1)
  have hpN : ∀ p, par = some p → p ∈ N := fun p e => (hp p e).1
  have hpo : parv E par = .pointer (par.map fun p => ⟨E.ad p, 0, none⟩) := by cases par <;> rfl
  unfold ncs pv at *
  rw [hpo] at hw1 ⊢
  generalize hpe : (par.map fun p => (⟨E.ad p, 0, none⟩ : Addr)) = po at *
  (refine Ga ?_)
  rw [hw1]
  refine W_cutS (α := Unit) (fun _ => [(0, .pointer (some ⟨E.p, 0, none⟩)), (1, .pointer (some ⟨E.ad x, 0, none⟩)), (7, .pointer (some ⟨hB E par, hO par, none⟩)), (8, .int .i64 (place0 ord D par))]) (fun _ A => Core A E ord rt N D (fset ρ x { ρ x with par := par }) ∧ Kept E SA w A) ?_ ?_
  · cases par with
    | none =>
      subst hpe
      (refine Ga ?_)
      exact cutQ_n () ⟨h1, hK1⟩ ⟨rfl, rfl, rfl, rfl, trivial⟩
    | some p =>
      subst hpe
      obtain ⟨hpN, hpx, hpu⟩ := hp p rfl
      have hnp := h1.nodes p hpN
      rw [fset_ne hpx] at hnp
      obtain ⟨htp, pl, pr, hbp, hpl, hpr⟩ := hnp
      have hV := findV_le (D := D) hlen p
      unfold ncs at hbp
      (refine Ga ?_)
      refine W_draws (fun A => Core A E ord rt N D (fset ρ x { ρ x with par := some p }) ∧ Kept E SF w1 A) rfl (by kernel_rfl) ⟨h1.below (Below.drew (Below.refl _ _)), .of (Below.drew (Below.refl _ _))⟩ ?_
      (refine Qb ?_)
      apply Qst_loadA
      focus rfl
      focus rfl
      focus rfl
      focus rfl
      focus rfl
      focus exact fun A9 hA9 => hA9.2.blk hbp (by rw [htp]; simp)
      focus (repeat constructor)
      focus rfl
      (refine Qb ?_)
      apply Qst_call (.int .i64 (findV ord D p))
      focus rfl
      focus rfl
      focus exact fun A9 hA9 => (c_Find (ρ p).u.id hD hN1 hnd hlen hA9.1).mono fun v w' hv => ⟨by rw [hv.1, hpu], hv.2.1, hA9.2.trans hv.2.2⟩
      (refine Qb ?_)
      rintro w8 ⟨h8, hk8⟩
      (refine Ga ?_)
      exact cutQ_n () ⟨h8, hK1.trans (hk8.mono fun t ht => by rcases ht with rfl | rfl <;> simp)⟩ ⟨rfl, rfl, rfl, rfl, trivial⟩
  · rintro J _ A ⟨hA0, hK0⟩
    clear hw1 h1 hK1 hbx hxl hxr h
    have hP0 : 0 ≤ place0 ord D par + 0 ∧ place0 ord D par ≤ 1000000001 := by
      cases par with
      | none => exact ⟨by show (0 : Int) ≤ 0 + 0; omega, by show (0 : Int) ≤ _; omega⟩
      | some p => have := findV_le (D := D) hlen p; exact ⟨by show (0 : Int) ≤ findV ord D p + 1 + 0; omega, by show findV ord D p + 1 ≤ _; omega⟩
    have hsb := sumN_le hn (by omega)
    have hLu : ∀ j ∈ rowOf ρ rt par, fset ρ x { ρ x with par := par } j = ρ j := fun j hj => fset_ne (hL j hj).2
    (refine Ga ?_)
    refine W_cutB (α := Unit) (fun _ => [(0, .pointer (some ⟨E.p, 0, none⟩)), (1, .pointer (some ⟨E.ad x, 0, none⟩)), (7, .pointer (some ⟨hB E par, hO par, none⟩)), (8, .int .i64 (place0 ord D par + (sumN ρ ((rowOf ρ rt par).take k) : Int))), (9, .int .i64 (k : Int))]) (fun _ A => Core A E ord rt N D (fset ρ x { ρ x with par := par }) ∧ Kept E SA w A) ?_ ?_
    · refine W_loop (α := Nat) (fun i => [(0, .pointer (some ⟨E.p, 0, none⟩)), (1, .pointer (some ⟨E.ad x, 0, none⟩)), (7, .pointer (some ⟨hB E par, hO par, none⟩)), (8, .int .i64 (place0 ord D par + (sumN ρ ((rowOf ρ rt par).take i) : Int))), (9, .int .i64 (i : Int))])
        (fun i A => i ≤ k ∧ Core A E ord rt N D (fset ρ x { ρ x with par := par }) ∧ Kept E SA w A) (fun i _ => k - i) 0 ⟨Nat.zero_le _, hA0, hK0⟩ ⟨rfl, rfl, rfl, ?_, rfl, trivial⟩ ?_
      · rw [List.take_zero]
        exact congrArg (Value.int .i64) (by show place0 ord D par = _ + ((0 : Nat) : Int); omega)
      clear hA0 hK0
      rintro J i A ⟨hik, hA, hKA⟩
      obtain ⟨sl, hcs, hrow⟩ := hA.hold par hpN
      rw [hr1] at hrow
      obtain ⟨a, c, rfl, hac, hat⟩ := hrow.at
      by_cases hil : i < (rowOf ρ rt par).length
      · obtain ⟨g, rfl, hci⟩ := hat i hil
        obtain ⟨hjN, hjx⟩ := hL _ (List.getElem_mem hil)
        have hju := hLu _ (List.getElem_mem hil)
        have hk1i := hk1 i hil
        have hk2i := hk2 i hil
        have hnj := hn _ (List.getElem_mem hil)
        have hst := sumN_take (ρ := ρ) hil
        have hsl := sumN_tle (ρ := ρ) (l := rowOf ρ rt par) i
        have hsl1 := sumN_tle (ρ := ρ) (l := rowOf ρ rt par) (i + 1)
        unfold pv at hci
        (refine Ga ?_)
        (apply Lst_call; (focus rfl); (focus rfl))
        refine (c_ahead (rowOf ρ rt par)[i] x hjN hxN hD hN1 hnd hlen hA).mono ?_
        rintro v w5 ⟨rfl, h5, hk5⟩
        have hK5 := hKA.trans (hk5.mono (T := SA) fun t ht => by rcases ht with rfl | rfl <;> simp)
        rw [hu1, hu1]
        clear hcs hrow hci hat
        generalize hje : (rowOf ρ rt par)[i] = j at *
        by_cases hik' : i = k
        · subst hik'
          rw [hk2i rfl]
          (refine Ga ?_)
          exact cutQ_n () ⟨h5, hK5⟩ ⟨rfl, rfl, rfl, rfl, rfl, trivial⟩
        · rw [hk1i (by omega)]
          obtain ⟨sl, hcs, hrow⟩ := h5.hold par hpN
          rw [hr1] at hrow
          obtain ⟨a, c, rfl, hac, hat⟩ := hrow.at
          obtain ⟨g, rfl, hci⟩ := hat i hil
          rw [hje] at hci
          obtain ⟨_, jl, jr, hbj, _, _⟩ := h5.nodes j hjN
          rw [hju] at hbj
          unfold pv at hci
          unfold ncs at hbj
          (refine Ga ?_)
          refine rndQ_n (α := Nat) (i + 1) ⟨by omega, h5, hK5⟩ ⟨rfl, rfl, rfl, ?_, rfl, trivial⟩ (by omega)
          exact congrArg (Value.int .i64) (by omega)
      · obtain rfl : i = k := by omega
        have hie : i = (rowOf ρ rt par).length := by omega
        (refine Ga ?_)
        exact cutQ_n () ⟨hA, hKA⟩ ⟨rfl, rfl, rfl, rfl, rfl, trivial⟩
    · rintro J _ A ⟨hA, hKA⟩
      clear hA0 hK0
      obtain ⟨sl, hcs, hrow⟩ := hA.hold par hpN
      rw [hr1] at hrow
      have hrowO := hrow
      obtain ⟨a, c, rfl, hac, hat⟩ := hrow.at
      clear hat
      (refine Ga ?_)
      (apply Lst_slit; (focus rfl); (focus rfl); (focus rfl); (focus rfl); (focus rfl); (focus rfl); (focus rfl); (focus rfl); (focus rfl); (focus (repeat (first | apply FillO.nil | (apply FillO.cons; (focus constructor); (focus rfl); (focus rfl); (focus (repeat constructor)))))); (focus ((try simp only [Sx.sizes]); first | done | rfl)); (focus rfl))
      (refine Ga ?_)
      have hbX : Below A.heap.size A (A.alloc (.cells [.pointer (some ⟨E.ad x, 0, none⟩)].toArray 85)) := Bel
      have kX : Blk (A.alloc (.cells [.pointer (some ⟨E.ad x, 0, none⟩)].toArray 85)) A.heap.size [.pointer (some ⟨E.ad x, 0, none⟩)] 85 := (by (repeat (first | assumption | (apply Blk.below (hb := hb1); rotate_left; (focus ((try simp only [Sx.sizes]); omega)); rotate_right) | (apply Blk.below (hb := hb2); rotate_left; (focus ((try simp only [Sx.sizes]); omega)); rotate_right) | (apply Blk.below (hb := hb3); rotate_left; (focus ((try simp only [Sx.sizes]); omega)); rotate_right) | (apply Blk.below (hb := hb4); rotate_left; (focus ((try simp only [Sx.sizes]); omega)); rotate_right) | (apply Blk.below (hb := hb5); rotate_left; (focus ((try simp only [Sx.sizes]); omega)); rotate_right) | (apply Blk.below (hb := hb6); rotate_left; (focus ((try simp only [Sx.sizes]); omega)); rotate_right) | (apply Blk.below (hb := hb7); rotate_left; (focus ((try simp only [Sx.sizes]); omega)); rotate_right) | (apply Blk.below (hb := hb8); rotate_left; (focus ((try simp only [Sx.sizes]); omega)); rotate_right) | (apply Blk.below (hb := hb9); rotate_left; (focus ((try simp only [Sx.sizes]); omega)); rotate_right) | exact Blk.newE (by first | rfl | ((try simp only [Sx.sizes]); first | done | omega)) _ _ | exact Blk.put_same (by (try simp only [Sx.sizes]); first | done | omega) _ _ | (apply Blk.put_ne; (focus omega)) | apply Blk.alloc | apply Blk.drew)); done)
      have hrX : RowAt (A.alloc (.cells [.pointer (some ⟨E.ad x, 0, none⟩)].toArray 85)) E (hT par) (.slice a (rowOf ρ rt par).length c) (rowOf ρ rt par) := (Kept.of (E := E) (S := fun _ => False) hbX).row hrowO (fun h => h)
      have hvne : ∀ g, (Value.slice a (rowOf ρ rt par).length c).ownBlock = some g → g < A.heap.size := fun g hg => own_ltg hrowO.own hg
      (apply Lst_call; (focus rfl); (focus rfl))
      refine (c_Ins 0 (rowOf ρ rt par).length k 1 _ _ ((rowOf ρ rt par).map (pv E)) [pv E x] [pv E x] A.heap.size 0 1 85 hkl (by decide) (by omega) (A.alloc (.cells [.pointer (some ⟨E.ad x, 0, none⟩)].toArray 85)) hrX.own (Nat.zero_le _) rfl rfl kX (fun j u hu => by rwa [Nat.zero_add]) (fun u hu => by obtain ⟨q, _, rfl⟩ := List.mem_map.1 hu; rfl) (fun u hu => by rw [List.mem_singleton.1 hu]; rfl) (fun hg => by have := hvne _ hg; omega)).mono ?_
      rintro v w4 ⟨ho, hg, hb⟩
      obtain ⟨E', hE, hrow4, hkp⟩ := row_ins hrX ho hkl hg hb
      have hX := hA.below hbX
      have hKX := hKA.trans (.of hbX)
      clear hrX ho hg hb hvne kX hKA hA hcs hrow hrowO
      obtain ⟨v1, v2, v3, rfl⟩ := own_slice hrow4.own
      generalize A.alloc (.cells [.pointer (some ⟨E.ad x, 0, none⟩)].toArray 85) = X at *
      have hC4 := hX.ext hE (Nat.le_refl _)
      cases par with
      | none =>
        obtain ⟨so, sr, fresh, m, hS, hOo, hR, hM, hF⟩ := hC4.seq
        have hS4 := hkp.blk hS (by rw [hC4.tp]; simp [hT])
        have ht4 := hC4.tp
        rw [hE.p] at hS4 ht4
        have hl4 := hS4.lt
        simp only [hB, hO]
        (refine Ga ?_)
        (apply retQ1; (focus rfl))
        have hkq : Kept E' (fun t => t = .seq ∨ t = .root) X (w4.putObj E.p (.cells [.map (some E'.ma), so, .slice v1 v2 v3, .map (some E'.mt), .bool fresh].toArray 83)) :=
          (hkp.mono fun t ht => .inr ht).trans (.put _ (.inl ht4) _)
        refine ⟨rfl, E', ⟨hE.p, hE.ma, hE.mt, hE.ad, fun g hg => hE.old g (Nat.lt_of_lt_of_le hg hKX.size), fun g hg => hE.far g (by rw [World.putObj_size] at hg; exact hg)⟩, hKX.trans (hkq.back hE fun t ht => by rcases ht with rfl | rfl <;> simp), ?_⟩
        refine hC4.updSeq hkq (fun t ht => ht.elim (fun h => .inr (.inl h)) (fun h => .inr (.inr (.inr (.inl h))))) ⟨so, .slice v1 v2 v3, fresh, m, by rw [hE.p]; exact Blk.put_same hl4 _ _, ?_, ?_, ?_, hF⟩
        · exact hkq.row hOo (by simp)
        · exact (Kept.put (S := fun t => t = .seq) _ ht4 _).row hrow4 (by simp)
        · exact hkq.map hM (by rw [hC4.tmt]; simp)
      | some p =>
        obtain ⟨hpN', hpx, hpu⟩ := hp p rfl
        have hnp := hC4.nodes p hpN'
        rw [fset_ne hpx] at hnp
        obtain ⟨htp, pl, pr, hbp, hpl, hpr⟩ := hnp
        have hbp4 := hkp.blk hbp (by rw [htp]; simp [hT])
        rw [hE.ad] at hbp4 htp
        rw [hE.ncs] at hbp4
        have hl4 := hbp4.lt
        unfold ncs at hbp4
        simp only [hB, hO]
        (refine Ga ?_)
        (apply retQ1; (focus rfl))
        have hkq : Kept E' (fun t => t = .node p ∨ t = .right p) X (w4.putObj (E.ad p) (.cells (ncs E { ρ p with R := (ρ p).R.take k ++ x :: (ρ p).R.drop k } pl (.slice v1 v2 v3)).toArray 115)) :=
          (hkp.mono fun t ht => .inr ht).trans (.put _ (.inl htp) _)
        refine ⟨rfl, E', ⟨hE.p, hE.ma, hE.mt, hE.ad, fun g hg => hE.old g (Nat.lt_of_lt_of_le hg hKX.size), fun g hg => hE.far g (by rw [World.putObj_size] at hg; exact hg)⟩, hKX.trans (hkq.back hE fun t ht => by rcases ht with rfl | rfl <;> simp), ?_⟩
        have e : ∀ l, recR (fset ρ x { ρ x with par := some p }) (some p) l = fset (fset ρ x { ρ x with par := some p }) p { ρ p with R := l } := fun l => by
          show fset _ p { fset ρ x { ρ x with par := some p } p with R := l } = _
          rw [fset_ne hpx]
        rw [e]
        refine hC4.updNode hkq (fun t ht => ht.elim (fun h => .inr (.inl h)) (fun h => .inr (.inr (.inr h)))) ⟨by rw [hE.ad]; exact htp, pl, .slice v1 v2 v3, by rw [hE.ad, hE.ncs]; exact Blk.put_same hl4 _ _, ?_, ?_⟩
        · exact hkq.row hpl (by simp)
        · exact (Kept.put (S := fun t => t = .node p) _ htp _).row hrow4 (by simp)
end Sq
namespace Sq
open Go Go.RowKit Sx Tl
variable {E : Env} {ord rt N D : List Id} {ρ : Id → Rec} {w : World}
/-- More below these. -/
def bump (d : Nat) (l : List Id) (ρ : Id → Rec) : Id → Rec := fun j => { ρ j with n := (ρ j).n + if j ∈ l then d else 0 }
theorem bump_cons {d : Nat} {j : Id} {l : List Id} (h : j ∉ l) (ρ : Id → Rec) : bump d l (fset ρ j { ρ j with n := (ρ j).n + d }) = bump d (j :: l) ρ := funext fun i => by
  by_cases e : i = j
  · subst e
    unfold bump
    rw [fset_same, if_neg h, if_pos (List.mem_cons_self ..)]
    rfl
  · unfold bump
    rw [fset_ne e]
    have : i ∈ j :: l ↔ i ∈ l := by rw [List.mem_cons]; exact ⟨fun h => h.resolve_left e, .inr⟩
    simp only [this]
theorem bump_nil {d : Nat} (ρ : Id → Rec) : bump d [] ρ = ρ := rfl
/-- Which parent a unit has, and on which side. -/
structure Where where
  left : Bool
  par : Option Id
  k : Nat
def newRec (u : Un) : Rec := ⟨u, none, [], [], 1⟩
/-- The records with a new one at its place. -/
def laid (ρ : Id → Rec) (rt : List Id) (x : Id) (W : Where) : Id → Rec :=
  if W.left then match W.par with
    | none => ρ
    | some p => fset (fset ρ x { ρ x with par := some p }) p { ρ p with L := (ρ p).L.take W.k ++ x :: (ρ p).L.drop W.k }
  else recR (fset ρ x { ρ x with par := W.par }) W.par ((rowOf ρ rt W.par).take W.k ++ x :: (rowOf ρ rt W.par).drop W.k)
/-- Those above, the nearest first. -/
def ChainL (ρ : Id → Rec) (N : List Id) : List Id → Prop
  | [] => True
  | j :: l => j ∈ N ∧ (ρ j).par = l.head? ∧ ChainL ρ N l
theorem ChainL.chain {ρ : Id → Rec} {N : List Id} : ∀ {l : List Id} {k : Id}, ChainL ρ N l → (ρ k).par = l.head? → Chain ρ N k l
  | [], _, _, h => h
  | _ :: _, _, h, hk => ⟨hk, h.1, ChainL.chain h.2.2 h.2.1⟩
theorem ChainL.congr {ρ σ : Id → Rec} {N M : List Id} (hN : ∀ j ∈ N, j ∈ M ∧ (σ j).par = (ρ j).par) : ∀ {l : List Id}, ChainL ρ N l → ChainL σ M l
  | [], _ => trivial
  | j :: _, h => ⟨(hN j h.1).1, ((hN j h.1).2).trans h.2.1, ChainL.congr hN h.2.2⟩
theorem sumN_congr {ρ σ : Id → Rec} {l : List Id} (h : ∀ j ∈ l, (σ j).n = (ρ j).n) : sumN σ l = sumN ρ l := congrArg List.sum (List.map_congr_left h)
/-- A left child. -/
structure LeftOk (ρ : Id → Rec) (D : List Id) (u : Un) (rc : List Id) (k : Nat) : Prop where
  r : u.r ∈ D
  l : u.l ∈ D → u.l ∈ rc
  kl : k ≤ (ρ u.r).L.length
  k1 : ∀ i (hi : i < (ρ u.r).L.length), k ≤ i → Fo.lt u.id (ρ u.r).L[i] = true
  k2 : ∀ i (hi : i < (ρ u.r).L.length), i + 1 = k → Fo.lt u.id (ρ u.r).L[i] = false
def parOf (D : List Id) (u : Un) : Option Id := if u.l ∈ D then some u.l else none
/-- A right child. -/
structure RightOk (ρ : Id → Rec) (ord rt D : List Id) (u : Un) (rc : List Id) (k : Nat) : Prop where
  r : u.r ∈ D → u.l ∈ D ∧ u.l ∉ rc
  kl : k ≤ (rowOf ρ rt (parOf D u)).length
  k1 : ∀ i (hi : i < (rowOf ρ rt (parOf D u)).length), i < k → aheadV ord D (ρ (rowOf ρ rt (parOf D u))[i]).u u = true
  k2 : ∀ i (hi : i < (rowOf ρ rt (parOf D u)).length), i = k → aheadV ord D (ρ (rowOf ρ rt (parOf D u))[i]).u u = false
structure Sizes (rt N : List Id) (ρ : Id → Rec) : Prop where
  n : ∀ j ∈ N, (ρ j).n ≤ 1000000000 - 1
  L : ∀ j ∈ N, (ρ j).L.length ≤ 1000000000 - 1
  R : ∀ j ∈ N, (ρ j).R.length ≤ 1000000000 - 1
  rt : rt.length ≤ 1000000000 - 1
structure Selfs (N : List Id) (ρ : Id → Rec) : Prop where
  u : ∀ j ∈ N, (ρ j).u.id = j
  l : ∀ j ∈ N, ∀ i ∈ (ρ j).L, i ≠ j
theorem Kept.step {E0 E1 : Env} {S : Tag → Prop} {X A A' : World} (h : Kept E0 SA X A) (k : Kept E1 S A A') (ho : ∀ g, g < X.heap.size → E1.tg g = E0.tg g) (hs : ∀ t, S t → t ≠ .other) : Kept E0 SA X A' :=
  ⟨k.os.trans h.os, k.tape.trans h.tape, k.output.trans h.output, Nat.le_trans h.size k.size, fun g h1 h2 => (k.block g (Nat.lt_of_lt_of_le h1 h.size) fun h3 => h2 (by have := hs _ h3; rwa [ho g h1] at this)).trans (h.block g h1 h2)⟩
theorem Kept.base {E0 : Env} {X A : World} (hb : Below w.heap.size w X) (h : Kept E0 SA X A) (ho : ∀ g, g < w.heap.size → E0.tg g = E.tg g) : Kept E SA w A :=
  ⟨h.os.trans hb.os, h.tape.trans hb.tape, h.output.trans hb.output, Nat.le_trans hb.size h.size, fun g h1 h2 => (h.block g (Nat.lt_of_lt_of_le h1 hb.size) (by rw [ho g h1]; exact h2)).trans (hb.block g h1)⟩
theorem laid_x {rt : List Id} {x : Id} {V : Where} (h : V.left = true → ∃ p, V.par = some p) (hp : ∀ p, V.par = some p → p ≠ x) (_ : (ρ x).par = none) : (laid ρ rt x V x).par = V.par := by
  unfold laid recR
  cases e : V.par with
  | none =>
    split
    · rename_i hl
      obtain ⟨p, h⟩ := h hl
      rw [e] at h
      cases h
    · dsimp only
      rw [fset_same]
  | some p =>
    have := hp p e
    split
    · dsimp only
      rw [fset_ne (Ne.symm this), fset_same]
    · dsimp only
      rw [fset_ne (Ne.symm this), fset_same]
theorem laid_o {rt : List Id} {x j : Id} {V : Where} (hj : j ≠ x) (hp : ∀ p, V.par = some p → p ≠ x) : (laid ρ rt x V j).par = (ρ j).par ∧ (laid ρ rt x V j).n = (ρ j).n ∧ (laid ρ rt x V j).u = (ρ j).u := by
  unfold laid recR
  cases e : V.par with
  | none =>
    split
    · exact ⟨rfl, rfl, rfl⟩
    · dsimp only
      rw [fset_ne hj]
      exact ⟨rfl, rfl, rfl⟩
  | some p =>
    have h1 := hp p e
    by_cases hjp : j = p
    · subst hjp
      split
      · dsimp only
        rw [fset_same]
        exact ⟨rfl, rfl, rfl⟩
      · dsimp only
        rw [fset_same, fset_ne hj]
        exact ⟨rfl, rfl, rfl⟩
    · split
      · dsimp only
        rw [fset_ne hjp, fset_ne hj]
        exact ⟨rfl, rfl, rfl⟩
      · dsimp only
        rw [fset_ne hjp, fset_ne hj]
        exact ⟨rfl, rfl, rfl⟩
attribute [local irreducible] W Lst Qst Pu seqQ blkQ rndQ cutQ retQ Does Enters IntKind.wrap bits sb World.alloc World.putObj Blk
set_option maxHeartbeats 2000000 in
theorem c_put (u : Un) (rc c : List Id) (V : Where) (P : Nat) (hfar : ∀ g, w.heap.size ≤ g → E.tg g = .other) (hc : Clo ord rt N D ρ) (hsz : Sizes rt N ρ) (hse : Selfs N ρ) (hxN : u.id ∉ N) (hD : ∀ j, j ∈ ord ↔ j ∈ D) (hN : ∀ j ∈ ord, j ∈ N ∧ (ρ j).u.id = j) (hnd : ord.Nodup) (hlen : ord.length ≤ 1000000000 - 1) (h : Core w E ord rt N D ρ)
    (hrc : u.r ∈ D → ChainL ρ N rc ∧ (ρ u.r).par = rc.head?) (hW : if V.left then LeftOk ρ D u rc V.k ∧ V.par = some u.r else RightOk ρ ord rt D u rc V.k ∧ V.par = parOf D u)
    (hch : ChainL ρ N c ∧ V.par = c.head? ∧ c.Nodup) (hP : (P : Int) = if V.left then findV ord D u.r - (sumN ρ ((ρ u.r).L.drop V.k) : Int) else place0 ord D V.par + (sumN ρ ((rowOf ρ rt V.par).take V.k) : Int)) (hPl : P ≤ ord.length) :
    Does Tryz.prog 38 #[.pointer (some ⟨E.p, 0, none⟩), .agg (ucs u).toArray] w fun v w' => v = .tuple #[] ∧ ∃ E', E'.p = E.p ∧ (∀ g, g < w.heap.size → E'.tg g = E.tg g) ∧ (∀ g, w'.heap.size ≤ g → E'.tg g = .other) ∧ Kept E SA w w' ∧
      Core w' E' (ord.take P ++ u.id :: ord.drop P) (if V.left then rt else rtR rt V.par ((rowOf ρ rt V.par).take V.k ++ u.id :: (rowOf ρ rt V.par).drop V.k)) (u.id :: N) (u.id :: D) (bump 1 c (laid (fset ρ u.id (newRec u)) rt u.id V)) := by
  refine Does_of (args := [.pointer (some ⟨E.p, 0, none⟩), .agg (ucs u).toArray]) Tryz.func38 (by kernel_rfl) rfl rfl rfl rfl rfl ?_
  have hcu : ucs u = [.int .u64 (u.id.1 : Int), .int .u64 (u.id.2 : Int), .int .u64 (u.l.1 : Int), .int .u64 (u.l.2 : Int), .int .u64 (u.r.1 : Int), .int .u64 (u.r.2 : Int)] := rfl
  rw [hcu]
  (refine Ga ?_)
  obtain ⟨X, hXe⟩ : ∃ X, (w.alloc (.cells [.int .u64 (u.id.1 : Int), .int .u64 (u.id.2 : Int), .int .u64 (u.l.1 : Int), .int .u64 (u.l.2 : Int), .int .u64 (u.r.1 : Int), .int .u64 (u.r.2 : Int)].toArray 52)).alloc (.cells [.int .u64 (u.id.1 : Int), .int .u64 (u.id.2 : Int), .int .u64 (u.l.1 : Int), .int .u64 (u.l.2 : Int), .int .u64 (u.r.1 : Int), .int .u64 (u.r.2 : Int), .pointer none, .slice none 0 0, .slice none 0 0, .int .i64 1].toArray 115) = X := ⟨_, rfl⟩
  have hbX : Below w.heap.size w X := by rw [← hXe]; exact Bel
  have kU : Blk X w.heap.size (ucs u) 52 := by rw [← hXe, hcu]; exact (by (repeat (first | assumption | (apply Blk.below (hb := hb1); rotate_left; (focus ((try simp only [Sx.sizes]); omega)); rotate_right) | (apply Blk.below (hb := hb2); rotate_left; (focus ((try simp only [Sx.sizes]); omega)); rotate_right) | (apply Blk.below (hb := hb3); rotate_left; (focus ((try simp only [Sx.sizes]); omega)); rotate_right) | (apply Blk.below (hb := hb4); rotate_left; (focus ((try simp only [Sx.sizes]); omega)); rotate_right) | (apply Blk.below (hb := hb5); rotate_left; (focus ((try simp only [Sx.sizes]); omega)); rotate_right) | (apply Blk.below (hb := hb6); rotate_left; (focus ((try simp only [Sx.sizes]); omega)); rotate_right) | (apply Blk.below (hb := hb7); rotate_left; (focus ((try simp only [Sx.sizes]); omega)); rotate_right) | (apply Blk.below (hb := hb8); rotate_left; (focus ((try simp only [Sx.sizes]); omega)); rotate_right) | (apply Blk.below (hb := hb9); rotate_left; (focus ((try simp only [Sx.sizes]); omega)); rotate_right) | exact Blk.newE (by first | rfl | ((try simp only [Sx.sizes]); first | done | omega)) _ _ | exact Blk.put_same (by (try simp only [Sx.sizes]); first | done | omega) _ _ | (apply Blk.put_ne; (focus omega)) | apply Blk.alloc | apply Blk.drew)); done)
  have kX : Blk X (w.heap.size + 1) (ncs (E.node u.id (w.heap.size + 1)) (newRec u) (.slice none 0 0) (.slice none 0 0)) 115 := by
    show Blk X (w.heap.size + 1) [.int .u64 (u.id.1 : Int), .int .u64 (u.id.2 : Int), .int .u64 (u.l.1 : Int), .int .u64 (u.l.2 : Int), .int .u64 (u.r.1 : Int), .int .u64 (u.r.2 : Int), .pointer none, .slice none 0 0, .slice none 0 0, .int .i64 1] 115
    rw [← hXe]
    exact (by (repeat (first | assumption | (apply Blk.below (hb := hb1); rotate_left; (focus ((try simp only [Sx.sizes]); omega)); rotate_right) | (apply Blk.below (hb := hb2); rotate_left; (focus ((try simp only [Sx.sizes]); omega)); rotate_right) | (apply Blk.below (hb := hb3); rotate_left; (focus ((try simp only [Sx.sizes]); omega)); rotate_right) | (apply Blk.below (hb := hb4); rotate_left; (focus ((try simp only [Sx.sizes]); omega)); rotate_right) | (apply Blk.below (hb := hb5); rotate_left; (focus ((try simp only [Sx.sizes]); omega)); rotate_right) | (apply Blk.below (hb := hb6); rotate_left; (focus ((try simp only [Sx.sizes]); omega)); rotate_right) | (apply Blk.below (hb := hb7); rotate_left; (focus ((try simp only [Sx.sizes]); omega)); rotate_right) | (apply Blk.below (hb := hb8); rotate_left; (focus ((try simp only [Sx.sizes]); omega)); rotate_right) | (apply Blk.below (hb := hb9); rotate_left; (focus ((try simp only [Sx.sizes]); omega)); rotate_right) | exact Blk.newE (by first | rfl | ((try simp only [Sx.sizes]); first | done | omega)) _ _ | exact Blk.put_same (by (try simp only [Sx.sizes]); first | done | omega) _ _ | (apply Blk.put_ne; (focus omega)) | apply Blk.alloc | apply Blk.drew)); done)
  rw [hXe]
  clear hXe
  have hX := h.newNode (r := newRec u) hc hxN hbX (Nat.le_succ _) kX ⟨⟨rfl, .inl ⟨rfl, rfl⟩⟩, fun g hg => by cases hg⟩ ⟨⟨rfl, .inl ⟨rfl, rfl⟩⟩, fun g hg => by cases hg⟩
  have htU : (E.node u.id (w.heap.size + 1)).tg w.heap.size = .other := (if_neg (by omega)).trans (hfar _ (Nat.le_refl _))
  have hfX : ∀ g, X.heap.size ≤ g → (E.node u.id (w.heap.size + 1)).tg g = .other := fun g hg => (if_neg (by have := kX.lt; omega)).trans (hfar _ (Nat.le_trans hbX.size hg))
  have hoX : ∀ g, g < w.heap.size → (E.node u.id (w.heap.size + 1)).tg g = E.tg g := fun g hg => if_neg (by omega)
  have hax : (E.node u.id (w.heap.size + 1)).ad u.id = w.heap.size + 1 := if_pos rfl
  have hEp : (E.node u.id (w.heap.size + 1)).p = E.p := rfl
  generalize E.node u.id (w.heap.size + 1) = E0 at *
  have ltU := kU.lt
  have hlen' : ord.length ≤ 1000000000 := by omega
  have hρx : fset ρ u.id (newRec u) u.id = newRec u := fset_same _ _ _
  have hρo : ∀ j ∈ N, fset ρ u.id (newRec u) j = ρ j := fun j hj => fset_ne fun e => hxN (e ▸ hj)
  have hN1 : ∀ j ∈ ord, j ∈ u.id :: N ∧ (fset ρ u.id (newRec u) j).u.id = j := fun j hj => ⟨List.mem_cons_of_mem _ (hN j hj).1, by rw [hρo j (hN j hj).1]; exact (hN j hj).2⟩
  obtain ⟨so, sr, fresh, m, hS, hOo, hR, hM, hF⟩ := id hX.seq
  rw [hEp] at hS
  have ltP := hS.lt
  obtain ⟨lo, hlo⟩ : ∃ lo, (if u.l ∈ D then pv E0 u.l else .pointer none) = Value.pointer lo := by split <;> exact ⟨_, rfl⟩
  obtain ⟨ro, hro⟩ : ∃ ro, (if u.r ∈ D then pv E0 u.r else .pointer none) = Value.pointer ro := by split <;> exact ⟨_, rfl⟩
  have hroN : ro.isNone = decide (u.r ∉ D) := by
    by_cases e : u.r ∈ D
    · rw [if_pos e] at hro
      cases hro
      rw [decide_eq_false (fun h => h e)]
      rfl
    · rw [if_neg e] at hro
      cases hro
      rw [decide_eq_true e]
      rfl
  have hloN : lo.isNone = decide (u.l ∉ D) := by
    by_cases e : u.l ∈ D
    · rw [if_pos e] at hlo
      cases hlo
      rw [decide_eq_false (fun h => h e)]
      rfl
    · rw [if_neg e] at hlo
      cases hlo
      rw [decide_eq_true e]
      rfl
  refine W_draws (Grown _) rfl (by kernel_rfl) (grown_start _) ?_
  (refine Qb ?_)
  apply Qst_lookup
  focus rfl
  focus rfl
  focus exact fun A9 hA9 => ((hX.below hA9).lookAll u.l).trans (by rw [hlo])
  focus rfl
  (refine Qb ?_)
  apply Qst_lookup
  focus rfl
  focus rfl
  focus exact fun A9 hA9 => ((hX.below hA9).lookAll u.r).trans (by rw [hro])
  focus rfl
  (refine Qb ?_)
  intro w8 hb8
  have h8 := hX.below hb8
  have hK8 : Kept E0 SA X w8 := .of hb8
  have hs8 := hb8.size
  apply seqQ_n
  apply W_seq
  apply W_region
  apply Lst_pu
  · apply P_assign
    focus constructor
  focus rfl
  apply Lst_nil
  apply seqQ_n
  apply W_seq
  refine W_cutS (α := Env) (fun _ => [(0, .pointer (some ⟨E.p, 0, none⟩)), (3, .pointer (some ⟨w.heap.size, 0, none⟩)), (4, .pointer (some ⟨w.heap.size + 1, 0, none⟩)), (7, .int .i64 (P : Int))]) (fun E1 A => Ex E0 X E1 A ∧ Kept E0 SA X A ∧ Core A E1 ord (if V.left then rt else rtR rt V.par ((rowOf ρ rt V.par).take V.k ++ u.id :: (rowOf ρ rt V.par).drop V.k)) (u.id :: N) D (laid (fset ρ u.id (newRec u)) rt u.id V)) ?_ ?_
  · have hav : ∀ j ∈ N, j ≠ u.id := fun j hj e => hxN (e ▸ hj)
    have hin : ∀ j ∈ N, j ∈ u.id :: N := fun j hj => List.mem_cons_of_mem _ hj
    have hchu : u.r ∈ D → Chain (fset ρ u.id (newRec u)) (u.id :: N) u.r rc := fun hr =>
      (ChainL.congr (fun j hj => ⟨hin j hj, by rw [hρo j hj]⟩) (hrc hr).1).chain (by rw [hρo _ (hc.D _ hr)]; exact (hrc hr).2)
    have hund : u.r ∈ D → u.l ∈ D → Does Tryz.prog 70 #[.pointer (some ⟨E.p, 0, none⟩), pv E0 u.r, pv E0 u.l] w8 fun v w' => v = .bool (decide (u.l ∈ rc)) ∧ w8 = w' := fun hr hl => by
      have := c_under (E := E0) (N := u.id :: N) u.r u.l rc (hin _ (hc.D _ hr)) (hin _ (hc.D _ hl)) (hchu hr) h8
      rwa [hEp] at this
    cases hVl : V.left with
    | true =>
      rw [hVl, if_pos rfl] at hW hP
      obtain ⟨hL, hVp⟩ := hW
      have hr : u.r ∈ D := hL.r
      have hrN := hc.D _ hr
      rw [if_pos hr] at hro
      cases hro
      have e1 := hρo _ hrN
      have key : Does Tryz.prog 71 #[.pointer (some ⟨E.p, 0, none⟩), .pointer (some ⟨w.heap.size + 1, 0, none⟩), pv E0 u.r] w8 fun v w' => v = .int .i64 (P : Int) ∧
          ∃ E', Ex E0 w8 E' w' ∧ Kept E0 SA w8 w' ∧ Core w' E' ord rt (u.id :: N) D (laid (fset ρ u.id (newRec u)) rt u.id V) := by
        have := c_leftOf (E := E0) (N := u.id :: N) u.id u.r V.k (List.mem_cons_self ..) (hin _ hrN) (Ne.symm (hav _ hrN)) (by rw [hρx]; rfl) (by rw [e1]; exact hse.u _ hrN)
          (fun j hj => by rw [e1] at hj; have hjN := hc.L _ hrN j hj; exact ⟨hin _ hjN, by rw [hρo _ hjN]; exact hse.u _ hjN, hav _ hjN, hse.l _ hrN j hj⟩) (by rw [e1]; exact hsz.L _ hrN)
          (fun j hj => by rw [e1] at hj; have hjN := hc.L _ hrN j hj; rw [hρo _ hjN]; have := hsz.n _ hjN; omega) (by rw [e1]; exact hL.kl) (by rw [e1]; exact hL.k1) (by rw [e1]; exact hL.k2) hD hN1 hnd hlen' h8
        rw [hEp, pv, hax, e1] at this
        refine this.mono ?_
        rintro v w' ⟨rfl, E', h1, h2, h3⟩
        refine ⟨congrArg (Value.int .i64) ?_, E', h1, h2, ?_⟩
        · rw [hP, sumN_congr (fun j hj => by rw [hρo _ (hc.L _ hrN j (List.mem_of_mem_drop hj))])]
        · unfold laid
          rw [hVl, if_pos rfl, hVp]
          dsimp only
          rw [e1]
          exact h3
      have fin : ∀ w', (∃ E', Ex E0 w8 E' w' ∧ Kept E0 SA w8 w' ∧ Core w' E' ord rt (u.id :: N) D (laid (fset ρ u.id (newRec u)) rt u.id V)) → ∃ E', Ex E0 X E' w' ∧ Kept E0 SA X w' ∧ Core w' E' ord (if true then rt else rtR rt V.par ((rowOf ρ rt V.par).take V.k ++ u.id :: (rowOf ρ rt V.par).drop V.k)) (u.id :: N) D (laid (fset ρ u.id (newRec u)) rt u.id V) := fun w' ⟨E', h1, h2, h3⟩ =>
        ⟨E', (Ex.refl E0 X w8).trans h1 hs8 h2.size, hK8.trans h2, h3⟩
      by_cases hl : u.l ∈ D
      · rw [if_pos hl] at hlo
        cases hlo
        (refine Ga ?_)
        (apply Lst_call; (focus rfl); (focus rfl))
        refine (hund hr hl).mono ?_
        rintro v w' ⟨rfl, rfl⟩
        rw [decide_eq_true (hL.l hl)]
        (refine Ga ?_)
        (apply Lst_call; (focus rfl); (focus rfl))
        refine key.mono ?_
        rintro v w9 ⟨rfl, hE⟩
        (refine Ga ?_)
        obtain ⟨E', hE⟩ := fin _ hE
        exact cutQ_n E' hE ⟨rfl, rfl, rfl, rfl, trivial⟩
      · rw [if_neg hl] at hlo
        cases hlo
        (refine Ga ?_)
        (apply Lst_call; (focus rfl); (focus rfl))
        refine key.mono ?_
        rintro v w9 ⟨rfl, hE⟩
        (refine Ga ?_)
        obtain ⟨E', hE⟩ := fin _ hE
        exact cutQ_n E' hE ⟨rfl, rfl, rfl, rfl, trivial⟩
    | false =>
      rw [hVl, if_neg (by simp)] at hW hP
      obtain ⟨hL, hVp⟩ := hW
      have hlp : Value.pointer lo = parv E0 V.par := by
        rw [hVp, ← hlo]
        unfold parOf
        split <;> rfl
      have hparN : ∀ p, V.par = some p → p ∈ N := fun p e => by
        rw [hVp] at e
        unfold parOf at e
        split at e
        · rename_i hl
          cases e
          exact hc.D _ hl
        · cases e
      have hrow : rowOf (fset ρ u.id (newRec u)) rt V.par = rowOf ρ rt V.par := by
        cases e : V.par with
        | none => rfl
        | some p => exact congrArg Rec.R (hρo p (hparN p e))
      have hrowN : ∀ j ∈ rowOf ρ rt V.par, j ∈ N := fun j hj => by
        cases e : V.par with
        | none => rw [e] at hj; exact hc.rt j hj
        | some p => rw [e] at hj; exact hc.R p (hparN p e) j hj
      have hrowl : (rowOf ρ rt V.par).length ≤ 1000000000 - 1 := by
        cases e : V.par with
        | none => exact hsz.rt
        | some p => exact hsz.R p (hparN p e)
      obtain ⟨hLr, hLkl, hLk1, hLk2⟩ := hL
      rw [← hVp] at hLkl hLk1 hLk2
      have key : Does Tryz.prog 72 #[.pointer (some ⟨E.p, 0, none⟩), .pointer (some ⟨w.heap.size + 1, 0, none⟩), .pointer lo] w8 fun v w' => v = .int .i64 (P : Int) ∧
          ∃ E', Ex E0 w8 E' w' ∧ Kept E0 SA w8 w' ∧ Core w' E' ord (rtR rt V.par ((rowOf ρ rt V.par).take V.k ++ u.id :: (rowOf ρ rt V.par).drop V.k)) (u.id :: N) D (laid (fset ρ u.id (newRec u)) rt u.id V) := by
        have := c_rightOf (E := E0) (N := u.id :: N) u.id V.par V.k (List.mem_cons_self ..) (fun p e => by have := hparN p e; exact ⟨hin _ this, hav _ this, by rw [hρo _ this]; exact hse.u _ this⟩) (by rw [hρx]; rfl)
          (fun j hj => by rw [hrow] at hj; exact ⟨hin _ (hrowN j hj), hav _ (hrowN j hj)⟩) (by rw [hrow]; exact hrowl) (fun j hj => by rw [hrow] at hj; rw [hρo _ (hrowN j hj)]; have := hsz.n _ (hrowN j hj); omega)
          (by rw [hrow]; exact hLkl) (by rw [hrow, hρx]; exact fun i hi hk => by rw [hρo _ (hrowN _ (List.getElem_mem hi))]; exact hLk1 i hi hk) (by rw [hrow, hρx]; exact fun i hi hk => by rw [hρo _ (hrowN _ (List.getElem_mem hi))]; exact hLk2 i hi hk) hD hN1 hnd hlen' h8
        rw [hEp, pv, hax, ← hlp, hrow] at this
        refine this.mono ?_
        rintro v w' ⟨rfl, E', h1, h2, h3⟩
        refine ⟨congrArg (Value.int .i64) ?_, E', h1, h2, ?_⟩
        · rw [hP, sumN_congr (fun j hj => by rw [hρo _ (hrowN j (List.mem_of_mem_take hj))])]
        · unfold laid
          rw [hVl, if_neg (by simp), hrow]
          exact h3
      have fin : ∀ w', (∃ E', Ex E0 w8 E' w' ∧ Kept E0 SA w8 w' ∧ Core w' E' ord (rtR rt V.par ((rowOf ρ rt V.par).take V.k ++ u.id :: (rowOf ρ rt V.par).drop V.k)) (u.id :: N) D (laid (fset ρ u.id (newRec u)) rt u.id V)) → ∃ E', Ex E0 X E' w' ∧ Kept E0 SA X w' ∧ Core w' E' ord (if false then rt else rtR rt V.par ((rowOf ρ rt V.par).take V.k ++ u.id :: (rowOf ρ rt V.par).drop V.k)) (u.id :: N) D (laid (fset ρ u.id (newRec u)) rt u.id V) := fun w' ⟨E', h1, h2, h3⟩ =>
        ⟨E', (Ex.refl E0 X w8).trans h1 hs8 h2.size, hK8.trans h2, h3⟩
      clear hlp
      by_cases hr : u.r ∈ D
      · obtain ⟨hl, hnr⟩ := hLr hr
        rw [if_pos hr] at hro
        rw [if_pos hl] at hlo
        cases hro
        cases hlo
        (refine Ga ?_)
        (apply Lst_call; (focus rfl); (focus rfl))
        refine (hund hr hl).mono ?_
        rintro v w' ⟨rfl, rfl⟩
        rw [decide_eq_false hnr]
        (refine Ga ?_)
        (apply Lst_call; (focus rfl); (focus rfl))
        refine key.mono ?_
        rintro v w9 ⟨rfl, hE⟩
        (refine Ga ?_)
        obtain ⟨E', hE⟩ := fin _ hE
        exact cutQ_n E' hE ⟨rfl, rfl, rfl, rfl, trivial⟩
      · rw [if_neg hr] at hro
        cases hro
        (refine Ga ?_)
        (apply Lst_call; (focus rfl); (focus rfl))
        refine key.mono ?_
        rintro v w9 ⟨rfl, hE⟩
        (refine Ga ?_)
        obtain ⟨E', hE⟩ := fin _ hE
        exact cutQ_n E' hE ⟨rfl, rfl, rfl, rfl, trivial⟩
  · rintro J E1 A1 ⟨hE1, hK1, h1⟩
    have hsX1 := hK1.size
    have hVpN : ∀ p, V.par = some p → p ≠ u.id := fun p e he => by
      have h2 := hch.2.1
      rw [e] at h2
      cases c with
      | nil => cases h2
      | cons q c =>
        cases h2
        exact hxN (he ▸ hch.1.1)
    have hVl : V.left = true → ∃ p, V.par = some p := fun e => by
      rw [e, if_pos rfl] at hW
      exact ⟨_, hW.2⟩
    have hρ2x : (laid (fset ρ u.id (newRec u)) rt u.id V u.id).par = c.head? := (laid_x hVl hVpN (by rw [hρx]; rfl)).trans hch.2.1
    have hρ2o : ∀ j ∈ N, (laid (fset ρ u.id (newRec u)) rt u.id V j).par = (ρ j).par ∧ (laid (fset ρ u.id (newRec u)) rt u.id V j).n = (ρ j).n := fun j hj => by
      have hne : j ≠ u.id := fun e => hxN (e ▸ hj)
      obtain ⟨a1, a2, _⟩ := laid_o (ρ := fset ρ u.id (newRec u)) (rt := rt) hne hVpN
      exact ⟨a1.trans (by rw [hρo j hj]), a2.trans (by rw [hρo j hj])⟩
    have hcN : ∀ {l : List Id}, ChainL ρ N l → ∀ j ∈ l, j ∈ N := fun {l} => by
      induction l with
      | nil => intro _ j hj; cases hj
      | cons a l ih =>
        intro hl j hj
        rcases List.mem_cons.1 hj with rfl | hj
        · exact hl.1
        · exact ih hl.2.2 j hj
    have hc2 : ChainL (laid (fset ρ u.id (newRec u)) rt u.id V) (u.id :: N) c := ChainL.congr (fun j hj => ⟨List.mem_cons_of_mem _ hj, (hρ2o j hj).1⟩) hch.1
    have hn2 : ∀ j ∈ c, (laid (fset ρ u.id (newRec u)) rt u.id V j).n ≤ 1000000000 - 1 := fun j hj => by
      rw [(hρ2o j (hcN hch.1 j hj)).2]
      exact hsz.n j (hcN hch.1 j hj)
    have hax1 : E1.ad u.id = w.heap.size + 1 := by rw [hE1.ad]; exact hax
    have hEp1 : E1.p = E.p := hE1.p.trans hEp
    generalize laid (fset ρ u.id (newRec u)) rt u.id V = ρ2 at *
    generalize (if V.left = true then rt else rtR rt V.par ((rowOf ρ rt V.par).take V.k ++ u.id :: (rowOf ρ rt V.par).drop V.k)) = rt' at *
    have hkU : ∀ A', Kept E0 SA X A' → Blk A' w.heap.size (ucs u) 52 := fun A' hk => hk.blk kU (by rw [htU]; exact fun h => h rfl)
    clear hS hOo hR hM hF ltP hX h8 hK8 hs8 hb8 hlo hro hroN hloN hW hP h
    apply W_seq
    refine W_cutS (α := Unit) (fun _ => [(0, .pointer (some ⟨E.p, 0, none⟩)), (3, .pointer (some ⟨w.heap.size, 0, none⟩)), (4, .pointer (some ⟨w.heap.size + 1, 0, none⟩)), (7, .int .i64 (P : Int))]) (fun _ A => A1.heap.size ≤ A.heap.size ∧ Kept E0 SA X A ∧ Core A E1 ord rt' (u.id :: N) D (bump 1 c ρ2)) ?_ ?_
    · obtain ⟨_, xl, xr, hbx, _, _⟩ := h1.nodes u.id (List.mem_cons_self ..)
      rw [hax1] at hbx
      have hpar : parv E1 (ρ2 u.id).par = parv E1 c.head? := congrArg _ hρ2x
      obtain ⟨co, hco⟩ : ∃ co, parv E1 c.head? = .pointer co := by cases c.head? <;> exact ⟨_, rfl⟩
      unfold ncs at hbx
      rw [hpar, hco] at hbx
      (refine Ga ?_)
      refine W_loop (α := List Id × (Id → Rec)) (fun y => [(0, .pointer (some ⟨E.p, 0, none⟩)), (3, .pointer (some ⟨w.heap.size, 0, none⟩)), (4, .pointer (some ⟨w.heap.size + 1, 0, none⟩)), (7, .int .i64 (P : Int)), (8, parv E1 y.1.head?)])
        (fun y A => ChainL y.2 (u.id :: N) y.1 ∧ bump 1 y.1 y.2 = bump 1 c ρ2 ∧ y.1.Nodup ∧ (∀ j ∈ y.1, (y.2 j).n ≤ 1000000000 - 1) ∧ A1.heap.size ≤ A.heap.size ∧ Kept E0 SA X A ∧ Core A E1 ord rt' (u.id :: N) D y.2) (fun y _ => y.1.length) (c, ρ2) ⟨hc2, rfl, hch.2.2, hn2, Nat.le_refl _, hK1, h1⟩ ⟨rfl, rfl, rfl, rfl, ?_, trivial⟩ ?_
      · exact hco.symm
      clear h1 hK1 hc2 hn2 hbx hpar hco
      rintro J ⟨l, σ⟩ A ⟨hl, hb, hnd, hn, hsA, hK, h1⟩
      cases l with
      | nil =>
        unfold List.head? parv
        (refine Ga ?_)
        refine cutQ_n () ⟨hsA, hK, ?_⟩ ⟨rfl, rfl, rfl, rfl, trivial⟩
        rw [← hb]
        exact h1
      | cons j l =>
        obtain ⟨hjN, hjp, hl⟩ := hl
        dsimp only at hjp hl hn hb h1
        rw [List.nodup_cons] at hnd
        have hnj := hn j (List.mem_cons_self ..)
        obtain ⟨htj, jl, jr, hbj, hjl, hjr⟩ := h1.nodes j hjN
        have hltj := hbj.lt
        have hcell : (ncs E1 { σ j with n := (σ j).n + 1 } jl jr) = [.int .u64 ((σ j).u.id.1 : Int), .int .u64 ((σ j).u.id.2 : Int), .int .u64 ((σ j).u.l.1 : Int), .int .u64 ((σ j).u.l.2 : Int), .int .u64 ((σ j).u.r.1 : Int), .int .u64 ((σ j).u.r.2 : Int), parv E1 (σ j).par, jl, jr, .int .i64 (((σ j).n : Int) + 1)] := by
          unfold ncs
          simp only [Int.natCast_add]
          rfl
        have hKp := Kept.put (S := fun t => t = .node j) (w := A) (E1.ad j) htj (.cells (ncs E1 { σ j with n := (σ j).n + 1 } jl jr).toArray 115)
        have h2 := h1.updNode (r := { σ j with n := (σ j).n + 1 }) hKp (fun t ht => .inr (.inl ht)) ⟨htj, jl, jr, Blk.put_same hltj _ _, hKp.row hjl (by simp), hKp.row hjr (by simp)⟩
        have hE0 := hK.step hKp hE1.old (fun t ht => by rw [ht]; simp)
        have hpj : parv E1 (σ j).par = parv E1 l.head? := congrArg _ hjp
        obtain ⟨lo, hlo⟩ : ∃ lo, parv E1 l.head? = .pointer lo := by cases l.head? <;> exact ⟨_, rfl⟩
        rw [hcell] at h2 hE0
        unfold ncs at hbj
        rw [hpj, hlo] at hbj h2 hE0
        unfold List.head? parv pv
        (refine Ga ?_)
        refine rndQ_n (α := List Id × (Id → Rec)) (l, fset σ j { σ j with n := (σ j).n + 1 }) ⟨ChainL.congr (fun i hi => ⟨hi, ?_⟩) hl, ?_, hnd.2, fun i hi => ?_, by rw [World.putObj_size]; exact hsA, hE0, h2⟩ ⟨rfl, rfl, rfl, rfl, ?_, trivial⟩ (by simp)
        · dsimp only
          by_cases e : i = j
          · subst e
            rw [fset_same]
          · rw [fset_ne e]
        · exact (bump_cons hnd.1 σ).trans hb
        · dsimp only
          rw [fset_ne (fun e : i = j => hnd.1 (e ▸ hi))]
          exact hn i (List.mem_cons_of_mem _ hi)
        · exact hlo.symm
    · rintro J _ A ⟨hsA, hK, h2⟩
      clear h1 hK1 hc2 hn2
      obtain ⟨so, sr, fresh, m, hS, hOo, hR, hM, hF⟩ := id h2.seq
      obtain ⟨es, hes, hlk⟩ := id h2.all
      have kUA := hkU A hK
      unfold ucs at kUA
      rw [hEp1] at hS
      have ltP := hS.lt
      have ltU := kUA.lt
      (refine Ga ?_)
      refine W_draw 7 (Grown A) rfl (by kernel_rfl) (grown_start A) ?_
      (refine Qb ?_)
      intro w8 hb8
      have hes8 := (Kept.of (E := E1) (S := fun _ => False) hb8).map hes (fun h => h)
      have hs8 := hb8.size
      have h8 := h2.below hb8
      have hK8 := hK.step (Kept.of (E := E1) (S := fun _ => False) hb8) hE1.old (fun t h => h.elim)
      apply SxG.Lst_mapput (k := u.id) (ky := idv) (R := RP) (v := .pointer (some ⟨w.heap.size + 1, 0, none⟩)) (w.heap.size + 1)
      focus rfl
      focus rfl
      focus rfl
      focus rfl
      focus exact idKey
      focus exact hes8
      focus rfl
      intro w7 hm7 hc7 hs7
      have hk7 : Kept E1 (fun t => t = .all) w8 w7 := .ofChg hc7 (fun b hb => by rw [List.mem_singleton.1 hb]; exact h2.tma)
      have h7 : Core w7 E1 ord rt' (u.id :: N) (u.id :: D) (bump 1 c ρ2) := h8.updAll hk7 (fun t ht => .inr ht) ⟨_, hm7, fun k => by
        rw [SxG.look_put, hlk]
        by_cases e : k = u.id
        · subst e
          rw [if_pos rfl, if_pos (List.mem_cons_self ..), hax1]
        · rw [if_neg e]
          by_cases e' : k ∈ D
          · rw [if_pos e', if_pos (List.mem_cons_of_mem _ e')]
          · rw [if_neg e', if_neg (fun hm => (List.mem_cons.1 hm).elim e e')]⟩
      have hK7 := hK8.step hk7 hE1.old (fun t ht => by rw [ht]; simp)
      clear h8 hK8 hk7 hm7 hc7 hes8 hes hlk h2 hK hb8 hS hOo hR hM hF ltP
      obtain ⟨so, sr, fresh, m, hS, hOo, hR, hM, hF⟩ := id h7.seq
      rw [hEp1] at hS
      have hrowO := hOo
      obtain ⟨a, ca, rfl, hac, hat⟩ := hOo.at
      clear hat
      (refine Ga ?_)
      (apply Lst_slit; (focus rfl); (focus rfl); (focus rfl); (focus rfl); (focus rfl); (focus rfl); (focus rfl); (focus rfl); (focus rfl); (focus (repeat (first | apply FillO.nil | (apply FillO.cons; (focus constructor); (focus rfl); (focus rfl); (focus (repeat constructor)))))); (focus ((try simp only [Sx.sizes]); first | done | rfl)); (focus rfl))
      (refine Ga ?_)
      have hbY : Below w7.heap.size w7 (w7.alloc (.cells [.pointer (some ⟨w.heap.size + 1, 0, none⟩)].toArray 85)) := Bel
      have kY : Blk (w7.alloc (.cells [.pointer (some ⟨w.heap.size + 1, 0, none⟩)].toArray 85)) w7.heap.size [.pointer (some ⟨w.heap.size + 1, 0, none⟩)] 85 := (by (repeat (first | assumption | (apply Blk.below (hb := hb1); rotate_left; (focus ((try simp only [Sx.sizes]); omega)); rotate_right) | (apply Blk.below (hb := hb2); rotate_left; (focus ((try simp only [Sx.sizes]); omega)); rotate_right) | (apply Blk.below (hb := hb3); rotate_left; (focus ((try simp only [Sx.sizes]); omega)); rotate_right) | (apply Blk.below (hb := hb4); rotate_left; (focus ((try simp only [Sx.sizes]); omega)); rotate_right) | (apply Blk.below (hb := hb5); rotate_left; (focus ((try simp only [Sx.sizes]); omega)); rotate_right) | (apply Blk.below (hb := hb6); rotate_left; (focus ((try simp only [Sx.sizes]); omega)); rotate_right) | (apply Blk.below (hb := hb7); rotate_left; (focus ((try simp only [Sx.sizes]); omega)); rotate_right) | (apply Blk.below (hb := hb8); rotate_left; (focus ((try simp only [Sx.sizes]); omega)); rotate_right) | (apply Blk.below (hb := hb9); rotate_left; (focus ((try simp only [Sx.sizes]); omega)); rotate_right) | exact Blk.newE (by first | rfl | ((try simp only [Sx.sizes]); first | done | omega)) _ _ | exact Blk.put_same (by (try simp only [Sx.sizes]); first | done | omega) _ _ | (apply Blk.put_ne; (focus omega)) | apply Blk.alloc | apply Blk.drew)); done)
      have hrY : RowAt (w7.alloc (.cells [.pointer (some ⟨w.heap.size + 1, 0, none⟩)].toArray 85)) E1 .order (.slice a ord.length ca) ord := (Kept.of (E := E1) (S := fun _ => False) hbY).row hrowO (fun h => h)
      have hvne : ∀ g, (Value.slice a ord.length ca).ownBlock = some g → g < w7.heap.size := fun g hg => own_ltg hrowO.own hg
      have hpx : pv E1 u.id = .pointer (some ⟨w.heap.size + 1, 0, none⟩) := by unfold pv; rw [hax1]
      (apply Lst_call; (focus rfl); (focus rfl))
      refine (c_Ins 0 ord.length P 1 _ _ (ord.map (pv E1)) [pv E1 u.id] [pv E1 u.id] w7.heap.size 0 1 85 hPl (by decide) (by omega) (w7.alloc (.cells [.pointer (some ⟨w.heap.size + 1, 0, none⟩)].toArray 85)) hrY.own (Nat.zero_le _) rfl rfl (by rw [hpx]; exact kY) (fun j u hu => by rwa [Nat.zero_add]) (fun u hu => by obtain ⟨q, _, rfl⟩ := List.mem_map.1 hu; rfl) (fun u hu => by rw [List.mem_singleton.1 hu]; rfl) (fun hg => by have := hvne _ hg; omega)).mono ?_
      rintro v w4 ⟨ho, hg, hb⟩
      obtain ⟨E2, hE2, hrow4, hkp⟩ := row_ins hrY ho hPl hg hb
      have hY := h7.below hbY
      have hKY := hK7.step (Kept.of (E := E1) (S := fun _ => False) hbY) hE1.old (fun t h => h.elim)
      clear hrY ho hg hb hvne kY hrowO hOo hS hR hM hF
      obtain ⟨v1, v2, v3, rfl⟩ := own_slice hrow4.own
      generalize w7.alloc (.cells [.pointer (some ⟨w.heap.size + 1, 0, none⟩)].toArray 85) = Y at *
      have hC4 := hY.ext hE2 (Nat.le_refl _)
      obtain ⟨so, sr, fresh, m, hS, hOo, hR, hM, hF⟩ := id hC4.seq
      have hS4 := hkp.blk hS (by rw [hC4.tp]; simp)
      have ht4 := hC4.tp
      rw [hE2.p, hEp1] at hS4 ht4
      have hl4 := hS4.lt
      (refine Ga ?_)
      have hkq : Kept E2 (fun t => t = .seq ∨ t = .order) Y ((w4.putObj E.p (.cells [.map (some E2.ma), .slice v1 v2 v3, sr, .map (some E2.mt), .bool fresh].toArray 83)).putObj E.p (.cells [.map (some E2.ma), .slice v1 v2 v3, sr, .map (some E2.mt), .bool false].toArray 83)) :=
        ((hkp.mono fun t ht => .inr ht).trans (.put _ (.inl ht4) _)).trans (.put _ (.inl ht4) _)
      have hfin : Core ((w4.putObj E.p (.cells [.map (some E2.ma), .slice v1 v2 v3, sr, .map (some E2.mt), .bool fresh].toArray 83)).putObj E.p (.cells [.map (some E2.ma), .slice v1 v2 v3, sr, .map (some E2.mt), .bool false].toArray 83)) E2 (ord.take P ++ u.id :: ord.drop P) rt' (u.id :: N) (u.id :: D) (bump 1 c ρ2) :=
        hC4.updSeq hkq (fun t ht => ht.elim (fun h => .inr (.inl h)) (fun h => .inr (.inr (.inl h)))) ⟨.slice v1 v2 v3, sr, false, m, by rw [hE2.p, hEp1]; exact Blk.put_same (by rw [World.putObj_size]; exact hl4) _ _,
          ((Kept.put (S := fun t => t = .seq) _ ht4 _).trans (Kept.put (S := fun t => t = .seq) _ ht4 _)).row hrow4 (by simp), hkq.row hR (by simp), hkq.map hM (by rw [hC4.tmt]; simp), fun e => by cases e⟩
      have hKf := hKY.step hkq (fun g hg => (hE2.old g (Nat.lt_of_lt_of_le hg hKY.size)).trans (hE1.old g hg)) (fun t ht => by rcases ht with rfl | rfl <;> simp)
      refine retQ0n ⟨rfl, E2, hE2.p.trans hEp1, fun g hg => ?_, fun g hg => ?_, hKf.base hbX hoX, hfin⟩
      · have hgX := Nat.lt_of_lt_of_le hg hbX.size
        exact (hE2.old g (Nat.lt_of_lt_of_le hgX hKY.size)).trans ((hE1.old g hgX).trans (hoX g hg))
      · rw [World.putObj_size, World.putObj_size] at hg
        have hs4 := hkp.size
        have hsY := hbY.size
        exact (hE2.far g hg).trans ((hE1.far g (by omega)).trans (hfX g (by omega)))
end Sq
end Go.Proofs.YtmgipnckojopcaaGreat
