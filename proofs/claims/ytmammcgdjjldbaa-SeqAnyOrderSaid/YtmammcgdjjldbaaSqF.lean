/- Find. -/
import Derived.Test.YtmammcgdjjldbaaSqW
namespace Go.Proofs.Ytmammcgdjjldbaa
set_option maxRecDepth 100000
namespace Sq
open Go Go.RowKit Sx Tl
variable {E : Env} {ord rt N D : List Id} {ρ : Id → Rec} {w : World}
theorem KC.of {A A' : World} (h : Below A.heap.size A A') : KC A A' := ⟨h.size, fun k _ hk _ => (h.block k (lt_of_some hk)).trans hk⟩
theorem KF.of {A A' : World} {B : Nat} (h : Below A.heap.size A A') : KeepsFrom B A A' := ⟨h.size, fun k _ _ hk _ => (h.block k (lt_of_some hk)).trans hk⟩
theorem KC.map {A A' : World} {b : Nat} (h : Chg [b] A A') (hb : ∀ o, A.heap[b]? = some o → o.isCells = false) : KC A A' := ⟨h.size, fun k o hk ho => (h.block k (lt_of_some hk) (fun hm => by
  rw [List.mem_singleton.1 hm] at hk
  have := hb o hk
  rw [ho] at this
  cases this)).trans hk⟩
theorem KF.map {A A' : World} {b B : Nat} (h : Chg [b] A A') (hb : b < B) : KeepsFrom B A A' := ⟨h.size, fun k o hB hk _ => (h.block k (lt_of_some hk) (fun hm => by
  rw [List.mem_singleton.1 hm] at hB
  omega)).trans hk⟩
theorem mp_cells {α : Type} {R : Value → α → Prop} {b : Nat} {m : List (Id × α)} (h : SxG.MpAt idv w b R m) : ∀ o, w.heap[b]? = some o → o.isCells = false := by
  intro o ho
  obtain ⟨arr, clock, h1, _⟩ := h
  rw [h1] at ho
  cases ho
  rfl
/-- What Find tells. -/
def findV (ord D : List Id) (k : Id) : Int := if k ∈ D then (ord.idxOf k : Int) else -1
/-- The sequence's own, but its cache. -/
abbrev SF (t : Tag) : Prop := t = .seq ∨ t = .at'
theorem Kept.nodeF {w' : World} {k : Id} {r : Rec} (h : Kept E SF w w') (hn : NodeAt w E k r) : NodeAt w' E k r := h.node hn (by rintro (h | h) <;> cases h) (by rintro (h | h) <;> cases h) (by rintro (h | h) <;> cases h)
theorem Kept.coreF {w' : World} {so sr : Value} {fresh : Bool} {m : List (Id × Nat)} (h : Core w E ord rt N D ρ) (hk : Kept E SF w w') (hO : RowAt w E .order so ord) (hR : RowAt w E .root sr rt) (hS : Blk w' E.p [.map (some E.ma), so, sr, .map (some E.mt), .bool fresh] 71) (hm : SxG.MpAt idv w' E.mt RI m) (hf : fresh = true → ∀ k ∈ ord, SxG.look m k = some (ord.idxOf k)) : Core w' E ord rt N D ρ := by
  obtain ⟨es, h6, h7⟩ := h.all
  exact ⟨h.tp, h.tma, h.tmt, ⟨so, sr, fresh, m, hS, hk.row hO (by rintro (h | h) <;> cases h), hk.row hR (by rintro (h | h) <;> cases h), hm, hf⟩, ⟨es, hk.map h6 (by rw [h.tma]; rintro (h | h) <;> cases h), h7⟩, fun k hkN => hk.nodeF (h.nodes k hkN)⟩
theorem Kept.putNew {S : Tag → Prop} {A : World} (h : Kept E S w A) {d : Nat} (hd : w.heap.size ≤ d) (o : Obj) : Kept E S w (A.putObj d o) :=
  ⟨h.os, h.tape, h.output, by rw [World.putObj_size]; exact h.size, fun g h1 h2 => (World.putObj_heap_other (by omega)).trans (h.block g h1 h2)⟩
theorem Kept.calm {S : Tag → Prop} {A A' : World} (h : Kept E S w A) (hc : Sx.Calm w.heap.size A A') : Kept E S w A' :=
  ⟨hc.os.trans h.os, hc.tape.trans h.tape, hc.output.trans h.output, Nat.le_trans h.size hc.size, fun g h1 h2 => by
    have hb := h.block g h1 h2
    have hlt : g < A.heap.size := Nat.lt_of_lt_of_le h1 h.size
    rw [← hb]
    exact (hc.same g _ (Array.getElem?_eq_getElem hlt) (.inl h1)).trans (Array.getElem?_eq_getElem hlt).symm⟩
/-- What the range has done so far. -/
structure Rng (E : Env) (ord : List Id) (b : Nat) (k0 : Id) (Z : World) (k : Nat) (A : World) : Prop where
  map : ∃ m, SxG.MpAt idv A E.mt RI m ∧ ∀ (i : Nat) (hi : i < ord.length), i < k → SxG.look m ord[i] = some i
  kept : Kept E (fun t => t = .at') Z A
  box : Blk A b [.pointer (some ⟨E.p, 0, none⟩)] 27
  key : Blk A (b + 1) (idcs k0) 32
theorem Rng.calm {b : Nat} {k0 : Id} {Z A A' : World} {k : Nat} (h : Rng E ord b k0 Z k A) (hc : Sx.Calm Z.heap.size A A') (hm : E.mt < Z.heap.size) : Rng E ord b k0 Z k A' := by
  obtain ⟨⟨m, h1, h2⟩, h3, h4, h5⟩ := h
  have hlt := h1.lt
  exact ⟨⟨m, h1.mono ((hc.same _ _ (Array.getElem?_eq_getElem hlt) (.inl hm)).trans (Array.getElem?_eq_getElem hlt).symm) (fun _ _ h => h), h2⟩, h3.calm hc, hc.blk h4, hc.blk h5⟩
theorem ucs_one (u : Un) : ∀ v ∈ ucs u, v.oneCell' = true := fun v hv => by
  unfold ucs at hv
  simp only [List.mem_cons, List.not_mem_nil, or_false] at hv
  rcases hv with rfl | rfl | rfl | rfl | rfl | rfl <;> rfl
theorem idxOf_at {l : List Id} (hn : l.Nodup) {i : Nat} (hi : i < l.length) : l.idxOf l[i] = i := List.Nodup.idxOf_getElem hn i hi
attribute [local irreducible] W Lst Qst Pu seqQ blkQ rndQ cutQ retQ Does Enters IntKind.wrap bits sb World.alloc World.putObj Blk
set_option maxHeartbeats 4000000 in
theorem c_Find (k : Id) (hD : ∀ j, j ∈ ord ↔ j ∈ D) (hN : ∀ j ∈ ord, j ∈ N ∧ (ρ j).u.id = j) (hnd : ord.Nodup) (hlen : ord.length ≤ 1000000000) (h : Core w E ord rt N D ρ) :
    Does Try.prog 16 #[.pointer (some ⟨E.p, 0, none⟩), idv k] w fun v w' => v = .int .i64 (findV ord D k) ∧ Core w' E ord rt N D ρ ∧ Kept E SF w w' := by
  refine Does_of_marks (args := [.pointer (some ⟨E.p, 0, none⟩), idv k]) Try.func16 (by kernel_rfl) rfl rfl rfl rfl rfl ?_
  obtain ⟨so, sr, fresh, m, hS, hO, hR, hM, hF⟩ := id h.seq
  have hlt := hS.lt
  (refine Ga ?_)
  have hbX : Below w.heap.size w ((w.alloc (.cells [.pointer (some ⟨E.p, 0, none⟩)].toArray 27)).alloc (.cells (idcs k).toArray 32)) := Bel
  have kS : Blk ((w.alloc (.cells [.pointer (some ⟨E.p, 0, none⟩)].toArray 27)).alloc (.cells (idcs k).toArray 32)) w.heap.size [.pointer (some ⟨E.p, 0, none⟩)] 27 := (by (repeat (first | assumption | (apply Blk.below (hb := hb1); rotate_left; (focus ((try simp only [Sx.sizes]); omega)); rotate_right) | (apply Blk.below (hb := hb2); rotate_left; (focus ((try simp only [Sx.sizes]); omega)); rotate_right) | (apply Blk.below (hb := hb3); rotate_left; (focus ((try simp only [Sx.sizes]); omega)); rotate_right) | (apply Blk.below (hb := hb4); rotate_left; (focus ((try simp only [Sx.sizes]); omega)); rotate_right) | (apply Blk.below (hb := hb5); rotate_left; (focus ((try simp only [Sx.sizes]); omega)); rotate_right) | (apply Blk.below (hb := hb6); rotate_left; (focus ((try simp only [Sx.sizes]); omega)); rotate_right) | (apply Blk.below (hb := hb7); rotate_left; (focus ((try simp only [Sx.sizes]); omega)); rotate_right) | (apply Blk.below (hb := hb8); rotate_left; (focus ((try simp only [Sx.sizes]); omega)); rotate_right) | (apply Blk.below (hb := hb9); rotate_left; (focus ((try simp only [Sx.sizes]); omega)); rotate_right) | exact Blk.newE (by first | rfl | ((try simp only [Sx.sizes]); first | done | omega)) _ _ | exact Blk.put_same (by (try simp only [Sx.sizes]); first | done | omega) _ _ | (apply Blk.put_ne; (focus omega)) | apply Blk.alloc | apply Blk.drew)); done)
  have kI : Blk ((w.alloc (.cells [.pointer (some ⟨E.p, 0, none⟩)].toArray 27)).alloc (.cells (idcs k).toArray 32)) (w.heap.size + 1) (idcs k) 32 := (by (repeat (first | assumption | (apply Blk.below (hb := hb1); rotate_left; (focus ((try simp only [Sx.sizes]); omega)); rotate_right) | (apply Blk.below (hb := hb2); rotate_left; (focus ((try simp only [Sx.sizes]); omega)); rotate_right) | (apply Blk.below (hb := hb3); rotate_left; (focus ((try simp only [Sx.sizes]); omega)); rotate_right) | (apply Blk.below (hb := hb4); rotate_left; (focus ((try simp only [Sx.sizes]); omega)); rotate_right) | (apply Blk.below (hb := hb5); rotate_left; (focus ((try simp only [Sx.sizes]); omega)); rotate_right) | (apply Blk.below (hb := hb6); rotate_left; (focus ((try simp only [Sx.sizes]); omega)); rotate_right) | (apply Blk.below (hb := hb7); rotate_left; (focus ((try simp only [Sx.sizes]); omega)); rotate_right) | (apply Blk.below (hb := hb8); rotate_left; (focus ((try simp only [Sx.sizes]); omega)); rotate_right) | (apply Blk.below (hb := hb9); rotate_left; (focus ((try simp only [Sx.sizes]); omega)); rotate_right) | exact Blk.newE (by first | rfl | ((try simp only [Sx.sizes]); first | done | omega)) _ _ | exact Blk.put_same (by (try simp only [Sx.sizes]); first | done | omega) _ _ | (apply Blk.put_ne; (focus omega)) | apply Blk.alloc | apply Blk.drew)); done)
  have hX := h.below hbX
  have hSX := hS.below hbX hlt
  have hOX := (Kept.of (E := E) (S := fun _ => False) hbX).row hO (fun h => h)
  have hRX := (Kept.of (E := E) (S := fun _ => False) hbX).row hR (fun h => h)
  have hMX := (Kept.of (E := E) (S := fun _ => False) hbX).map hM (fun h => h)
  generalize (w.alloc (.cells [.pointer (some ⟨E.p, 0, none⟩)].toArray 27)).alloc (.cells (idcs k).toArray 32) = X at *
  have hOw := hO
  have hRw := hR
  have hmlt := hM.lt
  clear hS hO hR hM
  have ltS := kS.lt
  have ltI := kI.lt
  have ltP := hSX.lt
  by_cases hk : k ∈ D
  · have hf : findV ord D k = (ord.idxOf k : Int) := if_pos hk
    refine W_draws (Grown _) rfl (by kernel_rfl) (grown_start _) ?_
    (refine Qb ?_)
    apply Qst_lookup
    focus rfl
    focus rfl
    focus exact fun A9 hA9 => ((hX.below hA9).lookAll k).trans (by rw [if_pos hk])
    focus rfl
    (refine Qb ?_)
    intro w9 hb9
    have b9 := Sx.Below.after (w := w) Bel hb9
    have s9 := hb9.size
    try simp only [Sx.sizes] at s9
    have h9 := hX.below hb9
    have hS9 := hSX.below hb9 ltP
    have hO9 := (Kept.of (E := E) (S := fun _ => False) hb9).row hOX (fun h => h)
    have hR9 := (Kept.of (E := E) (S := fun _ => False) hb9).row hRX (fun h => h)
    have hM9 := (Kept.of (E := E) (S := fun _ => False) hb9).map hMX (fun h => h)
    have kS9 := kS.below hb9 ltS
    have kI9 := kI.below hb9 ltI
    have hbw := hbX.trans (hb9.mono hbX.size)
    clear hX hSX hOX hRX hMX kS kI hbX hb9 s9
    generalize w9 = Y at *
    have ltS := kS9.lt
    have ltI := kI9.lt
    have ltP := hS9.lt
    cases fresh with
    | true =>
      have hlook := hF rfl k ((hD k).2 hk)
      (refine Ga ?_)
      refine W_draws (Grown _) rfl (by kernel_rfl) (grown_start _) ?_
      (refine Qb ?_)
      apply Qst_lookup
      focus rfl
      focus rfl
      focus exact fun A9 hA9 => lookMt ((Kept.of (E := E) (S := fun _ => False) hA9).map hM9 (fun h => h)) k _ hlook
      focus rfl
      (refine Qb ?_)
      intro w8 hb8
      (refine Ga ?_)
      apply retM1p
      focus rfl
      rw [hf]
      exact ⟨rfl, h9.below hb8, .of (hbw.trans (hb8.mono hbw.size))⟩
    | false =>
      (refine Ga ?_)
      (apply Lst_call; (focus rfl); (focus rfl))
      refine (c_All E.p Y _ rfl).mono ?_
      rintro v Z ⟨rfl, rfl⟩
      have hbZ : Below Y.heap.size Y (Y.alloc (.cells [.pointer (some ⟨E.p, 0, none⟩)].toArray 27)) := Bel
      have kB : Blk (Y.alloc (.cells [.pointer (some ⟨E.p, 0, none⟩)].toArray 27)) Y.heap.size [.pointer (some ⟨E.p, 0, none⟩)] 27 := (by (repeat (first | assumption | (apply Blk.below (hb := hb1); rotate_left; (focus ((try simp only [Sx.sizes]); omega)); rotate_right) | (apply Blk.below (hb := hb2); rotate_left; (focus ((try simp only [Sx.sizes]); omega)); rotate_right) | (apply Blk.below (hb := hb3); rotate_left; (focus ((try simp only [Sx.sizes]); omega)); rotate_right) | (apply Blk.below (hb := hb4); rotate_left; (focus ((try simp only [Sx.sizes]); omega)); rotate_right) | (apply Blk.below (hb := hb5); rotate_left; (focus ((try simp only [Sx.sizes]); omega)); rotate_right) | (apply Blk.below (hb := hb6); rotate_left; (focus ((try simp only [Sx.sizes]); omega)); rotate_right) | (apply Blk.below (hb := hb7); rotate_left; (focus ((try simp only [Sx.sizes]); omega)); rotate_right) | (apply Blk.below (hb := hb8); rotate_left; (focus ((try simp only [Sx.sizes]); omega)); rotate_right) | (apply Blk.below (hb := hb9); rotate_left; (focus ((try simp only [Sx.sizes]); omega)); rotate_right) | exact Blk.newE (by first | rfl | ((try simp only [Sx.sizes]); first | done | omega)) _ _ | exact Blk.put_same (by (try simp only [Sx.sizes]); first | done | omega) _ _ | (apply Blk.put_ne; (focus omega)) | apply Blk.alloc | apply Blk.drew)); done)
      (refine Ga ?_)
      have hZ := h9.below hbZ
      have hSZ := hS9.below hbZ ltP
      have kSZ := kS9.below hbZ ltS
      have kIZ := kI9.below hbZ ltI
      have hMZ := (Kept.of (E := E) (S := fun _ => False) hbZ).map hM9 (fun h => h)
      have hOZ := (Kept.of (E := E) (S := fun _ => False) hbZ).row hO9 (fun h => h)
      have hRZ := (Kept.of (E := E) (S := fun _ => False) hbZ).row hR9 (fun h => h)
      have hwZ := b9.trans (hbZ.mono b9.size)
      have hltm := hMZ.lt
      have hsZ := hbZ.size
      have ltB := kB.lt
      generalize Y.alloc (.cells [.pointer (some ⟨E.p, 0, none⟩)].toArray 27) = Z at *
      refine W_rangeA ord.length (encU ord ρ) KC rfl e_All rfl (fun _ => rfl) (g_All Y.heap.size kB hZ (fun j hj => (hN j hj).1) hlen) KC.trans (fun A l r r' hl h => KC.put A l r r' hl h)
        (Rng E ord w.heap.size k Z) (fun _ _ _ => False) (fun _ A A' h hc => h.calm hc hltm) (fun _ _ _ _ h _ => h) ⟨⟨m, hMZ, fun i _ hi => absurd hi (Nat.not_lt_zero _)⟩, .refl _ _ _, kSZ, kIZ⟩
        (fun q x => [(2, .pointer (some ⟨w.heap.size, 0, none⟩)), (5, .int .i64 (q : Int)), (6, .pointer (some ⟨x, 0, none⟩))]) (fun q x A => Rng E ord w.heap.size k Z q A ∧ Blk A x (ucs (ρ (ord.getD q (0, 0))).u) 34)
        (fun _ _ A A' h hc => ⟨h.1.calm hc hltm, hc.blk h.2⟩) ?_ ?_ ?_ ?_
      · intro l q A hq hR
        unfold encU
        (refine Ga ?_)
        have hbA : Below A.heap.size A ((A.alloc (.cells [.int .u64 0, .int .u64 0, .int .u64 0, .int .u64 0, .int .u64 0, .int .u64 0].toArray 34)).putObj A.heap.size (.cells (ucs (ρ (ord.getD q (0, 0))).u).toArray 34)) := Bel
        have kN : Blk ((A.alloc (.cells [.int .u64 0, .int .u64 0, .int .u64 0, .int .u64 0, .int .u64 0, .int .u64 0].toArray 34)).putObj A.heap.size (.cells (ucs (ρ (ord.getD q (0, 0))).u).toArray 34)) A.heap.size (ucs (ρ (ord.getD q (0, 0))).u) 34 := (by (repeat (first | assumption | (apply Blk.below (hb := hb1); rotate_left; (focus ((try simp only [Sx.sizes]); omega)); rotate_right) | (apply Blk.below (hb := hb2); rotate_left; (focus ((try simp only [Sx.sizes]); omega)); rotate_right) | (apply Blk.below (hb := hb3); rotate_left; (focus ((try simp only [Sx.sizes]); omega)); rotate_right) | (apply Blk.below (hb := hb4); rotate_left; (focus ((try simp only [Sx.sizes]); omega)); rotate_right) | (apply Blk.below (hb := hb5); rotate_left; (focus ((try simp only [Sx.sizes]); omega)); rotate_right) | (apply Blk.below (hb := hb6); rotate_left; (focus ((try simp only [Sx.sizes]); omega)); rotate_right) | (apply Blk.below (hb := hb7); rotate_left; (focus ((try simp only [Sx.sizes]); omega)); rotate_right) | (apply Blk.below (hb := hb8); rotate_left; (focus ((try simp only [Sx.sizes]); omega)); rotate_right) | (apply Blk.below (hb := hb9); rotate_left; (focus ((try simp only [Sx.sizes]); omega)); rotate_right) | exact Blk.newE (by first | rfl | ((try simp only [Sx.sizes]); first | done | omega)) _ _ | exact Blk.put_same (by (try simp only [Sx.sizes]); first | done | omega) _ _ | (apply Blk.put_ne; (focus omega)) | apply Blk.alloc | apply Blk.drew)); done)
        apply Lst_storeA (hb := Blk.newE rfl _ _) (vs := ucs (ρ (ord.getD q (0, 0))).u) (l' := ucs (ρ (ord.getD q (0, 0))).u)
        focus rfl
        focus rfl
        focus rfl
        focus rfl
        focus exact ucs_one _
        focus (unfold ucs; repeat constructor)
        apply Lst_nil
        exact ⟨rfl, A.heap.size, ⟨rfl, rfl, rfl, trivial⟩, ⟨hR.calm (Sx.Below.calm hbA (Nat.le_refl _)) hltm, kN⟩, KF.of hbA, KC.of hbA⟩
      · rintro l q x J A hq ⟨hR, kU⟩
        obtain ⟨⟨m1, hm1, hl1⟩, hk1, hb1, hi1⟩ := hR
        have hSA := hk1.blk hSZ (by rw [h.tp]; simp)
        have ltU := kU.lt
        have ltb := hb1.lt
        have ltp := hSA.lt
        have hid : (ρ (ord.getD q (0, 0))).u.id = ord[q] := by
          rw [List.getD_eq_getElem?_getD, List.getElem?_eq_getElem hq]
          exact (hN _ (List.getElem_mem hq)).2
        generalize (ρ (ord.getD q (0, 0))).u = u at *
        unfold ucs at kU
        (refine Ga ?_)
        refine W_draw 7 (Grown A) rfl (by kernel_rfl) (grown_start A) ?_
        (refine Qb ?_)
        intro w8 hb8
        have hm8 := (Kept.of (E := E) (S := fun _ => False) hb8).map hm1 (fun h => h)
        apply SxG.Lst_mapput (k := u.id) (ky := idv) (R := RI) (v := .int .i64 (q : Int)) q
        focus rfl
        focus rfl
        focus rfl
        focus rfl
        focus exact idKey
        focus exact hm8
        focus rfl
        intro w7 hm7 hc7 _
        (refine Ga ?_)
        have hmt8 : E.mt < Z.heap.size := hltm
        refine ⟨(KF.of hb8).trans (KF.map hc7 hmt8), (KC.of hb8).trans (KC.map hc7 (mp_cells hm8)), ⟨_, hm7, fun i hi hiq => ?_⟩, (hk1.trans (.of hb8)).trans (.ofChg hc7 (fun b hb => by rw [List.mem_singleton.1 hb]; exact h.tmt)), hc7.blk (hb1.below hb8 ltb) ?_, hc7.blk (hi1.below hb8 hi1.lt) ?_⟩
        · rw [SxG.look_put]
          by_cases e : ord[i] = u.id
          · rw [if_pos e]
            have : i = q := by
              have h1 := idxOf_at hnd hi
              have h2 := idxOf_at hnd hq
              rw [e, hid, h2] at h1
              exact h1.symm
            rw [this]
          · rw [if_neg e]
            exact hl1 i hi (by
              rcases Nat.lt_or_ge i q with h | h
              · exact h
              · exfalso
                obtain rfl : i = q := by omega
                exact e hid.symm)
        · simp only [List.mem_singleton]
          rintro e
          rw [e] at hb1
          have h1 := mp_cells hm1 _ (Blk.raw hb1)
          cases h1
        · simp only [List.mem_singleton]
          rintro e
          rw [e] at hi1
          have h1 := mp_cells hm1 _ (Blk.raw hi1)
          cases h1
      · intro d A hd hR hA
        obtain ⟨⟨m1, hm1, hl1⟩, hk1, hb1, hi1⟩ := hR
        have hSA := hk1.blk hSZ (by rw [h.tp]; simp)
        have ltb := hb1.lt
        have ltp := hSA.lt
        have lti := hi1.lt
        have hpd : E.p ≠ d := by omega
        have hbd : w.heap.size ≤ d := Nat.le_trans hwZ.size hd
        have hkw : Kept E SF w A := (Kept.of hwZ).trans (hk1.mono fun t ht => .inr ht)
        have hne1 : E.p ≠ w.heap.size := by omega
        have hne2 : E.p ≠ w.heap.size + 1 := by omega
        have hlook : SxG.look m1 k = some (ord.idxOf k) := by
          have hi : ord.idxOf k < ord.length := List.idxOf_lt_length_iff.2 ((hD k).2 hk)
          have := hl1 (ord.idxOf k) hi hi
          rwa [List.getElem_idxOf] at this
        have hall : ∀ j ∈ ord, SxG.look m1 j = some (ord.idxOf j) := fun j hj => by
          have hi : ord.idxOf j < ord.length := List.idxOf_lt_length_iff.2 hj
          have := hl1 (ord.idxOf j) hi hi
          rwa [List.getElem_idxOf] at this
        (refine Ga ?_)
        have hkp := hkw.trans (Kept.put (S := SF) E.p (.inl h.tp) (.cells [.map (some E.ma), so, sr, .map (some E.mt), .bool true].toArray 71))
        have hpm : E.mt ≠ E.p := fun e => by
          have := h.tmt
          rw [e, h.tp] at this
          cases this
        have hSV : Blk (A.putObj E.p (.cells [.map (some E.ma), so, sr, .map (some E.mt), .bool true].toArray 71)) E.p [.map (some E.ma), so, sr, .map (some E.mt), .bool true] 71 := Blk.put_same ltp _ _
        have hMV : SxG.MpAt idv (A.putObj E.p (.cells [.map (some E.ma), so, sr, .map (some E.mt), .bool true].toArray 71)) E.mt RI m1 := hm1.mono (World.putObj_heap_other hpm) (fun _ _ h => h)
        have hbV : Blk (A.putObj E.p (.cells [.map (some E.ma), so, sr, .map (some E.mt), .bool true].toArray 71)) w.heap.size [.pointer (some ⟨E.p, 0, none⟩)] 27 := Blk.put_ne (Ne.symm hne1) hb1
        have hiV : Blk (A.putObj E.p (.cells [.map (some E.ma), so, sr, .map (some E.mt), .bool true].toArray 71)) (w.heap.size + 1) (idcs k) 32 := Blk.put_ne (Ne.symm hne2) hi1
        have hAV : (A.putObj E.p (.cells [.map (some E.ma), so, sr, .map (some E.mt), .bool true].toArray 71)).heap[d]? = some (.deferred (some [])) := (World.putObj_heap_other (Ne.symm hpd)).trans hA
        generalize A.putObj E.p (.cells [.map (some E.ma), so, sr, .map (some E.mt), .bool true].toArray 71) = V at *
        have ltpV := hSV.lt
        have ltbV := hbV.lt
        have ltiV := hiV.lt
        have ltd := lt_of_some hAV
        refine W_draws (Grown _) rfl (by kernel_rfl) (grown_start _) ?_
        (refine Qb ?_)
        apply Qst_lookup
        focus rfl
        focus rfl
        focus exact fun A9 hA9 => lookMt ((Kept.of (E := E) (S := fun _ => False) hA9).map hMV (fun h => h)) k _ hlook
        focus rfl
        (refine Qb ?_)
        intro w8 hb8
        have hk8 := hkp.trans (.of hb8)
        have hA8 := (hb8.block d ltd).trans hAV
        have hS8 := hSV.below hb8 ltpV
        have hM8 := (Kept.of (E := E) (S := fun _ => False) hb8).map hMV (fun h => h)
        (refine Ga ?_)
        refine retM1 hA8 rfl ?_
        rw [hf]
        have hkf := hk8.putNew hbd (.deferred none)
        have hmd : E.mt ≠ d := by omega
        exact ⟨rfl, Kept.coreF h hkf hOw hRw (Blk.put_ne hpd hS8) (hM8.mono (World.putObj_heap_other hmd) (fun _ _ h => h)) (fun _ => hall), hkf⟩
      · intro d c q A _ _ _ h
        exact h.elim
  · have hf : findV ord D k = -1 := if_neg hk
    refine W_draws (Grown _) rfl (by kernel_rfl) (grown_start _) ?_
    (refine Qb ?_)
    apply Qst_lookup
    focus rfl
    focus rfl
    focus exact fun A9 hA9 => ((hX.below hA9).lookAll k).trans (by rw [if_neg hk])
    focus rfl
    (refine Qb ?_)
    intro w9 hb9
    have b9 := Sx.Below.after (w := w) Bel hb9
    have s9 := hb9.size
    try simp only [Sx.sizes] at s9
    (refine Ga ?_)
    apply retM1p
    focus rfl
    rw [hf]
    exact ⟨rfl, hX.below hb9, .of b9⟩
end Sq
end Go.Proofs.Ytmammcgdjjldbaa
