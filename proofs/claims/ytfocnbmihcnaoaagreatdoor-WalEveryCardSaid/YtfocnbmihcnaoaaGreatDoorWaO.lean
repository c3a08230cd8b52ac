/- Open. -/
import Derived.Test.YtfocnbmihcnaoaaGreatDoorWaJ
namespace Go.Proofs.YtfocnbmihcnaoaaGreatDoor
set_option maxRecDepth 100000
namespace Wa
open Go Go.RowKit Sx Wire Dk
/-- The greatest age of a log's files. -/
noncomputable def maxAge (m : List UInt8) : Nat → List (List UInt8) → Nat
  | a, [] => a
  | a, s :: r => maxAge m (if (ageP m (bs s)).isSome = true then max a ((ageP m (bs s)).getD 0) else a) r
noncomputable def Lg.begun (m : List UInt8) (seg : Int) (d : Dsk) : Lg := ⟨m, max seg 64, maxAge m 0 d.list, [], 0, 0, [], false⟩
theorem ageP_lt (m : List UInt8) (n : ByteArray) : (ageP m n).getD 0 < 2000000000 := by
  unfold ageP
  split
  · rename_i h
    obtain ⟨i, h1, h2⟩ := h.choose_spec
    exact h1
  · decide
theorem strs_keep {w w' : World} {v : Value} {ss : List (List UInt8)} {lb : Nat} {q : Option Addr} (h : Strs w v ss) (hc : Chg [lb] w w') (hq : w.cell? ⟨lb, 0, none⟩ = some (.pointer q)) : Strs w' v ss := by
  obtain ⟨b, cap, h1, h2, h3⟩ := h
  refine ⟨b, cap, h1, fun hz => Nat.lt_of_lt_of_le (h2 hz) hc.size, fun j hj => ?_⟩
  have hlt := h2 (by intro e; subst e; exact absurd hj (Nat.not_lt_zero _))
  have hnb : b ∉ [lb] := fun e => by
    have h0 := h3 0 (by omega)
    rw [List.mem_singleton.1 e, hq] at h0
    cases h0
  have e : w'.cell? ⟨b, j, none⟩ = w.cell? ⟨b, j, none⟩ := by simp only [World.cell?, hc.block b hlt hnb]
  rw [e]
  exact h3 j hj
theorem OwnBs.chg {B : Nat} {w w' : World} {v : Value} {L : List (List UInt8)} {bs : List Nat} (h : OwnBs B w v L) (hc : Chg bs w w') (hb : ∀ b ∈ bs, b < B) : OwnBs B w' v L := by
  obtain ⟨us, h1, h2⟩ := h
  have key : ∀ g o, B ≤ g → w.heap[g]? = some o → o.isCells = true → w'.heap[g]? = some o := fun g o hg ho _ => (hc.block g (Array.getElem?_eq_some_iff.1 ho).1 (fun e => by have := hb g e; omega)).trans ho
  exact ⟨us, own_keep h1 key, All2.mono (fun _ _ hh => own_keep hh key) h2⟩
section
attribute [local irreducible] RnS RnT
attribute [local irreducible] W Lst Qst Pu seqQ blkQ rndQ cutQ retQ Does Enters IntKind.wrap bits sb World.alloc World.putObj Blk
theorem c_Open (p mb N : Nat) (m : List UInt8) (seg : Int) (d : Dsk) (hdd : d.dead = false) (hc : d.cut < 9223372036854775808) (hnames : Names d) (hkn : ∀ s ∈ d.list, Kn (bs s)) (hm : 46 ∉ m) (hnm : m.length ≤ 100)
    (hN : N ≤ 1000) (hnN : ∀ i, N ≤ i → Sx.look d.es (nm m (maxAge m 0 d.list) i) = none) (hage : maxAge m 0 d.list < 1000000000) (hsz : ∀ n f, Sx.look d.es n = some f → f.b.length ≤ 1000000)
    (hcl : ∀ k L last, Found d m (maxAge m 0 d.list) k L last → (cleanM m (segs m (maxAge m 0 d.list) k) d last).1 = 0) (W0 w : World) (hE : Base W0 w) (hp : W0.heap.size ≤ p) (hmb : W0.heap.size ≤ mb) (hd : DkAt w p mb d) :
    Does Tryz.prog 9 #[.pointer (some ⟨p, 0, none⟩), .string (bs m), .int .i64 seg] w fun v w' => ∃ (k : Nat) (L : List (List UInt8)) (last lb : Nat) (fv ov : Value), v = .tuple #[.pointer (some ⟨lb, 0, none⟩), ov, .int .i64 0] ∧ Found d m (maxAge m 0 d.list) k L last ∧ k ≤ N ∧
      LgAt w' lb p fv (.slice none 0 0) { Lg.begun m seg d with files := segs m (maxAge m 0 d.list) k, size := last, recs := L.length } ∧ DkAt w' p mb (cleanM m (segs m (maxAge m 0 d.list) k) d last).2 ∧ OwnBs w.heap.size w' ov L ∧ Chg [p, mb] w w' ∧ w.heap.size ≤ lb ∧ (∀ j, fv.ownBlock = some j → w.heap.size ≤ j) := by
  refine Does_of (args := [.pointer (some ⟨p, 0, none⟩), .string (bs m), .int .i64 seg]) Tryz.func9 (by kernel_rfl) rfl rfl rfl rfl rfl ?_
  (refine Ga ?_)
  (apply Lst_call; (focus rfl); (focus rfl))
  refine (c_Dead p mb d _ hd).mono ?_
  rintro v w' ⟨rfl, rfl⟩
  rw [hdd]
  (refine Ga ?_)
  obtain ⟨lb, hlb⟩ : ∃ n, w.heap.size = n := ⟨_, rfl⟩
  have hpl : p < w.heap.size := hd.1.lt
  have hml : mb < w.heap.size := hd.2.lt
  have hW0 := hE.low.size
  refine Lst_abs (fun A => LgAt A lb p (.slice none 0 0) (.slice none 0 0) ⟨m, max seg 64, 0, [], 0, 0, [], false⟩ ∧ Below w.heap.size w A) ⟨⟨?_, NmO.nil _, NmO.nil _, fun j hj => by cases hj⟩, Bel⟩ ?_
  · rw [← hlb]
    exact Blk.newE rfl _ _
  rw [hlb]
  rintro w1 ⟨hL1, hb1⟩
  have hD1 := hd.below (hlb ▸ hb1)
  have hE1 := hE.below (hlb ▸ hb1)
  (refine Ga ?_)
  (apply Lst_call; (focus rfl); (focus rfl))
  refine (c_List p mb d hnames w1 hD1).mono ?_
  rintro v w2 ⟨hss, hb2⟩
  obtain ⟨sa, sc, rfl⟩ := hss.form
  have hL2 := hL1.below hb2
  have hlen : d.list.length ≤ 1000000 := by
    unfold Dsk.list
    split
    · exact Nat.zero_le _
    · rw [keysS_len]
      exact hnames.2
  have hbw : Below w.heap.size w w2 := (hlb ▸ hb1).trans (hb2.mono (by have := hb1.size; omega))
  have hcw : Chg [lb] w w2 := .of hbw
  unfold Lg.begun
  generalize hA0 : maxAge m 0 d.list = A0 at *
  generalize hss0 : d.list = ss at *
  (refine Ga ?_)
  refine Tl.W_cutB (α := Unit) (fun _ => [(9, .pointer (some ⟨lb, 0, none⟩))])
    (fun _ A => LgAt A lb p (.slice none 0 0) (.slice none 0 0) ⟨m, max seg 64, A0, [], 0, 0, [], false⟩ ∧ Chg [lb] w A) ?_ ?_
  · refine W_loop (α := Nat × Nat) (fun x => [(1, .string (bs m)), (9, .pointer (some ⟨lb, 0, none⟩)), (26, .slice sa ss.length sc), (27, .int .i64 (ss.length : Int)), (28, .int .i64 (x.1 : Int))])
      (fun x A => x.1 ≤ ss.length ∧ x.2 < 2000000000 ∧ LgAt A lb p (.slice none 0 0) (.slice none 0 0) ⟨m, max seg 64, x.2, [], 0, 0, [], false⟩ ∧ Strs A (.slice sa ss.length sc) ss ∧ maxAge m x.2 (ss.drop x.1) = A0 ∧ Chg [lb] w A) (fun x _ => ss.length - x.1) (0, 0) ⟨Nat.zero_le _, by decide, hL2, hss, hA0, hcw⟩ ⟨rfl, rfl, rfl, rfl, rfl, trivial⟩ ?_
    clear hL2 hss hcw hbw hb2 w2
    rintro J ⟨i, a⟩ A ⟨hi, ha, hL, hS, hM, hch⟩
    dsimp only at hi ha hL hS hM ⊢
    have hbA : Below w.heap.size w A := hch.below (by simp; omega) (Nat.le_refl _)
    have hEA := hE.below hbA
    have hB := hL.blk
    unfold lcs at hB
    dsimp only at hB
    have hlt := hB.lt
    by_cases hil : i < ss.length
    · obtain ⟨sb, rfl, hx⟩ := hS.at hil
      have hdr : ss.drop i = ss[i] :: ss.drop (i + 1) := List.drop_eq_getElem_cons hil
      have hK := hkn ss[i] (List.getElem_mem hil)
      have hx' : A.cell? ⟨sb, 0 + i, none⟩ = some (.string (bs ss[i])) := by rw [Nat.zero_add]; exact hx
      generalize ss[i] = s at *
      (refine Ga ?_)
      (apply Lst_call; (focus rfl); (focus rfl))
      refine (c_ageK m (bs s) hK hm A hEA.now).mono ?_
      rintro v w3 ⟨rfl, hb3⟩
      have hL3 := hL.below hb3
      have hS3 := hS.below hb3
      have hc3 := hch.trans (.of hb3)
      have hB3 := hL3.blk
      unfold lcs at hB3
      dsimp only at hB3
      have hlt3 := hB3.lt
      have hgl := ageP_lt m (bs s)
      cases hA : (ageP m (bs s)).isSome with
      | true =>
        have hM2 : maxAge m (max a ((ageP m (bs s)).getD 0)) (ss.drop (i + 1)) = A0 := by
          rw [← hM, hdr]
          conv => rhs; unfold maxAge
          rw [if_pos hA]
        generalize (ageP m (bs s)).getD 0 = q at *
        have hmx : max (a : Int) (q : Int) = ((max a q : Nat) : Int) := by omega
        have hput := hL3.put (g' := ⟨m, max seg 64, max a q, [], 0, 0, [], false⟩) rfl rfl
        have hcp := hc3.put (b := lb) (.inl (by simp)) (.cells (lcs p (.slice none 0 0) (.slice none 0 0) ⟨m, max seg 64, max a q, [], 0, 0, [], false⟩).toArray 53)
        have hSp := strs_keep hS3 (chg1 (w := w3) (lb := lb) (.cells (lcs p (.slice none 0 0) (.slice none 0 0) ⟨m, max seg 64, max a q, [], 0, 0, [], false⟩).toArray 53)) (hL3.blk.cell 0)
        (refine Ga ?_)
        rw [hmx]
        refine rndQ_n (α := Nat × Nat) (i + 1, max a q) ⟨hil, by dsimp only; omega, hput, hSp, hM2, hcp⟩ ⟨rfl, rfl, rfl, rfl, ?_, trivial⟩ (by dsimp only; omega)
        exact congrArg (Value.int .i64) (by dsimp only; omega)
      | false =>
        have hM2 : maxAge m a (ss.drop (i + 1)) = A0 := by
          rw [← hM, hdr]
          conv => rhs; unfold maxAge
          rw [if_neg (by rw [hA]; decide)]
        (refine Ga ?_)
        refine rndQ_n (α := Nat × Nat) (i + 1, a) ⟨hil, ha, hL3, hS3, hM2, hc3⟩ ⟨rfl, rfl, rfl, rfl, ?_, trivial⟩ (by dsimp only; omega)
        exact congrArg (Value.int .i64) (by dsimp only; omega)
    · (refine Ga ?_)
      have e : a = A0 := by
        rw [← hM, List.drop_of_length_le (by omega)]
        rfl
      rw [e] at hL
      exact cutQ_n (α := Unit) () ⟨hL, hch⟩ ⟨rfl, trivial⟩
  · rintro J _ A ⟨hL, hch⟩
    (refine Ga ?_)
    obtain ⟨ob, hob⟩ : ∃ n, A.heap.size = n := ⟨_, rfl⟩
    rw [hob]
    have hbA : Below w.heap.size w A := hch.below (by simp; omega) (Nat.le_refl _)
    have sA := hbA.size
    have hlA := hL.blk.lt
    refine Lst_abs (fun B => Blk B ob [.slice none 0 0] 28 ∧ Below A.heap.size A B) ⟨Blk.newE hob _ _, Bel⟩ ?_
    rintro w5 ⟨hO5, hb5⟩
    have hL5 := hL.below hb5
    have hb5w : Below w.heap.size w w5 := hbA.trans (hb5.mono sA)
    have hD5 := hd.below hb5w
    have hE5 := hE.below hb5w
    have s5 := hb5.size
    (apply Lst_call; (focus rfl); (focus rfl))
    refine (c_find lb p mb ob N _ _ d hN hnN hdd hsz hnm hage rfl W0 w5 hE5 (by omega) (by omega) hL5 hD5 hO5).mono ?_
    rintro v w6 ⟨k, L, last, fv, ov, rfl, hF, hkN, hL6, hO6, hOB6, hc6, hfv6⟩
    have hb6 : Below w.heap.size w w6 := hb5w.trans (hc6.below (by simp; omega) (by omega))
    have hD6 := hd.below hb6
    have hE6 := hE.below hb6
    have hz := hcl k L last hF
    (refine Ga ?_)
    (apply Lst_call; (focus rfl); (focus rfl))
    refine (c_clean lb p mb last fv _ _ d hc hnames (hss0 ▸ hkn) hm hnm (by show (segs m A0 k).length ≤ 1000000; rw [segs_len]; omega) W0 w6 hE6 (by omega) hp hmb hL6 hD6).mono ?_
    rintro v w7 ⟨hv7, ⟨g7, hL7, hg7⟩, hD7, hc7⟩
    have hv7' : v = .int .i64 0 := by
      rw [hv7]
      exact congrArg (Value.int .i64) hz
    subst hv7'
    have eg := hg7 hz
    subst eg
    have hO7 := hc7.blk hO6 (by simp; omega)
    have hOB7 := hOB6.chg hc7 (by simp; omega)
    obtain ⟨va, vc, rfl, _⟩ := hOB7.form
    obtain ⟨fa, fc, rfl, _⟩ := hL7.files.form
    have hB7 := hL7.blk
    unfold lcs at hB7
    dsimp only at hB7
    have hlt7 := hB7.lt
    have hlo7 := hO7.lt
    have hne7 : ob ≠ lb := by omega
    have hL8 := hL7.put (g' := ⟨m, max seg 64, A0, segs m A0 k, last, L.length, [], false⟩) rfl rfl
    have hD8 := dk_log hD7 hL7 ((chg1 (w := w7) (lb := lb) (.cells (lcs p (.slice fa (segs m A0 k).length fc) (.slice none 0 0) ⟨m, max seg 64, A0, segs m A0 k, last, L.length, [], false⟩).toArray 53)).mono (by simp))
    have hO8 : Blk (w7.putObj lb (.cells (lcs p (.slice fa (segs m A0 k).length fc) (.slice none 0 0) ⟨m, max seg 64, A0, segs m A0 k, last, L.length, [], false⟩).toArray 53)) ob [.slice va L.length vc] 28 := Blk.put_ne hne7 hO7
    have hOB8 := hOB7.put (b := lb) (by omega) (.cells (lcs p (.slice fa (segs m A0 k).length fc) (.slice none 0 0) ⟨m, max seg 64, A0, segs m A0 k, last, L.length, [], false⟩).toArray 53)
    have hc8 : Chg [p, mb] w (w7.putObj lb (.cells (lcs p (.slice fa (segs m A0 k).length fc) (.slice none 0 0) ⟨m, max seg 64, A0, segs m A0 k, last, L.length, [], false⟩).toArray 53)) := (Chg.trans' (bs := [p, mb]) (.of hb6) hc7 (fun c hc => by
      simp only [List.mem_cons, List.not_mem_nil, or_false] at hc ⊢
      omega)).put (.inr (by omega)) _
    (refine Ga ?_)
    refine W_abs (fun B => LgAt B lb p (.slice fa (segs m A0 k).length fc) (.slice none 0 0) ⟨m, max seg 64, A0, segs m A0 k, last, L.length, [], false⟩ ∧ DkAt B p mb (cleanM m (segs m A0 k) d last).2 ∧ Blk B ob [.slice va L.length vc] 28 ∧ OwnBs w5.heap.size B (.slice va L.length vc) L ∧ Chg [p, mb] w B) ⟨hL8, hD8, hO8, hOB8, hc8⟩ ?_
    clear hL8 hD8 hO8 hOB8 hc8
    rintro w8 ⟨hL8, hD8, hO8, hOB8, hc8⟩
    have hlo8 := hO8.lt
    refine W_draws (Dk.Grown w8) rfl (by kernel_rfl) (Dk.grown_start w8) ?_
    (refine Qb ?_)
    intro w9 hb9
    (refine Ga ?_)
    apply retQ3
    focus rfl
    focus rfl
    focus rfl
    exact ⟨k, L, last, lb, _, _, rfl, hF, hkN, hL8.below hb9, hD8.below hb9, OwnBs.low (OwnBs.below hOB8 hb9 (Nat.le_refl _)) (by omega), hc8.trans (.of hb9), by omega, fun j hj => by have := hfv6 j hj; omega⟩
end
end Wa
end Go.Proofs.YtfocnbmihcnaoaaGreatDoor
