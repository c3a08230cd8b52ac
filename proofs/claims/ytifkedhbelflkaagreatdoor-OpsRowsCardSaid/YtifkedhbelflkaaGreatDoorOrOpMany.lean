/- OpsRows' walk. -/
import Derived.Test.YtifkedhbelflkaaGreatDoorOrOpO
import Derived.Test.YtifkedhbelflkaaGreatDoorOrPlace
namespace Go.Proofs.YtifkedhbelflkaaGreatDoor
set_option maxRecDepth 100000
namespace Op
open Go Go.RowKit Sx Tl Val
open Utf (rs tl Tabs cutS)
def abc : ByteArray := ⟨#[97, 98, 99, 100, 101, 102, 103, 104, 105, 106, 107, 108, 109, 110, 111, 112, 113, 114, 115, 116, 117, 118, 119, 120, 121, 122]⟩
theorem abc_asc : ∀ b ∈ tl abc, b.toNat < 128 := fun b hb => by
  have h : (tl abc).all (fun x => decide (x.toNat < 128)) = true := by decide
  exact of_decide_eq_true (List.all_eq_true.1 h b hb)
theorem tl_ext (T : ByteArray) (k : Nat) : tl (T.extract 0 k) = (tl T).take k := by
  show (T.extract 0 k).data.toList = _
  rw [ByteArray.data_extract, Array.toList_extract]
  show ((tl T).drop 0).take (k - 0) = _
  rw [List.drop_zero, Nat.sub_zero]
/-- A part of a text of small letters may be a piece. -/
theorem asc_tx {T : ByteArray} {k : Nat} (h : ∀ b ∈ tl T, b.toNat < 128) (hk : k ≤ T.size) (h1 : 1 ≤ k) (h2 : k ≤ 4096) : Tx (T.extract 0 k) ∧ rn (T.extract 0 k) = k := by
  have ha := asc_rs ((tl T).take k) fun b hb => h b (List.mem_of_mem_take hb)
  have hl : (tl T).length = T.size := Array.length_toList
  have e : rn (T.extract 0 k) = k := by
    unfold rn
    rw [tl_ext, ha.2, List.length_take, hl]
    omega
  exact ⟨⟨by rw [tl_ext]; exact ha.1, by omega, by omega⟩, e⟩
theorem SRows.cuthi {w : World} {sz c n : Nat} {a : Option Addr} {ls : List (List Value)} (h : SRows w sz (.slice a ls.length c) ls) (hn : n ≤ ls.length) : SRows w sz (sliced a 0 n c sz) (ls.take n) := by
  obtain ⟨b, off, cap, hf, hr⟩ := h
  have hl : (ls.take n).length = n := by rw [List.length_take]; omega
  rcases hf with hf | ⟨hf, rfl⟩
  · cases hf
    refine ⟨b, off, c - 0, .inl ?_, fun i hi => ?_⟩
    · unfold sliced
      rw [hl]
      split <;> simp [add_none]
    · rw [hl] at hi
      obtain ⟨h1, h2⟩ := hr i (by omega)
      refine ⟨h1, fun j u hu => h2 j u ?_⟩
      rwa [List.getElem_take] at hu
  · cases hf
    obtain rfl : n = 0 := by simpa using hn
    exact ⟨0, 0, 0, .inr ⟨by unfold sliced; simp, rfl⟩, fun i hi => absurd hi (Nat.not_lt_zero _)⟩
theorem SRows.cutlo {w : World} {sz c n : Nat} {a : Option Addr} {ls : List (List Value)} (h : SRows w sz (.slice a ls.length c) ls) (hc : ls.length ≤ c) (hn : n ≤ ls.length) : SRows w sz (sliced a n ls.length c sz) (ls.drop n) := by
  obtain ⟨b, off, cap, hf, hr⟩ := h
  have hl : (ls.drop n).length = ls.length - n := List.length_drop
  rcases hf with hf | ⟨hf, hnil⟩
  · cases hf
    by_cases hcn : c = n
    · have hz : ls.drop n = [] := List.eq_nil_of_length_eq_zero (by omega)
      refine ⟨b, off, c - n, .inl ?_, fun i hi => by rw [hz] at hi; exact absurd hi (Nat.not_lt_zero _)⟩
      unfold sliced
      rw [hl, if_pos hcn]
    · refine ⟨b, off + n * sz, c - n, .inl ?_, fun i hi => ?_⟩
      · unfold sliced
        rw [hl, if_neg hcn]
        simp [add_none]
      · rw [hl] at hi
        obtain ⟨h1, h2⟩ := hr (n + i) (by omega)
        refine ⟨h1, fun j u hu => ?_⟩
        rw [List.getElem_drop] at hu
        have := h2 j u hu
        rwa [show off + (n + i) * sz + j = off + n * sz + i * sz + j by rw [Nat.add_mul]; omega] at this
  · subst hnil
    cases hf
    obtain rfl : n = 0 := by simpa using hn
    exact ⟨0, 0, 0, .inr ⟨by unfold sliced; simp, rfl⟩, fun i hi => absurd hi (Nat.not_lt_zero _)⟩
theorem seg_rep (i : Nat) (t : ByteArray) : seg 0 (List.replicate (i + 1) t) = seg 0 (List.replicate i t) ++ [pc (i * rn t) t] := by
  rw [List.replicate_succ', seg_append, tot_rep, Nat.zero_add]
  rfl
theorem seg_take (p : Nat) (ts : List ByteArray) (k : Nat) (h : k ≤ ts.length) : (seg p ts).take k = seg p (ts.take k) := by
  conv => lhs; rw [← List.take_append_drop k ts, seg_append]
  exact List.take_left' (by rw [seg_len, List.length_take]; omega)
theorem seg_drop (p : Nat) (ts : List ByteArray) (k : Nat) (h : k ≤ ts.length) : (seg p ts).drop k = seg (p + tot (ts.take k)) (ts.drop k) := by
  conv => lhs; rw [← List.take_append_drop k ts, seg_append]
  exact List.drop_left' (by rw [seg_len, List.length_take]; omega)
theorem tot_append (ts us : List ByteArray) : tot (ts ++ us) = tot ts + tot us := by unfold tot; rw [List.map_append, List.sum_append]
theorem seg_zero_append {p : Nat} {ts us : List ByteArray} (h : tot ts = p) : seg 0 (ts ++ us) = seg 0 ts ++ seg p us := by rw [seg_append, Nat.zero_add, h]
/-- Halves, put together as the whole. -/
theorem halves {L : List ByteArray} (hts : ∀ t ∈ L, Tx t) (hq : tot L ≤ 20000) (k : Nat) :
    (∀ t ∈ cuts (tot (L.take k)) (runesT (L.take k)) ++ cuts (tot (L.drop k)) (runesT (L.drop k)), Tx t) ∧ tot (cuts (tot (L.take k)) (runesT (L.take k))) = tot (L.take k) ∧ tot (L.take k) + tot (L.drop k) = tot L ∧ runesT (cuts (tot (L.take k)) (runesT (L.take k)) ++ cuts (tot (L.drop k)) (runesT (L.drop k))) = runesT L ∧ tot (cuts (tot (L.take k)) (runesT (L.take k)) ++ cuts (tot (L.drop k)) (runesT (L.drop k))) = tot L ∧ (cuts (tot (L.take k)) (runesT (L.take k)) ++ cuts (tot (L.drop k)) (runesT (L.drop k))).length < 20 := by
  have h1 : ∀ t ∈ L.take k, Tx t := fun t ht => hts t (List.mem_of_mem_take ht)
  have h2 : ∀ t ∈ L.drop k, Tx t := fun t ht => hts t (List.mem_of_mem_drop ht)
  have hg : ∀ {l : List ByteArray}, (∀ t ∈ l, Tx t) → ∀ x ∈ runesT l, Utf.good x := fun hl x hx => by
    rw [← (catB_rs hl).2] at hx
    exact Utf.rs_good _ x hx
  have hr1 := cuts_runes (tot (L.take k)) (runesT (L.take k)) (by rw [tot_len]; exact Nat.le_refl _) (hg h1)
  have hr2 := cuts_runes (tot (L.drop k)) (runesT (L.drop k)) (by rw [tot_len]; exact Nat.le_refl _) (hg h2)
  have ht1 : tot (cuts (tot (L.take k)) (runesT (L.take k))) = tot (L.take k) := by rw [← tot_len, hr1, tot_len]
  have ht2 : tot (cuts (tot (L.drop k)) (runesT (L.drop k))) = tot (L.drop k) := by rw [← tot_len, hr2, tot_len]
  have hsum : tot (L.take k) + tot (L.drop k) = tot L := by rw [← tot_append, List.take_append_drop]
  refine ⟨fun t ht => ?_, ht1, hsum, ?_, ?_, ?_⟩
  · rcases List.mem_append.1 ht with h | h
    · exact cuts_tx _ _ (hg h1) t h
    · exact cuts_tx _ _ (hg h2) t h
  · rw [runesT_append, hr1, hr2, ← runesT_append, List.take_append_drop]
  · rw [tot_append, ht1, ht2, hsum]
  · rw [List.length_append, cuts_len _ _ (by rw [tot_len]; exact Nat.le_refl _), cuts_len _ _ (by rw [tot_len]; exact Nat.le_refl _), tot_len, tot_len]
    omega
theorem rep_tx {n : Nat} {t : ByteArray} (h : Tx t) : ∀ x ∈ List.replicate n t, Tx x := fun x hx => by rw [(List.mem_replicate.1 hx).2]; exact h
section
attribute [local irreducible] RnS
attribute [local irreducible] W Lst Qst Pu seqQ blkQ rndQ cutQ retQ Does Enters IntKind.wrap bits sb World.alloc World.putObj Blk
set_option maxHeartbeats 8000000 in
theorem law_OpsRows (n0 m0 : Int) (more : Bool) (w : World) (hT : Tabs w) : Does Tryz.prog 4 #[.int .i64 n0, .int .i64 m0, .bool more] w fun v w' => v = .bool true ∧ Below w.heap.size w w' := by
  refine Does_of (args := [.int .i64 n0, .int .i64 m0, .bool more]) Tryz.func4 (by kernel_rfl) rfl rfl rfl rfl rfl ?_
  (refine Ga ?_)
  (apply Lst_call; (focus rfl); (focus rfl))
  refine (c_known8 w hT).mono ?_
  rintro v B ⟨rfl, bB⟩
  have sB := bB.size
  (refine Ga ?_)
  (apply Lst_call; (focus rfl); (focus rfl))
  refine (Wire.h_Place n0 9 B (by omega) (by omega)).mono ?_
  rintro v _ ⟨rfl, rfl⟩
  obtain ⟨N, hN⟩ : ∃ k : Nat, n0 % 9 = (k : Int) := ⟨(n0 % 9).toNat, by omega⟩
  rw [hN]
  have hN9 : N < 9 := by omega
  (refine Ga ?_)
  (apply Lst_call; (focus rfl); (focus rfl))
  refine (Wire.h_Place m0 1200 B (by omega) (by omega)).mono ?_
  rintro v _ ⟨rfl, rfl⟩
  obtain ⟨M, hM⟩ : ∃ k : Nat, 900 + m0 % 1200 = (k : Int) := ⟨(900 + m0 % 1200).toNat, by omega⟩
  have hM1 : m0 % 1200 = (M : Int) - 900 := by omega
  rw [hM1]
  have hM9 : 900 ≤ M ∧ M < 2100 := by omega
  (refine Ga ?_)
  have h0a : ∀ b ∈ tl (⟨#[]⟩ : ByteArray), b.toNat < 128 := fun b hb => by cases hb
  have h0s : (⟨#[]⟩ : ByteArray).size ≤ 3000 := by decide
  refine W_loop (α := ByteArray) (fun T => [(0, .int .i64 ((N + 1 : Nat) : Int)), (1, .int .i64 (M : Int)), (2, .bool more), (7, .string T)]) (fun T A => A = B ∧ (∀ b ∈ tl T, b.toNat < 128) ∧ T.size ≤ 3000) (fun T _ => M - T.size) ⟨#[]⟩ ⟨rfl, h0a, h0s⟩ ⟨?_, ?_, rfl, rfl, trivial⟩ ?_
  · exact congrArg (Value.int .i64) (by omega)
  · exact congrArg (Value.int .i64) (by omega)
  rintro J T A ⟨rfl, hasc, hTs⟩
  by_cases hTM : T.size < M
  · have h26 : T.size + (⟨#[97, 98, 99, 100, 101, 102, 103, 104, 105, 106, 107, 108, 109, 110, 111, 112, 113, 114, 115, 116, 117, 118, 119, 120, 121, 122]⟩ : ByteArray).size ≤ 9223372036854775807 := by show T.size + 26 ≤ _; omega
    (refine Ga ?_)
    have h1a : ∀ b ∈ tl (T ++ abc), b.toNat < 128 := fun b hb => by
      rw [tl_app] at hb
      rcases List.mem_append.1 hb with hb | hb
      · exact hasc b hb
      · exact abc_asc b hb
    have h1s : (T ++ abc).size = T.size + 26 := by rw [ByteArray.size_append]; rfl
    exact rndQ_n (α := ByteArray) (T ++ abc) ⟨rfl, h1a, by rw [h1s]; omega⟩ ⟨rfl, rfl, rfl, rfl, trivial⟩ (by rw [h1s]; omega)
  obtain ⟨htx, hrn⟩ := asc_tx (k := M) hasc (by omega) (by omega) (by omega)
  obtain ⟨t, ht⟩ : ∃ t, T.extract 0 M = t := ⟨_, rfl⟩
  rw [ht] at htx hrn
  (refine Ga ?_)
  refine Tl.W_cutB (α := World × Value) (fun x => [(0, .int .i64 ((N + 1 : Nat) : Int)), (1, .int .i64 (M : Int)), (2, .bool more), (8, x.2)]) (fun x C => C = x.1 ∧ OwnO w.heap.size C x.2 (seg 0 (List.replicate (N + 1) t)) ∧ Below w.heap.size w C) ?_ ?_
  · refine W_loop (α := Nat × Value) (fun x => [(0, .int .i64 ((N + 1 : Nat) : Int)), (1, .int .i64 (M : Int)), (2, .bool more), (7, .string T), (8, x.2), (9, .int .u64 ((1 + x.1 * M : Nat) : Int)), (10, .int .i64 (x.1 : Int))]) (fun x C => x.1 ≤ N + 1 ∧ OwnO w.heap.size C x.2 (seg 0 (List.replicate x.1 t)) ∧ Below w.heap.size w C) (fun x _ => N + 1 - x.1) (0, .slice none 0 0) ⟨Nat.zero_le _, OwnO.nil _ _, bB⟩ ⟨rfl, rfl, rfl, rfl, rfl, ?_, rfl, trivial⟩ ?_
    · exact congrArg (Value.int .u64) (by dsimp only; omega)
    rintro J ⟨i, lv⟩ C ⟨hi, hoC, bC⟩
    dsimp only at hi hoC bC ⊢
    have sC := bC.size
    obtain ⟨l1, l2, l3, rfl⟩ := own_slice hoC
    by_cases hil : i < N + 1
    · have hsr := seg_rep i t
      rw [hrn] at hsr
      have hiM : i * M ≤ 8 * 2100 := Nat.mul_le_mul (by omega) (by omega)
      generalize hP : i * M = P at *
      (refine Ga ?_)
      refine Lst_abs (fun D => Below C.heap.size C D ∧ Blk D C.heap.size (ocs (tc (7, 1 + P) none' none' t)) 31) ⟨Bel, ?_⟩ ?_
      · rw [← ht]
        unfold ocs tc none'
        exact (by (repeat (first | assumption | (apply Blk.below (hb := hb1); rotate_left; (focus ((try simp only [Sx.sizes]); omega)); rotate_right) | (apply Blk.below (hb := hb2); rotate_left; (focus ((try simp only [Sx.sizes]); omega)); rotate_right) | (apply Blk.below (hb := hb3); rotate_left; (focus ((try simp only [Sx.sizes]); omega)); rotate_right) | (apply Blk.below (hb := hb4); rotate_left; (focus ((try simp only [Sx.sizes]); omega)); rotate_right) | (apply Blk.below (hb := hb5); rotate_left; (focus ((try simp only [Sx.sizes]); omega)); rotate_right) | (apply Blk.below (hb := hb6); rotate_left; (focus ((try simp only [Sx.sizes]); omega)); rotate_right) | (apply Blk.below (hb := hb7); rotate_left; (focus ((try simp only [Sx.sizes]); omega)); rotate_right) | (apply Blk.below (hb := hb8); rotate_left; (focus ((try simp only [Sx.sizes]); omega)); rotate_right) | (apply Blk.below (hb := hb9); rotate_left; (focus ((try simp only [Sx.sizes]); omega)); rotate_right) | exact Blk.newE (by first | rfl | ((try simp only [Sx.sizes]); first | done | omega)) _ _ | exact Blk.put_same (by (try simp only [Sx.sizes]); first | done | omega) _ _ | (apply Blk.put_ne; (focus omega)) | apply Blk.alloc | apply Blk.drew)); done)
      rintro D ⟨hD, k0⟩
      have l0 := k0.lt
      have bD := bC.trans (hD.mono sC)
      have hoD : OwnO w.heap.size D (.slice l1 l2 l3) (seg 0 (List.replicate i t)) := own_below hoC hD (Nat.le_refl _)
      have hpos : i = 0 ∨ 0 < i := Nat.eq_zero_or_pos i
      have hP0 : 0 < i → 0 < P := fun h => by rw [← hP]; exact Nat.mul_pos h (by omega)
      have key : ∀ E, Below D.heap.size D E → True := fun _ _ => trivial
      unfold ocs tc none' at k0
      dsimp only at k0
      rcases hpos with hi0 | hpos
      · have hPz : P = 0 := by rw [← hP, hi0, Nat.zero_mul]
        have hi0' : ¬ (i : Int) > 0 := by omega
        (refine Ga ?_)
        (apply Lst_slit; (focus rfl); (focus rfl); (focus rfl); (focus rfl); (focus rfl); (focus rfl); (focus rfl); (focus rfl); (focus rfl); (focus (repeat (first | apply FillO.nil | (apply FillO.cons; (focus constructor); (focus rfl); (focus rfl); (focus (repeat constructor)))))); (focus ((try simp only [Sx.sizes]); first | done | rfl)); (focus rfl))
        refine Lst_abs (fun Y => Below D.heap.size D Y ∧ Blk Y D.heap.size (ocs (pc P t)) 31) ⟨Bel, ?_⟩ ?_
        · unfold pc tc
          rw [if_pos hPz]
          unfold ocs
          dsimp only
          exact (by (repeat (first | assumption | (apply Blk.below (hb := hb1); rotate_left; (focus ((try simp only [Sx.sizes]); omega)); rotate_right) | (apply Blk.below (hb := hb2); rotate_left; (focus ((try simp only [Sx.sizes]); omega)); rotate_right) | (apply Blk.below (hb := hb3); rotate_left; (focus ((try simp only [Sx.sizes]); omega)); rotate_right) | (apply Blk.below (hb := hb4); rotate_left; (focus ((try simp only [Sx.sizes]); omega)); rotate_right) | (apply Blk.below (hb := hb5); rotate_left; (focus ((try simp only [Sx.sizes]); omega)); rotate_right) | (apply Blk.below (hb := hb6); rotate_left; (focus ((try simp only [Sx.sizes]); omega)); rotate_right) | (apply Blk.below (hb := hb7); rotate_left; (focus ((try simp only [Sx.sizes]); omega)); rotate_right) | (apply Blk.below (hb := hb8); rotate_left; (focus ((try simp only [Sx.sizes]); omega)); rotate_right) | (apply Blk.below (hb := hb9); rotate_left; (focus ((try simp only [Sx.sizes]); omega)); rotate_right) | exact Blk.newE (by first | rfl | ((try simp only [Sx.sizes]); first | done | omega)) _ _ | exact Blk.put_same (by (try simp only [Sx.sizes]); first | done | omega) _ _ | (apply Blk.put_ne; (focus omega)) | apply Blk.alloc | apply Blk.drew)); done)
        rintro Y ⟨hY, kY⟩
        apply Lst_appendO (hown := own_below hoD hY (Nat.le_refl _)) (hy := one_row kY)
        focus (simp only [List.length_singleton, seg_len, List.length_replicate]; omega)
        focus exact Nat.le_trans bD.size hY.size
        focus rfl
        focus rfl
        focus rfl
        intro v' U hoU hU
        obtain ⟨x1, x2, x3, rfl⟩ := own_slice hoU
        have bU := (bD.trans (hY.mono bD.size)).trans hU
        (refine Ga ?_)
        refine rndQ_n (α := Nat × Value) (i + 1, .slice x1 x2 x3) ⟨hil, by dsimp only; rw [hsr]; exact hoU, bU⟩ ⟨rfl, rfl, rfl, rfl, rfl, ?_, ?_, trivial⟩ (by dsimp only; omega)
        · exact congrArg (Value.int .u64) (by dsimp only; have h9 : (i + 1) * M = i * M + M := Nat.succ_mul i M; rw [h9, hP]; omega)
        · exact congrArg (Value.int .i64) (by dsimp only; omega)
      · have hPp := hP0 hpos
        have hcast : ((1 + P : Nat) : Int) - 1 = (P : Int) := by omega
        have hi1 : (i : Int) > 0 := by omega
        (refine Ga ?_)
        refine Lst_abs (fun X => Below C.heap.size C X ∧ Blk X C.heap.size (ocs (pc P t)) 31) ⟨Bel, ?_⟩ ?_
        · unfold pc tc
          rw [if_neg (by omega)]
          unfold ocs
          dsimp only
          rw [← hcast]
          exact (by (repeat (first | assumption | (apply Blk.below (hb := hb1); rotate_left; (focus ((try simp only [Sx.sizes]); omega)); rotate_right) | (apply Blk.below (hb := hb2); rotate_left; (focus ((try simp only [Sx.sizes]); omega)); rotate_right) | (apply Blk.below (hb := hb3); rotate_left; (focus ((try simp only [Sx.sizes]); omega)); rotate_right) | (apply Blk.below (hb := hb4); rotate_left; (focus ((try simp only [Sx.sizes]); omega)); rotate_right) | (apply Blk.below (hb := hb5); rotate_left; (focus ((try simp only [Sx.sizes]); omega)); rotate_right) | (apply Blk.below (hb := hb6); rotate_left; (focus ((try simp only [Sx.sizes]); omega)); rotate_right) | (apply Blk.below (hb := hb7); rotate_left; (focus ((try simp only [Sx.sizes]); omega)); rotate_right) | (apply Blk.below (hb := hb8); rotate_left; (focus ((try simp only [Sx.sizes]); omega)); rotate_right) | (apply Blk.below (hb := hb9); rotate_left; (focus ((try simp only [Sx.sizes]); omega)); rotate_right) | exact Blk.newE (by first | rfl | ((try simp only [Sx.sizes]); first | done | omega)) _ _ | exact Blk.put_same (by (try simp only [Sx.sizes]); first | done | omega) _ _ | (apply Blk.put_ne; (focus omega)) | apply Blk.alloc | apply Blk.drew)); done)
        rintro D2 ⟨hD2, k2⟩
        have bD2 := bC.trans (hD2.mono sC)
        have hoD2 : OwnO w.heap.size D2 (.slice l1 l2 l3) (seg 0 (List.replicate i t)) := own_below hoC hD2 (Nat.le_refl _)
        unfold pc tc at k2
        rw [if_neg (by omega)] at k2
        unfold ocs none' at k2
        dsimp only at k2
        have hx7 : (((7, P) : Id).1 : Int) = 7 := rfl
        (refine Ga ?_)
        (apply Lst_slit; (focus rfl); (focus rfl); (focus rfl); (focus rfl); (focus rfl); (focus rfl); (focus rfl); (focus rfl); (focus rfl); (focus (repeat (first | apply FillO.nil | (apply FillO.cons; (focus constructor); (focus rfl); (focus rfl); (focus (repeat constructor)))))); (focus ((try simp only [Sx.sizes]); first | done | rfl)); (focus rfl))
        refine Lst_abs (fun Y => Below D2.heap.size D2 Y ∧ Blk Y D2.heap.size (ocs (pc P t)) 31) ⟨Bel, ?_⟩ ?_
        · unfold pc tc
          rw [if_neg (by omega)]
          unfold ocs none'
          dsimp only
          rw [← hcast]
          exact (by (repeat (first | assumption | (apply Blk.below (hb := hb1); rotate_left; (focus ((try simp only [Sx.sizes]); omega)); rotate_right) | (apply Blk.below (hb := hb2); rotate_left; (focus ((try simp only [Sx.sizes]); omega)); rotate_right) | (apply Blk.below (hb := hb3); rotate_left; (focus ((try simp only [Sx.sizes]); omega)); rotate_right) | (apply Blk.below (hb := hb4); rotate_left; (focus ((try simp only [Sx.sizes]); omega)); rotate_right) | (apply Blk.below (hb := hb5); rotate_left; (focus ((try simp only [Sx.sizes]); omega)); rotate_right) | (apply Blk.below (hb := hb6); rotate_left; (focus ((try simp only [Sx.sizes]); omega)); rotate_right) | (apply Blk.below (hb := hb7); rotate_left; (focus ((try simp only [Sx.sizes]); omega)); rotate_right) | (apply Blk.below (hb := hb8); rotate_left; (focus ((try simp only [Sx.sizes]); omega)); rotate_right) | (apply Blk.below (hb := hb9); rotate_left; (focus ((try simp only [Sx.sizes]); omega)); rotate_right) | exact Blk.newE (by first | rfl | ((try simp only [Sx.sizes]); first | done | omega)) _ _ | exact Blk.put_same (by (try simp only [Sx.sizes]); first | done | omega) _ _ | (apply Blk.put_ne; (focus omega)) | apply Blk.alloc | apply Blk.drew)); done)
        rintro Y ⟨hY, kY⟩
        apply Lst_appendO (hown := own_below hoD2 hY (Nat.le_refl _)) (hy := one_row kY)
        focus (simp only [List.length_singleton, seg_len, List.length_replicate]; omega)
        focus exact Nat.le_trans bD2.size hY.size
        focus rfl
        focus rfl
        focus rfl
        intro v' U hoU hU
        obtain ⟨x1, x2, x3, rfl⟩ := own_slice hoU
        have bU := (bD2.trans (hY.mono bD2.size)).trans hU
        (refine Ga ?_)
        refine rndQ_n (α := Nat × Value) (i + 1, .slice x1 x2 x3) ⟨hil, by dsimp only; rw [hsr]; exact hoU, bU⟩ ⟨rfl, rfl, rfl, rfl, rfl, ?_, ?_, trivial⟩ (by dsimp only; omega)
        · exact congrArg (Value.int .u64) (by dsimp only; have h9 : (i + 1) * M = i * M + M := Nat.succ_mul i M; rw [h9, hP]; omega)
        · exact congrArg (Value.int .i64) (by dsimp only; omega)
    · obtain rfl : i = N + 1 := by omega
      (refine Ga ?_)
      exact cutQ_n (C, .slice l1 l2 l3) ⟨rfl, hoC, bC⟩ ⟨rfl, rfl, rfl, rfl, trivial⟩
  rintro J ⟨C0, lv⟩ C ⟨rfl, hoC, bC⟩
  dsimp only at hoC bC ⊢
  have sC := bC.size
  have hts := rep_tx (n := N + 1) htx
  have htot : tot (List.replicate (N + 1) t) = (N + 1) * M := by rw [tot_rep, hrn]
  have hNM : (N + 1) * M ≤ 9 * 2100 := Nat.mul_le_mul (by omega) (by omega)
  have hlen : (List.replicate (N + 1) t).length = N + 1 := List.length_replicate
  obtain ⟨L, hLd⟩ : ∃ L, List.replicate (N + 1) t = L := ⟨_, rfl⟩
  rw [hLd] at hoC hts htot hlen
  have hoC1 := hoC
  unfold OwnO at hoC1
  rw [seg_len, hlen] at hoC1
  obtain ⟨l1, l3, rfl, hl13⟩ := own_form hoC1
  have hrC : SRows C 22 (.slice l1 L.length l3) ((seg 0 L).map ocs) := by rw [hlen]; exact hoC.rows
  have hj := c_JoinS L 0 l1 l3 (by omega) (by omega) hts (by omega) C (hT.below bC) hrC
  rw [hlen, htot] at hj
  have hNM0 : 900 ≤ (N + 1) * M := Nat.le_trans (by omega) (Nat.le_mul_of_pos_left M (Nat.succ_pos N))
  (refine Ga ?_)
  (apply Lst_call; (focus rfl); (focus rfl))
  refine hj.mono ?_
  rintro v D ⟨hoD, hD⟩
  have bD := bC.trans (hD.mono sC)
  have hoCD : OwnO w.heap.size D (.slice l1 (N + 1) l3) (seg 0 L) := own_below hoC hD (Nat.le_refl _)
  have hg : ∀ x ∈ runesT L, Utf.good x := fun x hx => by
    have hc := (catB_rs hts).2
    rw [← hc] at hx
    exact Utf.rs_good _ x hx
  have hRl : (runesT L).length = (N + 1) * M := by rw [tot_len, htot]
  obtain ⟨R, hR⟩ : ∃ R, runesT L = R := ⟨_, rfl⟩
  rw [hR] at hoD hg hRl
  obtain ⟨Q, hQ⟩ : ∃ Q, (N + 1) * M = Q := ⟨_, rfl⟩
  rw [hQ] at hoD hRl htot hNM hNM0
  have hD0 : OwnO w.heap.size D v (seg 0 (cuts Q R)) := own_low' hoD sC
  obtain ⟨d1, d2, d3, rfl⟩ := own_slice hoD
  clear hoC hoC1 hoD hrC hj
  (refine Ga ?_)
  refine Tl.W_cutS (α := World × Value) (fun x => [(0, .int .i64 ((N + 1 : Nat) : Int)), (1, .int .i64 (M : Int)), (8, .slice l1 (N + 1) l3), (12, x.2)]) (fun x E => E = x.1 ∧ OwnO w.heap.size E x.2 (seg 0 (cuts Q R)) ∧ OwnO w.heap.size E (.slice l1 (N + 1) l3) (seg 0 L) ∧ Below w.heap.size w E) ?_ ?_
  · cases more with
    | false =>
      (refine Ga ?_)
      exact cutQ_n (D, .slice d1 d2 d3) ⟨rfl, hD0, hoCD, bD⟩ ⟨rfl, rfl, rfl, rfl, trivial⟩
    | true =>
      (refine Ga ?_)
      refine W_drawS 13 (fun Z => Below D.heap.size D Z) rfl rfl ?_
      have hS := Below.drew (Below.refl D.heap.size D)
      generalize D.drew = Z at *
      obtain ⟨k, hk⟩ : ∃ k, (N + 1) / 2 = k := ⟨_, rfl⟩
      have hqk : IntKind.i64.wrap (((N + 1 : Nat) : Int).tdiv 2) = (k : Int) := by
        rw [show ((N + 1 : Nat) : Int).tdiv 2 = (k : Int) by rw [← hk]; exact (Int.ofNat_tdiv (N + 1) 2).symm]
        exact wi64 (by omega) (by omega)
      refine S_takeV 0 12 rfl (by kernel_rfl) (by repeat (first | exact retQ_p | apply seqQ_p | apply blkQ_p | apply rndQ_p | apply cutQ_p)) hS ?_
      (refine Qb ?_)
      refine S_takeV 1 11 rfl (by kernel_rfl) (by repeat (first | exact retQ_p | apply seqQ_p | apply blkQ_p | apply rndQ_p | apply cutQ_p)) hS ?_
      (refine Qb ?_)
      refine S_takeV 2 10 rfl (by kernel_rfl) (by repeat (first | exact retQ_p | apply seqQ_p | apply blkQ_p | apply rndQ_p | apply cutQ_p)) hS ?_
      apply Qst_pu
      · apply P_quo (r := (k : Int))
        focus rfl
        focus rfl
        focus omega
        focus exact hqk
      focus rfl
      (refine Qb ?_)
      refine S_takeV 3 9 rfl (by kernel_rfl) (by repeat (first | exact retQ_p | apply seqQ_p | apply blkQ_p | apply rndQ_p | apply cutQ_p)) hS ?_
      apply Qst_pu
      · apply P_lslice_hi (m' := (k : Int)) (sz := 22)
        focus rfl
        focus rfl
        focus rfl
        focus rfl
        focus rfl
        focus omega
        focus omega
      focus rfl
      (refine Qb ?_)
      refine S_takeV 5 8 rfl (by kernel_rfl) (by repeat (first | exact retQ_p | apply seqQ_p | apply blkQ_p | apply rndQ_p | apply cutQ_p)) hS ?_
      (refine Qb ?_)
      refine S_takeV 6 7 rfl (by kernel_rfl) (by repeat (first | exact retQ_p | apply seqQ_p | apply blkQ_p | apply rndQ_p | apply cutQ_p)) hS ?_
      (refine Qb ?_)
      refine S_takeV 7 6 rfl (by kernel_rfl) (by repeat (first | exact retQ_p | apply seqQ_p | apply blkQ_p | apply rndQ_p | apply cutQ_p)) hS ?_
      apply Qst_pu
      · apply P_quo (r := (k : Int))
        focus rfl
        focus rfl
        focus omega
        focus exact hqk
      focus rfl
      (refine Qb ?_)
      refine S_takeV 8 5 rfl (by kernel_rfl) (by repeat (first | exact retQ_p | apply seqQ_p | apply blkQ_p | apply rndQ_p | apply cutQ_p)) hS ?_
      apply Qst_pu
      · apply P_lslice_lo (m := (k : Int)) (sz := 22)
        focus rfl
        focus rfl
        focus rfl
        focus rfl
        focus rfl
        focus omega
        focus omega
      focus rfl
      (refine Qb ?_)
      refine S_any [4] 4 rfl (by kernel_rfl) (all1 ?_)
      have hhv := halves hts (by omega) k
      rw [htot, hR] at hhv
      obtain ⟨hv1, hv2, hv3, hv4, hv5, hv6⟩ := hhv
      obtain ⟨CS, hCS⟩ : ∃ CS, cuts (tot (L.take k)) (runesT (L.take k)) ++ cuts (tot (L.drop k)) (runesT (L.drop k)) = CS := ⟨_, rfl⟩
      rw [hCS] at hv1 hv4 hv5 hv6
      have bZ := bD.trans (hS.mono bD.size)
      have hrZ : SRows Z 22 (.slice l1 ((seg 0 L).map ocs).length l3) ((seg 0 L).map ocs) := by
        rw [List.length_map, seg_len, hlen]
        exact SRows.below hoCD.rows hS (Nat.le_refl _)
      have hr1 := SRows.cuthi hrZ (n := k) (by rw [List.length_map, seg_len]; omega)
      have hr2 := SRows.cutlo hrZ (n := k) (by rw [List.length_map, seg_len]; omega) (by rw [List.length_map, seg_len]; omega)
      rw [List.length_map, seg_len, hlen] at hr2
      rw [← List.map_take, seg_take 0 L k (by omega)] at hr1
      rw [← List.map_drop, seg_drop 0 L k (by omega), Nat.zero_add] at hr2
      have hl1 : (L.take k).length = k := by rw [List.length_take]; omega
      have hl2 : (L.drop k).length = N + 1 - k := by rw [List.length_drop]; omega
      obtain ⟨a1, c1, he1⟩ : ∃ a c, sliced l1 0 k l3 22 = .slice a k c := by unfold sliced; rw [Nat.sub_zero]; exact ⟨_, _, rfl⟩
      obtain ⟨a2, c2, he2⟩ : ∃ a c, sliced l1 k (N + 1) l3 22 = .slice a (N + 1 - k) c := ⟨_, _, rfl⟩
      rw [he1] at hr1
      rw [he2] at hr2
      rw [Int.toNat_natCast, he1, he2]
      have hj1 : Does Tryz.prog 19 #[.slice a1 k c1] Z fun v w' => OwnO Z.heap.size w' v (seg 0 (cuts (tot (L.take k)) (runesT (L.take k)))) ∧ Below Z.heap.size Z w' := by
        rcases Nat.eq_zero_or_pos k with h0 | h0
        · rw [h0] at hr1 ⊢
          exact (c_Join0 a1 c1 Z (hT.below bZ) hr1).mono fun v w' h => ⟨by rw [h.1]; exact OwnO.nil _ _, h.2⟩
        · have := c_JoinS (L.take k) 0 a1 c1 (by omega) (by omega) (fun t ht => hts t (List.mem_of_mem_take ht)) (by omega) Z (hT.below bZ) (by rw [hl1]; exact hr1)
          rw [hl1] at this
          exact this
      (apply Lst_call; (focus rfl); (focus rfl))
      refine hj1.mono ?_
      rintro v V ⟨hoV, hV⟩
      apply Lst_nil
      apply rnQ_n
      have hS2 := hS.trans (hV.mono hS.size)
      refine ⟨hS2, ?_⟩
      have bV := bD.trans (hS2.mono bD.size)
      have hr2V := SRows.below hr2 hV (Nat.le_refl _)
      have hj2 := c_JoinS (L.drop k) (tot (L.take k)) a2 c2 (by omega) (by omega) (fun t ht => hts t (List.mem_of_mem_drop ht)) (by omega) V (hT.below bV) (by rw [hl2]; exact hr2V)
      rw [hl2] at hj2
      have sZ : D.heap.size ≤ Z.heap.size := hS.size
      clear hS
      have hS := hS2
      clear hS2
      refine S_any [9] 3 rfl (by kernel_rfl) (all1 ?_)
      (apply Lst_call; (focus rfl); (focus rfl))
      refine hj2.mono ?_
      rintro v2 X ⟨hoX, hX⟩
      apply Lst_nil
      apply rnQ_n
      have hS2 := hS.trans (hX.mono hS.size)
      refine ⟨hS2, ?_⟩
      have hoV2 : OwnO Z.heap.size X v (seg 0 (cuts (tot (L.take k)) (runesT (L.take k)))) := own_below hoV hX (Nat.le_refl _)
      have sV := hV.size
      have sX := hX.size
      clear hS
      have hS := hS2
      clear hS2
      refine S_any [10] 2 rfl (by kernel_rfl) (all1 ?_)
      obtain ⟨e1, e3, rfl, _⟩ := own_form hoV2
      obtain ⟨f1, f3, rfl, _⟩ := own_form hoX
      apply Lst_appendO (hown := hoV2) (hy := hoX.rows)
      focus (rw [seg_len, seg_len, ← List.length_append, hCS]; omega)
      focus exact Nat.le_trans sV sX
      focus rfl
      focus rfl
      focus rfl
      intro v' U hoU hU
      rw [← seg_zero_append hv2, hCS] at hoU
      apply Lst_nil
      apply rnQ_n
      have hS2 := hS.trans (hU.mono (by omega))
      refine ⟨hS2, ?_⟩
      have bU := bD.trans (hS2.mono bD.size)
      clear hS
      have hS := hS2
      clear hS2
      obtain ⟨g1, g3, rfl, _⟩ := own_form hoU
      have hrU := hoU.rows
      rw [seg_len] at hrU
      have hj3 : Does Tryz.prog 19 #[.slice g1 (seg 0 CS).length g3] U fun v w' => OwnO U.heap.size w' v (seg 0 (cuts Q R)) ∧ Below U.heap.size U w' := by
        rw [seg_len]
        have h9 := c_JoinS CS 0 g1 g3 (by refine Nat.pos_of_ne_zero fun h0 => ?_; rw [List.eq_nil_of_length_eq_zero h0] at hv5; change 0 = Q at hv5; omega) hv6 hv1 (by omega) U (hT.below bU) hrU
        rw [hv4, hv5] at h9
        exact h9
      refine S_any [11] 1 rfl (by kernel_rfl) (all1 ?_)
      (apply Lst_call; (focus rfl); (focus rfl))
      refine hj3.mono ?_
      rintro v4 Y ⟨hoY, hY⟩
      apply Lst_nil
      apply rnQ_n
      have hS2 := hS.trans (hY.mono hS.size)
      refine ⟨hS2, ?_⟩
      have bY := bD.trans (hS2.mono bD.size)
      clear hS
      have hS := hS2
      clear hS2
      have hoCY : OwnO w.heap.size Y (.slice l1 (N + 1) l3) (seg 0 L) := own_below hoCD hS (Nat.le_refl _)
      have hoY2 : OwnO w.heap.size Y v4 (seg 0 (cuts Q R)) := own_low' hoY bU.size
      obtain ⟨h1, h2, h3, rfl⟩ := own_slice hoY
      refine S_takeV 12 0 rfl (by kernel_rfl) (by repeat (first | exact retQ_p | apply seqQ_p | apply blkQ_p | apply rndQ_p | apply cutQ_p)) hS ?_
      (refine Qb ?_)
      refine S_done (by kernel_rfl) ?_
      (refine Ga ?_)
      exact cutQ_n (Y, .slice h1 h2 h3) ⟨rfl, hoY2, hoCY, bY⟩ ⟨rfl, rfl, rfl, rfl, trivial⟩
  clear hoCD hD0 bD hD bC sC hg
  rintro J ⟨E0, jv⟩ E ⟨rfl, hoJ, hoL, bE⟩
  dsimp only at hoJ hoL bE ⊢
  have hg : ∀ x ∈ R, Utf.good x := fun x hx => by
    rw [← hR, ← (catB_rs hts).2] at hx
    exact Utf.rs_good _ x hx
  have hcl := cuts_len Q R (by omega)
  rw [hRl] at hcl
  obtain ⟨cs, hcs⟩ : ∃ cs, cuts Q R = cs := ⟨_, rfl⟩
  have hcg := cuts_get Q R
  have hctx := cuts_tx Q R hg
  rw [hcs] at hoJ hcl hcg hctx
  have hoJ1 := hoJ
  unfold OwnO at hoJ1
  rw [seg_len] at hoJ1
  obtain ⟨j1, j3, rfl, hj13⟩ := own_form hoJ1
  have hrJ : SRows E 22 (.slice j1 cs.length j3) ((seg 0 cs).map ocs) := by
    have := hoJ.rows
    exact this
  have sE := bE.size
  have hQi : ((N + 1 : Nat) : Int) * (M : Int) = (Q : Int) := by rw [← hQ]; push_cast; rfl
  clear hoJ1
  (refine Ga ?_)
  refine W_loop (α := Nat) (fun i => [(8, .slice l1 (N + 1) l3), (12, .slice j1 cs.length j3), (13, .int .i64 ((Q - min (4096 * i) Q : Nat) : Int)), (14, .int .i64 (i : Int))]) (fun i A => i ≤ cs.length ∧ Below E.heap.size E A) (fun i _ => cs.length - i) 0 ⟨Nat.zero_le _, Below.refl _ _⟩ ⟨rfl, rfl, ?_, rfl, trivial⟩ ?_
  · rw [hQi]
    exact congrArg (Value.int .i64) (by omega)
  rintro J i A ⟨hi, hA⟩
  have bA := bE.trans (hA.mono sE)
  by_cases hil : i < cs.length
  · have hrni : rn cs[i] = min 4096 (Q - 4096 * i) := by rw [hcg i hil, rn_take fun x hx => hg x (List.mem_of_mem_drop hx), List.length_drop, hRl]
    have hszi : (cs[i]).size ≤ 1000000 := by
      have h1 := size_rn (hctx cs[i] (List.getElem_mem hil)).val
      omega
    obtain ⟨g, off, rfl, _, hc⟩ := (SRows.below hrJ hA (Nat.le_refl _)).at (i := i) (by rw [List.length_map, seg_len]; exact hil)
    rw [List.getElem_map, seg_get 0 cs i hil] at hc
    have hlo : len (pc (0 + tot (cs.take i)) cs[i]) = rn cs[i] := by unfold len; rw [if_pos (show (pc (0 + tot (cs.take i)) cs[i]).k = 1 from rfl)]; rfl
    have hso : (pc (0 + tot (cs.take i)) cs[i]).tx.size ≤ 1000000 := hszi
    have hc8 := hc 8 (.string cs[i]) rfl
    obtain ⟨o, ho⟩ : ∃ o, pc (0 + tot (cs.take i)) cs[i] = o := ⟨_, rfl⟩
    rw [ho] at hc hlo hso
    rw [hrni] at hlo
    obtain ⟨want, hw⟩ : ∃ n, min 4096 (Q - 4096 * i) = n := ⟨_, rfl⟩
    rw [hw] at hlo hrni
    have hwi : min ((Q - min (4096 * i) Q : Nat) : Int) 4096 = (want : Int) := by omega
    (refine Ga ?_)
    rw [hwi]
    apply Lst_pu
    · apply P_idxm (j := i) (sz := 22)
      focus rfl
      focus rfl
      focus rfl
      focus rfl
      focus rfl
      focus omega
    focus rfl
    (refine Ga ?_)
    apply Lst_loadS' (cs := ocs o)
    focus rfl
    focus rfl
    focus rfl
    focus rfl
    focus rfl
    focus exact hc
    focus rfl
    (refine Ga ?_)
    (apply Lst_call; (focus rfl); (focus rfl))
    refine (c_Len o hso A (hT.below bA)).mono ?_
    rintro v B1 ⟨rfl, hB1⟩
    have hc8' := cell_below hB1 hc8
    rw [hlo]
    (refine Ga ?_)
    apply Lst_pu
    · apply P_idxm (j := i) (sz := 22)
      focus rfl
      focus rfl
      focus rfl
      focus rfl
      focus rfl
      focus omega
    focus rfl
    (refine Ga ?_)
    (apply Lst_call; (focus rfl); (focus rfl))
    refine (Utf.r_Len cs[i] B1 hszi).mono ?_
    rintro v B2 ⟨rfl, hB2⟩
    rw [show (rs (tl cs[i])).length = want from hrni]
    have hA2 := hA.trans ((hB1.trans (hB2.mono hB1.size)).mono hA.size)
    (refine Ga ?_)
    refine rndQ_n (α := Nat) (i + 1) ⟨hil, hA2⟩ ⟨rfl, rfl, ?_, ?_, trivial⟩ (by omega)
    · exact congrArg (Value.int .i64) (by omega)
    · exact congrArg (Value.int .i64) (by omega)
  · obtain rfl : i = cs.length := by omega
    have hlf : (Q - min (4096 * cs.length) Q : Nat) = 0 := by omega
    have hcs0 : 0 < cs.length := by omega
    rw [hlf]
    have hrn0 : rn cs[0] = min 4096 (Q - 4096 * 0) := by rw [hcg 0 hcs0, rn_take fun x hx => hg x (List.mem_of_mem_drop hx), List.length_drop, hRl]
    have hsz0 : (cs[0]).size ≤ 1000000 := by
      have h1 := size_rn (hctx cs[0] (List.getElem_mem hcs0)).val
      omega
    have hgw : ∀ Z, Below A.heap.size A Z → Below w.heap.size w Z := fun Z h => bA.trans (h.mono bA.size)
    have hzL := szs_tot hts
    have hjr : ∀ Z, Below w.heap.size w Z → Below A.heap.size A Z → Does Tryz.prog 21 #[.slice l1 (N + 1) l3] Z fun v w' => OwnO Z.heap.size w' v (seg 0 cs) ∧ Below Z.heap.size Z w' := fun Z hwZ hAZ => by
      have hEZ := hA.trans (hAZ.mono hA.size)
      have hoZ : OwnO w.heap.size Z (.slice l1 (N + 1) l3) (seg 0 L) := own_below hoL hEZ (Nat.le_refl _)
      have h9 := r_JoinS L 0 l1 l3 (by omega) (by omega) hts (fun i => by rw [catB_size]; have := szs_take L i; omega) (fun t ht => by have := szs_mem ht; omega) (by omega) Z (by rw [hlen]; exact hoZ.rows)
      rw [hlen, htot, hR, hcs] at h9
      exact h9
    have hvs : ∀ o ∈ seg 0 cs, o.v = ⟨0, 0, 0, ⟨#[]⟩⟩ := fun o ho => by
      have h9 := cuts_tot hg cs.length
      exact ((seg_chain (p := 0) hctx (by
        rw [hRl, hcs, List.take_length] at h9
        have := h9 (Nat.le_refl _)
        omega)).ok o ho).v
    have hsm : ∀ Z q1 q3, Below w.heap.size w Z → Below A.heap.size A Z → SRows Z 22 (.slice q1 (seg 0 cs).length q3) ((seg 0 cs).map ocs) → Does Tryz.prog 18 #[.slice j1 cs.length j3, .slice q1 (seg 0 cs).length q3] Z fun v w' => v = .bool true ∧ Below Z.heap.size Z w' := fun Z q1 q3 hwZ hAZ hq => by
      have hEZ := hA.trans (hAZ.mono hA.size)
      have hJ : SRows Z 22 (.slice j1 (seg 0 cs).length j3) ((seg 0 cs).map ocs) := by rw [seg_len]; exact SRows.below hrJ hEZ (Nat.le_refl _)
      have h9 := c_sameAll8 (seg 0 cs) j1 q1 j3 q3 (by rw [seg_len]; omega) hvs Z hJ hq
      rw [seg_len] at h9 ⊢
      exact h9
    obtain ⟨g, off, rfl, _, hc⟩ := (SRows.below hrJ hA (Nat.le_refl _)).at (i := 0) (by rw [List.length_map, seg_len]; exact hcs0)
    rw [List.getElem_map, seg_get 0 cs 0 hcs0] at hc
    have hlo : len (pc (0 + tot (cs.take 0)) cs[0]) = rn cs[0] := by unfold len; rw [if_pos (show (pc (0 + tot (cs.take 0)) cs[0]).k = 1 from rfl)]; rfl
    have hso : (pc (0 + tot (cs.take 0)) cs[0]).tx.size ≤ 1000000 := hsz0
    obtain ⟨r, hro⟩ : ∃ r, rngO (pc (0 + tot (cs.take 0)) cs[0]) = r := ⟨_, rfl⟩
    have hrok : RgOk r := by
      rw [← hro]
      unfold rngO
      rw [hlo, hrn0]
      refine ⟨by show 1 ≤ 7; decide, by show 7 ≤ 9007199254740991; decide, by show 1 ≤ 1 + 0; decide, ?_, ?_⟩
      · show 1 + 0 < 1 + 0 + min 4096 (Q - 4096 * 0)
        omega
      · show 1 + 0 + min 4096 (Q - 4096 * 0) ≤ 9007199254740992
        omega
    have hio : (pc (0 + tot (cs.take 0)) cs[0]).id.2 + len (pc (0 + tot (cs.take 0)) cs[0]) ≤ 18446744073709551615 := by
      rw [hlo, hrn0]
      show 1 + 0 + min 4096 (Q - 4096 * 0) ≤ _
      omega
    generalize pc (0 + tot (cs.take 0)) cs[0] = o at *
    (refine Ga ?_)
    refine W_drawS 23 (fun Z => Below A.heap.size A Z) rfl rfl ?_
    have hS := Below.drew (Below.refl A.heap.size A)
    generalize A.drew = Z at *
    refine S_takeV 0 22 rfl (by kernel_rfl) (by repeat (first | exact retQ_p | apply seqQ_p | apply blkQ_p | apply rndQ_p | apply cutQ_p)) hS ?_
    (refine Qb ?_)
    refine S_takeV 1 21 rfl (by kernel_rfl) (by repeat (first | exact retQ_p | apply seqQ_p | apply blkQ_p | apply rndQ_p | apply cutQ_p)) hS ?_
    (refine Qb ?_)
    refine S_takeV 2 20 rfl (by kernel_rfl) (by repeat (first | exact retQ_p | apply seqQ_p | apply blkQ_p | apply rndQ_p | apply cutQ_p)) hS ?_
    (refine Qb ?_)
    refine S_takeV 3 19 rfl (by kernel_rfl) (by repeat (first | exact retQ_p | apply seqQ_p | apply blkQ_p | apply rndQ_p | apply cutQ_p)) hS ?_
    (refine Qb ?_)
    refine S_takeV 4 18 rfl (by kernel_rfl) (by repeat (first | exact retQ_p | apply seqQ_p | apply blkQ_p | apply rndQ_p | apply cutQ_p)) hS ?_
    (refine Qb ?_)
    refine S_any [5] 17 rfl (by kernel_rfl) (all1 ?_)
    apply Lst_guard_t
    focus rfl
    focus rfl
    (apply Lst_call; (focus rfl); (focus rfl))
    refine (hjr Z (hgw Z hS) hS).mono ?_
    rintro v Z1 ⟨hoR, hZ1⟩
    apply Lst_nil
    apply rnQ_n
    have hS2 := hS.trans (hZ1.mono hS.size)
    refine ⟨hS2, ?_⟩
    have sZ1 := hZ1.size
    clear hS
    have hS := hS2
    clear hS2
    obtain ⟨q1, q3, rfl, _⟩ := own_form hoR
    have hrq := hoR.rows
    refine S_any [6] 16 rfl (by kernel_rfl) (all1 ?_)
    apply Lst_guard_t
    focus rfl
    focus rfl
    (apply Lst_call; (focus rfl); (focus rfl))
    refine (hsm Z1 q1 q3 (hgw Z1 hS) hS hrq).mono ?_
    rintro v Z2 ⟨rfl, hZ2⟩
    apply Lst_nil
    apply rnQ_n
    have hS2 := hS.trans (hZ2.mono hS.size)
    refine ⟨hS2, ?_⟩
    have sZ2 := hZ2.size
    clear hS
    have hS := hS2
    clear hS2
    refine S_takeV 7 15 rfl (by kernel_rfl) (by repeat (first | exact retQ_p | apply seqQ_p | apply blkQ_p | apply rndQ_p | apply cutQ_p)) hS ?_
    (refine Qb ?_)
    refine S_takeV 8 14 rfl (by kernel_rfl) (by repeat (first | exact retQ_p | apply seqQ_p | apply blkQ_p | apply rndQ_p | apply cutQ_p)) hS ?_
    (refine Qb ?_)
    refine S_takeV 9 13 rfl (by kernel_rfl) (by repeat (first | exact retQ_p | apply seqQ_p | apply blkQ_p | apply rndQ_p | apply cutQ_p)) hS ?_
    (refine Qb ?_)
    refine S_takeV 10 12 rfl (by kernel_rfl) (by repeat (first | exact retQ_p | apply seqQ_p | apply blkQ_p | apply rndQ_p | apply cutQ_p)) hS ?_
    apply Qst_guard_t
    focus rfl
    focus rfl
    apply Qst_pu
    · apply P_idxm (j := 0) (sz := 22)
      focus rfl
      focus rfl
      focus rfl
      focus rfl
      focus rfl
      focus omega
    focus rfl
    (refine Qb ?_)
    refine S_takeV 11 11 rfl (by kernel_rfl) (by repeat (first | exact retQ_p | apply seqQ_p | apply blkQ_p | apply rndQ_p | apply cutQ_p)) hS ?_
    apply Qst_guard_t
    focus rfl
    focus rfl
    apply Qst_loadS (cs := ocs o)
    focus rfl
    focus rfl
    focus rfl
    focus rfl
    focus rfl
    focus exact fun A9 hA9 j v hj => cell_below hA9 (hc j v hj)
    focus rfl
    (refine Qb ?_)
    refine S_takeV 15 10 rfl (by kernel_rfl) (by repeat (first | exact retQ_p | apply seqQ_p | apply blkQ_p | apply rndQ_p | apply cutQ_p)) hS ?_
    (refine Qb ?_)
    refine S_takeV 16 9 rfl (by kernel_rfl) (by repeat (first | exact retQ_p | apply seqQ_p | apply blkQ_p | apply rndQ_p | apply cutQ_p)) hS ?_
    apply Qst_guard_t
    focus rfl
    focus rfl
    apply Qst_pu
    · apply P_idxm (j := 0) (sz := 22)
      focus rfl
      focus rfl
      focus rfl
      focus rfl
      focus rfl
      focus omega
    focus rfl
    (refine Qb ?_)
    refine S_takeV 17 8 rfl (by kernel_rfl) (by repeat (first | exact retQ_p | apply seqQ_p | apply blkQ_p | apply rndQ_p | apply cutQ_p)) hS ?_
    apply Qst_guard_t
    focus rfl
    focus rfl
    apply Qst_loadS (cs := ocs o)
    focus rfl
    focus rfl
    focus rfl
    focus rfl
    focus rfl
    focus exact fun A9 hA9 j v hj => cell_below hA9 (hc j v hj)
    focus rfl
    (refine Qb ?_)
    refine S_any [12] 7 rfl (by kernel_rfl) (all1 ?_)
    apply Lst_guard_t
    focus rfl
    focus rfl
    (apply Lst_call; (focus rfl); (focus rfl))
    refine (c_Range o hso hio Z2 (hT.below (hgw Z2 hS))).mono ?_
    rintro v Z3 ⟨rfl, hZ3⟩
    apply Lst_nil
    apply rnQ_n
    have hS2 := hS.trans (hZ3.mono hS.size)
    refine ⟨hS2, ?_⟩
    have sZ3 := hZ3.size
    clear hS
    have hS := hS2
    clear hS2
    rw [hro]
    refine S_any [13] 6 rfl (by kernel_rfl) (all1 ?_)
    apply Lst_guard_t
    focus rfl
    focus rfl
    (apply Lst_slit; (focus rfl); (focus rfl); (focus rfl); (focus rfl); (focus rfl); (focus rfl); (focus rfl); (focus rfl); (focus rfl); (focus (repeat (first | apply FillO.nil | (apply FillO.cons; (focus constructor); (focus rfl); (focus rfl); (focus (repeat constructor)))))); (focus ((try simp only [Sx.sizes]); first | done | rfl)); (focus rfl))
    refine Lst_abs (fun X => Below Z3.heap.size Z3 X ∧ Blk X Z3.heap.size (rcs r) 39) ⟨Bel, (by (repeat (first | assumption | (apply Blk.below (hb := hb1); rotate_left; (focus ((try simp only [Sx.sizes]); omega)); rotate_right) | (apply Blk.below (hb := hb2); rotate_left; (focus ((try simp only [Sx.sizes]); omega)); rotate_right) | (apply Blk.below (hb := hb3); rotate_left; (focus ((try simp only [Sx.sizes]); omega)); rotate_right) | (apply Blk.below (hb := hb4); rotate_left; (focus ((try simp only [Sx.sizes]); omega)); rotate_right) | (apply Blk.below (hb := hb5); rotate_left; (focus ((try simp only [Sx.sizes]); omega)); rotate_right) | (apply Blk.below (hb := hb6); rotate_left; (focus ((try simp only [Sx.sizes]); omega)); rotate_right) | (apply Blk.below (hb := hb7); rotate_left; (focus ((try simp only [Sx.sizes]); omega)); rotate_right) | (apply Blk.below (hb := hb8); rotate_left; (focus ((try simp only [Sx.sizes]); omega)); rotate_right) | (apply Blk.below (hb := hb9); rotate_left; (focus ((try simp only [Sx.sizes]); omega)); rotate_right) | exact Blk.newE (by first | rfl | ((try simp only [Sx.sizes]); first | done | omega)) _ _ | exact Blk.put_same (by (try simp only [Sx.sizes]); first | done | omega) _ _ | (apply Blk.put_ne; (focus omega)) | apply Blk.alloc | apply Blk.drew)); done)⟩ ?_
    rintro Z4 ⟨hZ4, k4⟩
    apply Lst_nil
    apply rnQ_n
    have hS2 := hS.trans (hZ4.mono hS.size)
    refine ⟨hS2, ?_⟩
    have sZ4 := hZ4.size
    clear hS
    have hS := hS2
    clear hS2
    refine S_any [14] 5 rfl (by kernel_rfl) (all1 ?_)
    apply Lst_guard_t
    focus rfl
    focus rfl
    (apply Lst_call; (focus rfl); (focus rfl))
    refine (r_Clean6 r hrok _ Z4 k4).mono ?_
    rintro v Z5 ⟨⟨y1, y3, rfl, hry⟩, hZ5⟩
    apply Lst_nil
    apply rnQ_n
    have hS2 := hS.trans (hZ5.mono hS.size)
    refine ⟨hS2, ?_⟩
    have sZ5 := hZ5.size
    clear hS
    have hS := hS2
    clear hS2
    refine S_any [18] 4 rfl (by kernel_rfl) (all1 ?_)
    apply Lst_guard_t
    focus rfl
    focus rfl
    (apply Lst_call; (focus rfl); (focus rfl))
    refine (c_Range o hso hio Z5 (hT.below (hgw Z5 hS))).mono ?_
    rintro v Z6 ⟨rfl, hZ6⟩
    apply Lst_nil
    apply rnQ_n
    have hS2 := hS.trans (hZ6.mono hS.size)
    refine ⟨hS2, ?_⟩
    have sZ6 := hZ6.size
    clear hS
    have hS := hS2
    clear hS2
    rw [hro]
    refine S_any [19] 3 rfl (by kernel_rfl) (all1 ?_)
    apply Lst_guard_t
    focus rfl
    focus rfl
    (apply Lst_slit; (focus rfl); (focus rfl); (focus rfl); (focus rfl); (focus rfl); (focus rfl); (focus rfl); (focus rfl); (focus rfl); (focus (repeat (first | apply FillO.nil | (apply FillO.cons; (focus constructor); (focus rfl); (focus rfl); (focus (repeat constructor)))))); (focus ((try simp only [Sx.sizes]); first | done | rfl)); (focus rfl))
    refine Lst_abs (fun X => Below Z6.heap.size Z6 X ∧ Blk X Z6.heap.size (rcs r) 39) ⟨Bel, (by (repeat (first | assumption | (apply Blk.below (hb := hb1); rotate_left; (focus ((try simp only [Sx.sizes]); omega)); rotate_right) | (apply Blk.below (hb := hb2); rotate_left; (focus ((try simp only [Sx.sizes]); omega)); rotate_right) | (apply Blk.below (hb := hb3); rotate_left; (focus ((try simp only [Sx.sizes]); omega)); rotate_right) | (apply Blk.below (hb := hb4); rotate_left; (focus ((try simp only [Sx.sizes]); omega)); rotate_right) | (apply Blk.below (hb := hb5); rotate_left; (focus ((try simp only [Sx.sizes]); omega)); rotate_right) | (apply Blk.below (hb := hb6); rotate_left; (focus ((try simp only [Sx.sizes]); omega)); rotate_right) | (apply Blk.below (hb := hb7); rotate_left; (focus ((try simp only [Sx.sizes]); omega)); rotate_right) | (apply Blk.below (hb := hb8); rotate_left; (focus ((try simp only [Sx.sizes]); omega)); rotate_right) | (apply Blk.below (hb := hb9); rotate_left; (focus ((try simp only [Sx.sizes]); omega)); rotate_right) | exact Blk.newE (by first | rfl | ((try simp only [Sx.sizes]); first | done | omega)) _ _ | exact Blk.put_same (by (try simp only [Sx.sizes]); first | done | omega) _ _ | (apply Blk.put_ne; (focus omega)) | apply Blk.alloc | apply Blk.drew)); done)⟩ ?_
    rintro Z7 ⟨hZ7, k7⟩
    apply Lst_nil
    apply rnQ_n
    have hS2 := hS.trans (hZ7.mono hS.size)
    refine ⟨hS2, ?_⟩
    have sZ7 := hZ7.size
    clear hS
    have hS := hS2
    clear hS2
    refine S_any [20] 2 rfl (by kernel_rfl) (all1 ?_)
    apply Lst_guard_t
    focus rfl
    focus rfl
    (apply Lst_call; (focus rfl); (focus rfl))
    refine (h_Ranges r y1 _ y3 1 Z7 (SRows.below (SRows.below hry hZ6 (Nat.le_refl _)) hZ7 (Nat.le_refl _)) (rng_row k7)).mono ?_
    rintro v Z8 ⟨rfl, hZ8⟩
    apply Lst_nil
    apply rnQ_n
    have hS2 := hS.trans (hZ8.mono hS.size)
    refine ⟨hS2, ?_⟩
    have sZ8 := hZ8.size
    clear hS
    have hS := hS2
    clear hS2
    refine S_takeV 21 1 rfl (by kernel_rfl) (by repeat (first | exact retQ_p | apply seqQ_p | apply blkQ_p | apply rndQ_p | apply cutQ_p)) hS ?_
    (refine Qb ?_)
    refine S_takeV 22 0 rfl (by kernel_rfl) (by repeat (first | exact retQ_p | apply seqQ_p | apply blkQ_p | apply rndQ_p | apply cutQ_p)) hS ?_
    (refine Qb ?_)
    refine S_done (by kernel_rfl) ?_
    (refine Ga ?_)
    (apply retQ1; (focus rfl))
    exact ⟨rfl, hgw _ hS⟩
end
end Op
end Go.Proofs.YtifkedhbelflkaaGreatDoor
