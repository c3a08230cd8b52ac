/- What a log's segments hold, plainly. -/
import Derived.Test.YtfocnbmihcnaoaaGreatDoorWaK
import Derived.Test.YtfocnbmihcnaoaaGreatDoorWDkKeepsP
namespace Go.Proofs.YtfocnbmihcnaoaaGreatDoor
set_option maxRecDepth 100000
namespace Wa
open Go Sx Wire Dk
theorem whole_tail {n : Nat} {b x : List UInt8} {L : List (List UInt8)} (h : Whole n b (x :: L)) : Rec n b x ∧ Whole (n + 1) (b.drop (rec1 n x).length) L := by
  obtain ⟨h1, h2, h3⟩ := h
  rw [recB_cons] at h1
  obtain ⟨t, ht⟩ := h1
  have hb : b = rec1 n x ++ (recB (n + 1) L ++ t) := by rw [← ht, List.append_assoc]
  have hd : b.drop (rec1 n x).length = recB (n + 1) L ++ t := by rw [hb, List.drop_left]
  refine ⟨⟨h2 x List.mem_cons_self, ⟨recB (n + 1) L ++ t, hb.symm⟩⟩, ⟨t, hd.symm⟩, fun y hy => h2 y (List.mem_cons_of_mem _ hy), fun y hy => h3 y ?_⟩
  have e : b.drop (recB n (x :: L)).length = (b.drop (rec1 n x).length).drop (recB (n + 1) L).length := by
    rw [recB_cons, List.length_append, List.drop_drop]
  rw [e, List.length_cons, show n + (L.length + 1) = n + 1 + L.length by omega]
  exact hy
theorem whole_uniq : ∀ {L M : List (List UInt8)} {n : Nat} {b : List UInt8}, Whole n b L → Whole n b M → L = M
  | [], [], _, _, _, _ => rfl
  | [], y :: M, n, b, h, k => absurd (whole_tail k).1 (by have := h.2.2 y; simpa [recB] using this)
  | x :: L, [], n, b, h, k => absurd (whole_tail h).1 (by have := k.2.2 x; simpa [recB] using this)
  | x :: L, y :: M, n, b, h, k => by
    obtain ⟨h1, h2⟩ := whole_tail h
    obtain ⟨k1, k2⟩ := whole_tail k
    obtain rfl := h1.uniq k1
    rw [whole_uniq h2 k2]
theorem whole_self (n : Nat) (L : List (List UInt8)) (hs : ∀ x ∈ L, x.length ≤ 1048576) : Whole n (recB n L) L := by
  refine ⟨List.prefix_refl _, hs, fun y hy => ?_⟩
  have := rec_size hy.2
  rw [List.drop_of_length_le (Nat.le_refl _), List.length_nil] at this
  omega
theorem run_uniq {d : Dsk} {m : List UInt8} {a k : Nat} {L L' : List (List UInt8)} {l l' : Nat} (h : Run d m a k L l) (h' : Run d m a k L' l') : L = L' ∧ l = l' := by
  induction h generalizing L' l' with
  | nil => cases h'; exact ⟨rfl, rfl⟩
  | snoc h hf hM hn hl ih =>
    cases h' with
    | snoc h2 hf2 hM2 hn2 hl2 =>
      obtain ⟨rfl, _⟩ := ih h2
      rw [hf] at hf2
      cases hf2
      rw [whole_uniq hM hM2]
      exact ⟨rfl, rfl⟩
theorem run_pre {d : Dsk} {m : List UInt8} {a k : Nat} {L : List (List UInt8)} {l : Nat} (h : Run d m a k L l) : ∀ i, i < k → ∃ Li li M f, Run d m a i Li li ∧ Sx.look d.es (nm m a i) = some f ∧ Whole Li.length f.b M ∧ M ≠ [] ∧ (recB Li.length M).length = f.b.length := by
  induction h with
  | nil => exact fun i hi => absurd hi (Nat.not_lt_zero _)
  | snoc h hf hM hn hl ih =>
    intro i hi
    rcases Nat.lt_succ_iff_lt_or_eq.1 hi with h9 | rfl
    · exact ih i h9
    · exact ⟨_, _, _, _, h, hf, hM, hn, hl⟩
theorem found_uniq {d : Dsk} {m : List UInt8} {a K k : Nat} {L L' : List (List UInt8)} {l l' : Nat} (h : Run d m a K L l) (hK : Sx.look d.es (nm m a K) = none) (hf : Found d m a k L' l') : k = K ∧ L' = L ∧ l' = l := by
  rcases hf with ⟨hr, hs⟩ | ⟨k', L1, M, f, l1, hr, hs, hM, hn, hlt, rfl, rfl, rfl⟩
  · rcases Nat.lt_trichotomy k K with h9 | rfl | h9
    · obtain ⟨Li, li, M, f, h1, h2, h3, h4, h5⟩ := run_pre h k h9
      obtain ⟨rfl, _⟩ := run_uniq hr h1
      rcases hs with hs | ⟨f', hs, hw⟩
      · rw [h2] at hs
        cases hs
      · rw [h2] at hs
        cases hs
        exact absurd (whole_uniq h3 hw) h4
    · obtain ⟨rfl, rfl⟩ := run_uniq hr h
      exact ⟨rfl, rfl, rfl⟩
    · obtain ⟨Li, li, M, f, h1, h2, _⟩ := run_pre hr K h9
      rw [hK] at h2
      cases h2
  · rcases Nat.lt_trichotomy k' K with h9 | rfl | h9
    · obtain ⟨Li, li, M', f', h1, h2, h3, h4, h5⟩ := run_pre h k' h9
      obtain ⟨rfl, _⟩ := run_uniq hr h1
      rw [h2] at hs
      cases hs
      rw [whole_uniq hM h3] at hlt
      omega
    · rw [hK] at hs
      cases hs
    · obtain ⟨Li, li, M', f', h1, h2, _⟩ := run_pre hr K h9
      rw [hK] at h2
      cases h2
theorem done_es (d : Dsk) : d.done.es = d.es := by
  unfold Dsk.done
  split <;> rfl
theorem done_room (d : Dsk) : d.done.room = d.room := by
  unfold Dsk.done
  split <;> rfl
theorem done_free {d : Dsk} (h : d.cut ≤ 0) : d.done = d := by
  unfold Dsk.done
  rw [if_neg (by omega)]
theorem look_del {es : List (ByteArray × Fl)} (hn : (keys es).Nodup) (k n : ByteArray) : Sx.look (Sx.del es k) n = if k = n then none else Sx.look es n := by
  induction es with
  | nil =>
    show (none : Option Fl) = _
    split <;> rfl
  | cons q es ih =>
    unfold keys at hn
    rw [List.map_cons, List.nodup_cons] at hn
    unfold Sx.del
    by_cases hq : q.1 = k
    · rw [if_pos hq]
      by_cases hk : k = n
      · rw [if_pos hk]
        cases hl : Sx.look es n with
        | none => rfl
        | some f =>
          exfalso
          apply hn.1
          rw [hq, hk]
          clear ih hn
          induction es with
          | nil => cases hl
          | cons r es ih =>
            unfold Sx.look at hl
            split at hl
            · rename_i e
              rw [List.map_cons, e]
              exact List.mem_cons_self
            · exact List.mem_cons_of_mem _ (ih hl)
      · rw [if_neg hk]
        unfold Sx.look
        rw [if_neg (fun e => hk (hq.symm.trans e))]
        cases es <;> rfl
    · rw [if_neg hq]
      unfold Sx.look
      split
      · rename_i e
        rw [if_neg (fun e2 => hq (e.trans e2.symm))]
      · exact ih hn.2
/-- A disk that is alive and whose power lasts. -/
structure Free (d : Dsk) : Prop where
  dead : d.dead = false
  cut : d.cut ≤ 0
  nodup : (keys d.es).Nodup
theorem isE_ok {d : Dsk} {n : ByteArray} {f : Fl} (h : Free d) (hf : Sx.look d.es n = some f) : d.isE n = 0 ∧ d.file n = f := by
  unfold Dsk.isE Dsk.file
  rw [h.dead, hf]
  exact ⟨rfl, rfl⟩
theorem del_ok {d : Dsk} {n : ByteArray} {f : Fl} (h : Free d) (hf : Sx.look d.es n = some f) : d.delete n = (0, { d with es := Sx.del d.es n }) := by
  unfold Dsk.delete
  rw [if_pos (isE_ok h hf).1]
  have : Dsk.done { d with es := Sx.del d.es n } = { d with es := Sx.del d.es n } := done_free h.cut
  rw [this]
theorem sync_ok {d : Dsk} {n : ByteArray} {f : Fl} (h : Free d) (hf : Sx.look d.es n = some f) : d.sync n = (0, { d with es := Sx.put d.es n ⟨f.b, f.b.length⟩ }) := by
  unfold Dsk.sync
  rw [if_pos (isE_ok h hf).1, (isE_ok h hf).2]
  have : Dsk.done { d with es := Sx.put d.es n ⟨f.b, f.b.length⟩ } = { d with es := Sx.put d.es n ⟨f.b, f.b.length⟩ } := done_free h.cut
  rw [this]
theorem keys_del (es : List (ByteArray × Fl)) (n : ByteArray) : (keys (Sx.del es n)).Sublist (keys es) := by
  induction es with
  | nil => exact List.Sublist.refl _
  | cons q es ih =>
    unfold Sx.del
    split
    · exact List.sublist_cons_self _ _
    · exact ih.cons_cons _
theorem Free.del {d : Dsk} (h : Free d) (n : ByteArray) : Free { d with es := Sx.del d.es n } := ⟨h.dead, h.cut, (keys_del d.es n).nodup h.nodup⟩
theorem Free.sync {d : Dsk} {n : ByteArray} {f f' : Fl} (h : Free d) (hf : Sx.look d.es n = some f) : Free { d with es := Sx.put d.es n f' } := by
  refine ⟨h.dead, h.cut, ?_⟩
  have hm : n ∈ keys d.es := by
    have hl := hf
    clear h hf
    revert hl
    generalize d.es = es
    intro hl
    induction es with
    | nil => cases hl
    | cons r es ih =>
      unfold Sx.look at hl
      unfold keys
      rw [List.map_cons]
      split at hl
      · rename_i e
        rw [e]
        exact List.mem_cons_self
      · exact List.mem_cons_of_mem _ (ih hl)
  show (keys (Sx.put d.es n f')).Nodup
  rw [put_keys hm]
  exact h.nodup
theorem delM2_ok (m : List UInt8) (fs : List ByteArray) : ∀ (ss : List (List UInt8)) (d : Dsk), Free d → ss.Nodup → (∀ s ∈ ss, ∃ f, Sx.look d.es (bs s) = some f) →
    ∃ d', delM2 m fs d ss = (0, d') ∧ Free d' ∧ d'.room = d.room ∧ (∀ n, (∃ s ∈ ss, bs s = n) → mine m fs n → Sx.look d'.es n = none) ∧ (∀ n, (¬ mine m fs n ∨ ¬ ∃ s ∈ ss, bs s = n) → Sx.look d'.es n = Sx.look d.es n)
  | [], d, h, _, _ => ⟨d, rfl, h, rfl, fun n ⟨s, hs, _⟩ => absurd hs List.not_mem_nil, fun _ _ => rfl⟩
  | s :: ss, d, h, hn, hk => by
    rw [List.nodup_cons] at hn
    obtain ⟨f, hf⟩ := hk s List.mem_cons_self
    unfold delM2
    by_cases hm : mine m fs (bs s)
    · rw [if_pos hm, del_ok h hf, if_pos rfl]
      obtain ⟨d', h1, h2, h3, h4, h5⟩ := delM2_ok m fs ss { d with es := Sx.del d.es (bs s) } (h.del _) hn.2 (fun t ht => by
        obtain ⟨f', hf'⟩ := hk t (List.mem_cons_of_mem _ ht)
        refine ⟨f', ?_⟩
        show Sx.look (Sx.del d.es (bs s)) (bs t) = some f'
        rw [look_del h.nodup, if_neg (fun e => hn.1 (by have e' : s = t := bs_inj e; rw [e']; exact ht))]
        exact hf')
      refine ⟨d', h1, h2, h3, fun n ⟨t, ht, e⟩ hmn => ?_, fun n hnn => ?_⟩
      · rcases List.mem_cons.1 ht with rfl | ht
        · rw [h5 n (.inr (fun ⟨t', ht', e'⟩ => hn.1 (bs_inj (e'.trans e.symm) ▸ ht')))]
          show Sx.look (Sx.del d.es (bs t)) n = none
          rw [look_del h.nodup, if_pos e]
        · exact h4 n ⟨t, ht, e⟩ hmn
      · rw [h5 n (hnn.imp id (fun h9 ⟨t, ht, e⟩ => h9 ⟨t, List.mem_cons_of_mem _ ht, e⟩))]
        show Sx.look (Sx.del d.es (bs s)) n = Sx.look d.es n
        rw [look_del h.nodup, if_neg]
        intro e
        rcases hnn with h9 | h9
        · exact h9 (e ▸ hm)
        · exact h9 ⟨s, List.mem_cons_self, e⟩
    · rw [if_neg hm]
      obtain ⟨d', h1, h2, h3, h4, h5⟩ := delM2_ok m fs ss d h hn.2 (fun t ht => hk t (List.mem_cons_of_mem _ ht))
      refine ⟨d', h1, h2, h3, fun n ⟨t, ht, e⟩ hmn => ?_, fun n hnn => h5 n (hnn.imp id (fun h9 ⟨t, ht, e⟩ => h9 ⟨t, List.mem_cons_of_mem _ ht, e⟩))⟩
      rcases List.mem_cons.1 ht with rfl | ht
      · exact absurd (e ▸ hmn) hm
      · exact h4 n ⟨t, ht, e⟩ hmn
end Wa
end Go.Proofs.YtfocnbmihcnaoaaGreatDoor
