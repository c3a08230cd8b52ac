/- wire.Reader: what is read within Guard: Text; and NewReader, Left, Err. -/
import Derived.Test.YtoljcnlmockpcaaRead5
namespace Go.Proofs.Ytoljcnlmockpcaa
set_option maxRecDepth 100000
namespace Wire
open Go Go.RowKit Sx
theorem rdU_le {most : Nat} : ∀ {l : List UInt8} {i n m : Nat} {l' : List UInt8}, rdU most i n l = some (m, l') → m ≤ most ∧ l'.length ≤ l.length
  | [], i, n, m, l', h => by simp [rdU] at h
  | x :: l, i, n, m, l', h => by
    rw [rdU] at h
    split at h
    · cases h
    split at h
    · have := rdU_le h
      exact ⟨this.1, Nat.le_succ_of_le this.2⟩
    split at h
    · cases h
    split at h
    · cases h
    · cases h
      exact ⟨by omega, Nat.le_succ _⟩
attribute [local irreducible] W Lst Qst Pu seqQ blkQ rndQ cutQ retQ Does Enters IntKind.wrap bits sb World.alloc World.putObj Blk
theorem c_TextF (b most ra rm rs : Nat) (l : List UInt8) (w : World) (hmost : most < 281474976710656) (hll : l.length < 9223372036854775808) (hra : Blk w ra [.pointer (some ⟨b, 0, none⟩)] 87) (hrm : Blk w rm [.int .i64 (most : Int)] 3) (hrs : Blk w rs [.string ⟨#[]⟩] 9) (h : RdAt w b l 0) :
    Tries Try.prog 65 #[.pointer (some ⟨ra, 0, none⟩), .pointer (some ⟨rm, 0, none⟩), .pointer (some ⟨rs, 0, none⟩)] w
      (fun _ w' => (∃ n l', rdU most 0 0 l = some (n, l') ∧ n ≤ l'.length ∧ Blk w' rs [.string ⟨(l'.take n).toArray⟩] 9 ∧ RdAt w' b (l'.drop n) 0) ∧ Chg [b, rs] w w')
      (fun v w' => mText most (some l) = ([], none) ∧ (∃ e : Int, v = badV e ∧ e ≠ 0) ∧ Chg [b] w w' ∧ ∃ x c y, Blk w' b [.slice x c y, .int .i64 0] 109) := by
  refine Tries_of (args := [.pointer (some ⟨ra, 0, none⟩), .pointer (some ⟨rm, 0, none⟩), .pointer (some ⟨rs, 0, none⟩)]) Try.func65 (by kernel_rfl) rfl rfl rfl rfl rfl ?_
  have hne : rs ≠ b := by
    rintro rfl
    obtain ⟨a, c, hb, _, _⟩ := h
    have := Blk.inj hb hrs
    simp at this
  have hne2 : ra ≠ b := by
    rintro rfl
    obtain ⟨a, c, hb, _, _⟩ := h
    have := Blk.inj hb hra
    simp at this
  have hmx : IntKind.u64.wrap (max (most : Int) 0) = (most : Int) := by
    rw [show max (most : Int) 0 = (most : Int) by omega]
    exact wu64 (by omega) (by omega)
  (refine Ga ?_)
  apply Lst_callF
  focus rfl
  focus rfl
  refine (c_uint b most l w h).mono ?_ ?_
  · rintro v w1 ⟨n, l', hr, hn, rfl, hrd, hc⟩
    have hle := rdU_le hr
    have hra1 := hc.blk hra (by simpa using hne2)
    have hrs1 := hc.blk hrs (by simpa using hne)
    obtain ⟨a1, c1, hb1, hi1, hc1⟩ := id hrd
    by_cases hnl : l'.length < n
    · (refine Ga ?_)
      apply Lst_callF
      focus rfl
      focus rfl
      refine (c_Fail 10 (by decide) _).mono (fun v w' h => h.elim) ?_
      rintro v w' ⟨rfl, rfl⟩
      repeat (first | apply seqQ_f | apply blkQ_f)
      refine retF_p ⟨?_, ⟨_, rfl, by decide⟩, hc, _, _, _, hb1⟩
      show (match rdU most 0 0 l with | some (n, l) => if n ≤ l.length then (l.take n, some (l.drop n)) else ([], none) | none => ([], none)) = _
      rw [hr]
      exact if_neg (by omega)
    · (refine Ga ?_)
      apply Lst_callF
      focus rfl
      focus rfl
      refine (c_take b n l' (by omega) w1 hrd).mono ?_ ?_
      · rintro v w2 ⟨_, ⟨a2, rfl, hi2⟩, hrd2, hc2⟩
        have hrs2 := hc2.blk hrs1 (by simpa using hne)
        have hlt2 := hrs2.lt
        apply Lst_bytesI
        focus rfl
        focus exact hi2
        focus rfl
        focus rfl
        focus rfl
        focus rfl
        (refine Ga ?_)
        apply retF_n
        have hc3 : Chg [rs] w2 (w2.putObj rs (.cells [.string ⟨(l'.take n).toArray⟩].toArray 9)) := (Chg.refl _ _).put (by simp) _
        refine retQ0n ⟨⟨n, l', hr, by omega, Blk.put_same hlt2 _ _, hrd2.chg hc3 (by simpa using hne.symm) ?_⟩, ((hc.trans hc2).mono (by simp)).put (by simp) _⟩
        intro g hg
        obtain rfl : g = rs := by simpa using hg
        intro off z
        rw [hrs2.cell off]
        rcases off with _ | off <;> simp
      · rintro v w2 ⟨hlt, _⟩
        omega
  · rintro v w1 ⟨hr, he, hc, hB⟩
    repeat (first | apply seqQ_f | apply blkQ_f)
    refine retF_p ⟨?_, he, hc, hB⟩
    show (match rdU most 0 0 l with | some (n, l) => if n ≤ l.length then (l.take n, some (l.drop n)) else ([], none) | none => ([], none)) = _
    rw [hr]
theorem c_RText (b most : Nat) (s : Option (List UInt8)) (w : World) (hmost : most < 281474976710656) (hll : ∀ l, s = some l → l.length < 9223372036854775808) (h : RS w b s) : Does Try.prog 48 #[.pointer (some ⟨b, 0, none⟩), .int .i64 (most : Int)] w fun v w' => v = .string ⟨(mText most s).1.toArray⟩ ∧ RS w' b (mText most s).2 ∧ Chg [b] w w' := by
  refine Does_of (args := [.pointer (some ⟨b, 0, none⟩), .int .i64 (most : Int)]) Try.func48 (by kernel_rfl) rfl rfl rfl rfl rfl ?_
  obtain ⟨l, e, hrd, rfl⟩ := h.rd
  obtain ⟨a, c, hb, hi, hc⟩ := id hrd
  have hlt := hb.lt
  (refine Ga ?_)
  have hst1 : ((((w.alloc (.cells [.pointer (some ⟨b, 0, none⟩)].toArray 87)).alloc (.cells [.int .i64 (most : Int)].toArray 3)).alloc (.cells [.string ⟨#[]⟩].toArray 9)).putObj (w.heap.size + 1 + 1) (.cells [.string ⟨#[]⟩].toArray 9)).heap.size = w.heap.size + 3 := by simp only [Sx.sizes]
  have hch : Chg [b] w ((((w.alloc (.cells [.pointer (some ⟨b, 0, none⟩)].toArray 87)).alloc (.cells [.int .i64 (most : Int)].toArray 3)).alloc (.cells [.string ⟨#[]⟩].toArray 9)).putObj (w.heap.size + 1 + 1) (.cells [.string ⟨#[]⟩].toArray 9)) := ((((Chg.refl _ _).alloc _).alloc _).alloc _).put (.inr (by omega)) _
  have hra : Blk ((((w.alloc (.cells [.pointer (some ⟨b, 0, none⟩)].toArray 87)).alloc (.cells [.int .i64 (most : Int)].toArray 3)).alloc (.cells [.string ⟨#[]⟩].toArray 9)).putObj (w.heap.size + 1 + 1) (.cells [.string ⟨#[]⟩].toArray 9)) w.heap.size [.pointer (some ⟨b, 0, none⟩)] 87 := (by (repeat (first | assumption | (apply Blk.below (hb := hb1); rotate_left; (focus ((try simp only [Sx.sizes]); omega)); rotate_right) | (apply Blk.below (hb := hb2); rotate_left; (focus ((try simp only [Sx.sizes]); omega)); rotate_right) | (apply Blk.below (hb := hb3); rotate_left; (focus ((try simp only [Sx.sizes]); omega)); rotate_right) | (apply Blk.below (hb := hb4); rotate_left; (focus ((try simp only [Sx.sizes]); omega)); rotate_right) | (apply Blk.below (hb := hb5); rotate_left; (focus ((try simp only [Sx.sizes]); omega)); rotate_right) | (apply Blk.below (hb := hb6); rotate_left; (focus ((try simp only [Sx.sizes]); omega)); rotate_right) | (apply Blk.below (hb := hb7); rotate_left; (focus ((try simp only [Sx.sizes]); omega)); rotate_right) | (apply Blk.below (hb := hb8); rotate_left; (focus ((try simp only [Sx.sizes]); omega)); rotate_right) | (apply Blk.below (hb := hb9); rotate_left; (focus ((try simp only [Sx.sizes]); omega)); rotate_right) | exact Blk.newE (by first | rfl | ((try simp only [Sx.sizes]); first | done | omega)) _ _ | exact Blk.put_same (by (try simp only [Sx.sizes]); first | done | omega) _ _ | (apply Blk.put_ne; (focus omega)) | apply Blk.alloc | apply Blk.drew)); done)
  have hrm : Blk ((((w.alloc (.cells [.pointer (some ⟨b, 0, none⟩)].toArray 87)).alloc (.cells [.int .i64 (most : Int)].toArray 3)).alloc (.cells [.string ⟨#[]⟩].toArray 9)).putObj (w.heap.size + 1 + 1) (.cells [.string ⟨#[]⟩].toArray 9)) (w.heap.size + 1) [.int .i64 (most : Int)] 3 := (by (repeat (first | assumption | (apply Blk.below (hb := hb1); rotate_left; (focus ((try simp only [Sx.sizes]); omega)); rotate_right) | (apply Blk.below (hb := hb2); rotate_left; (focus ((try simp only [Sx.sizes]); omega)); rotate_right) | (apply Blk.below (hb := hb3); rotate_left; (focus ((try simp only [Sx.sizes]); omega)); rotate_right) | (apply Blk.below (hb := hb4); rotate_left; (focus ((try simp only [Sx.sizes]); omega)); rotate_right) | (apply Blk.below (hb := hb5); rotate_left; (focus ((try simp only [Sx.sizes]); omega)); rotate_right) | (apply Blk.below (hb := hb6); rotate_left; (focus ((try simp only [Sx.sizes]); omega)); rotate_right) | (apply Blk.below (hb := hb7); rotate_left; (focus ((try simp only [Sx.sizes]); omega)); rotate_right) | (apply Blk.below (hb := hb8); rotate_left; (focus ((try simp only [Sx.sizes]); omega)); rotate_right) | (apply Blk.below (hb := hb9); rotate_left; (focus ((try simp only [Sx.sizes]); omega)); rotate_right) | exact Blk.newE (by first | rfl | ((try simp only [Sx.sizes]); first | done | omega)) _ _ | exact Blk.put_same (by (try simp only [Sx.sizes]); first | done | omega) _ _ | (apply Blk.put_ne; (focus omega)) | apply Blk.alloc | apply Blk.drew)); done)
  have hrs : Blk ((((w.alloc (.cells [.pointer (some ⟨b, 0, none⟩)].toArray 87)).alloc (.cells [.int .i64 (most : Int)].toArray 3)).alloc (.cells [.string ⟨#[]⟩].toArray 9)).putObj (w.heap.size + 1 + 1) (.cells [.string ⟨#[]⟩].toArray 9)) (w.heap.size + 1 + 1) [.string ⟨#[]⟩] 9 := (by (repeat (first | assumption | (apply Blk.below (hb := hb1); rotate_left; (focus ((try simp only [Sx.sizes]); omega)); rotate_right) | (apply Blk.below (hb := hb2); rotate_left; (focus ((try simp only [Sx.sizes]); omega)); rotate_right) | (apply Blk.below (hb := hb3); rotate_left; (focus ((try simp only [Sx.sizes]); omega)); rotate_right) | (apply Blk.below (hb := hb4); rotate_left; (focus ((try simp only [Sx.sizes]); omega)); rotate_right) | (apply Blk.below (hb := hb5); rotate_left; (focus ((try simp only [Sx.sizes]); omega)); rotate_right) | (apply Blk.below (hb := hb6); rotate_left; (focus ((try simp only [Sx.sizes]); omega)); rotate_right) | (apply Blk.below (hb := hb7); rotate_left; (focus ((try simp only [Sx.sizes]); omega)); rotate_right) | (apply Blk.below (hb := hb8); rotate_left; (focus ((try simp only [Sx.sizes]); omega)); rotate_right) | (apply Blk.below (hb := hb9); rotate_left; (focus ((try simp only [Sx.sizes]); omega)); rotate_right) | exact Blk.newE (by first | rfl | ((try simp only [Sx.sizes]); first | done | omega)) _ _ | exact Blk.put_same (by (try simp only [Sx.sizes]); first | done | omega) _ _ | (apply Blk.put_ne; (focus omega)) | apply Blk.alloc | apply Blk.drew)); done)
  have hb1 : Blk ((((w.alloc (.cells [.pointer (some ⟨b, 0, none⟩)].toArray 87)).alloc (.cells [.int .i64 (most : Int)].toArray 3)).alloc (.cells [.string ⟨#[]⟩].toArray 9)).putObj (w.heap.size + 1 + 1) (.cells [.string ⟨#[]⟩].toArray 9)) b [.slice a l.length c, .int .i64 e] 109 := (by (repeat (first | assumption | (apply Blk.below (hb := hb1); rotate_left; (focus ((try simp only [Sx.sizes]); omega)); rotate_right) | (apply Blk.below (hb := hb2); rotate_left; (focus ((try simp only [Sx.sizes]); omega)); rotate_right) | (apply Blk.below (hb := hb3); rotate_left; (focus ((try simp only [Sx.sizes]); omega)); rotate_right) | (apply Blk.below (hb := hb4); rotate_left; (focus ((try simp only [Sx.sizes]); omega)); rotate_right) | (apply Blk.below (hb := hb5); rotate_left; (focus ((try simp only [Sx.sizes]); omega)); rotate_right) | (apply Blk.below (hb := hb6); rotate_left; (focus ((try simp only [Sx.sizes]); omega)); rotate_right) | (apply Blk.below (hb := hb7); rotate_left; (focus ((try simp only [Sx.sizes]); omega)); rotate_right) | (apply Blk.below (hb := hb8); rotate_left; (focus ((try simp only [Sx.sizes]); omega)); rotate_right) | (apply Blk.below (hb := hb9); rotate_left; (focus ((try simp only [Sx.sizes]); omega)); rotate_right) | exact Blk.newE (by first | rfl | ((try simp only [Sx.sizes]); first | done | omega)) _ _ | exact Blk.put_same (by (try simp only [Sx.sizes]); first | done | omega) _ _ | (apply Blk.put_ne; (focus omega)) | apply Blk.alloc | apply Blk.drew)); done)
  generalize ((((w.alloc (.cells [.pointer (some ⟨b, 0, none⟩)].toArray 87)).alloc (.cells [.int .i64 (most : Int)].toArray 3)).alloc (.cells [.string ⟨#[]⟩].toArray 9)).putObj (w.heap.size + 1 + 1) (.cells [.string ⟨#[]⟩].toArray 9)) = W at *
  have hrd1 : RdAt W b l e := ⟨a, c, hb1, Ints.chgb hi hb hch, hc⟩
  (apply Lst_call; (focus rfl); (focus rfl))
  refine (c_Guard b l.length c a e 65 [.pointer (some ⟨w.heap.size, 0, none⟩), .pointer (some ⟨w.heap.size + 1, 0, none⟩), .pointer (some ⟨w.heap.size + 1 + 1, 0, none⟩)] [w.heap.size + 1 + 1] W hb1 (by simp; omega)
    (fun w' => ∃ n l', rdU most 0 0 l = some (n, l') ∧ n ≤ l'.length ∧ Blk w' (w.heap.size + 1 + 1) [.string ⟨(l'.take n).toArray⟩] 9 ∧ RdAt w' b (l'.drop n) 0) (mText most (some l) = ([], none)) ?_ ?_).mono ?_
  · rintro w1 w2 ⟨n, l', hr, hn, hB, hR⟩ hc he
    refine ⟨n, l', hr, hn, hc.blk hB (by simp; omega), hR.chg hc (by simp; omega) ?_⟩
    intro g hg
    obtain rfl : g = W.heap.size := by simpa using hg
    exact N8.int he (by decide)
  · rintro rfl
    have hbel : Below W.heap.size W (W.alloc (.cells [.int .i64 0].toArray 29)) := (Below.refl _ _).alloc (Nat.le_refl _) _
    exact c_TextF b most w.heap.size (w.heap.size + 1) (w.heap.size + 1 + 1) l _ hmost (hll l rfl) (hra.below hbel hra.lt) (hrm.below hbel hrm.lt) (hrs.below hbel hrs.lt) (hrd1.below hbel (Nat.le_refl _))
  · rintro v w' ⟨hc2, hor⟩
    have hcc : Chg [b] w w' := Chg.over hch (by simp; omega) hc2
    rcases hor with ⟨rfl, rfl, n, l', hr, hn, hB, hR⟩ | ⟨rfl, hK, hc3, e', he', hB⟩
    · have hm : mText most (if (0 : Int) = 0 then some l else none) = (l'.take n, some (l'.drop n)) := by
        rw [if_pos rfl]
        show (match rdU most 0 0 l with | some (n, l) => if n ≤ l.length then (l.take n, some (l.drop n)) else ([], none) | none => ([], none)) = _
        rw [hr]
        exact if_pos hn
      rw [hm]
      (refine Ga ?_)
      (apply retQ1; (focus rfl))
      exact ⟨rfl, hR, hcc⟩
    · have hrs3 := hc3.blk hrs (by simp; omega)
      have hm : mText most (if e = 0 then some l else none) = ([], none) := by
        by_cases he : e = 0
        · rw [if_pos he]
          exact hK he
        · rw [if_neg he]
          rfl
      rw [hm]
      (refine Ga ?_)
      (apply retQ1; (focus rfl))
      exact ⟨rfl, ⟨l, e', he', a, c, hB, Ints.chgb hi hb hcc, hc⟩, hcc⟩
/-- NewReader: a reader of bytes. -/
theorem c_NewReader (v : Value) (l : List UInt8) (hl : l.length ≤ 1000000) (w : World) (h : Ints w .u8 v (nums l)) : Does Try.prog 44 #[v] w fun v w' => ∃ b, v = .pointer (some ⟨b, 0, none⟩) ∧ w.heap.size ≤ b ∧ RdAt w' b l 0 ∧ Below w.heap.size w w' := by
  refine Does_of (args := [v]) Try.func44 (by kernel_rfl) rfl rfl rfl rfl rfl ?_
  (refine Ga ?_)
  (apply Lst_call; (focus rfl); (focus rfl))
  refine (c_CloneC v l hl w h).mono ?_
  rintro v w1 ⟨⟨hi, hb1⟩, a, c, rfl, hc⟩
  have hs := hb1.size
  (refine Ga ?_)
  (apply retQ1; (focus rfl))
  refine ⟨w1.heap.size, rfl, hs, ⟨a, c, (by (repeat (first | assumption | (apply Blk.below (hb := hb1); rotate_left; (focus ((try simp only [Sx.sizes]); omega)); rotate_right) | (apply Blk.below (hb := hb2); rotate_left; (focus ((try simp only [Sx.sizes]); omega)); rotate_right) | (apply Blk.below (hb := hb3); rotate_left; (focus ((try simp only [Sx.sizes]); omega)); rotate_right) | (apply Blk.below (hb := hb4); rotate_left; (focus ((try simp only [Sx.sizes]); omega)); rotate_right) | (apply Blk.below (hb := hb5); rotate_left; (focus ((try simp only [Sx.sizes]); omega)); rotate_right) | (apply Blk.below (hb := hb6); rotate_left; (focus ((try simp only [Sx.sizes]); omega)); rotate_right) | (apply Blk.below (hb := hb7); rotate_left; (focus ((try simp only [Sx.sizes]); omega)); rotate_right) | (apply Blk.below (hb := hb8); rotate_left; (focus ((try simp only [Sx.sizes]); omega)); rotate_right) | (apply Blk.below (hb := hb9); rotate_left; (focus ((try simp only [Sx.sizes]); omega)); rotate_right) | exact Blk.newE (by first | rfl | ((try simp only [Sx.sizes]); first | done | omega)) _ _ | exact Blk.put_same (by (try simp only [Sx.sizes]); first | done | omega) _ _ | (apply Blk.put_ne; (focus omega)) | apply Blk.alloc | apply Blk.drew)); done), ?_, hc, fun hl x he => ?_⟩, Bel⟩
  rotate_left
  · obtain ⟨b', off, hb', hcell⟩ := Sx.Ints.at hi (j := 0) (by have := List.length_pos_iff.2 hl; omega)
    rw [he] at hb'
    cases hb'
    unfold World.cell? at hcell
    rcases Nat.lt_or_ge b' w1.heap.size with h | h
    · exact h
    · rw [Array.getElem?_eq_none h] at hcell
      cases hcell
  exact Ints.below hi ((Below.refl w1.heap.size w1).alloc (Nat.le_refl _) _) (Nat.le_refl _)
theorem c_Left (b : Nat) (l : List UInt8) (e : Int) (w : World) (h : RdAt w b l e) : Does Try.prog 49 #[.pointer (some ⟨b, 0, none⟩)] w fun v w' => v = .int .i64 (l.length : Int) ∧ w = w' := by
  refine Does_of (args := [.pointer (some ⟨b, 0, none⟩)]) Try.func49 (by kernel_rfl) rfl rfl rfl rfl rfl ?_
  obtain ⟨a, c, hb, hi, hc⟩ := h
  have hlt := hb.lt
  (refine Ga ?_)
  (apply retQ1; (focus rfl))
  exact ⟨rfl, rfl⟩
theorem c_Err (b : Nat) (l : List UInt8) (e : Int) (w : World) (h : RdAt w b l e) : Does Try.prog 46 #[.pointer (some ⟨b, 0, none⟩)] w fun v w' => v = .int .i64 e ∧ w = w' := by
  refine Does_of (args := [.pointer (some ⟨b, 0, none⟩)]) Try.func46 (by kernel_rfl) rfl rfl rfl rfl rfl ?_
  obtain ⟨a, c, hb, hi, hc⟩ := h
  have hlt := hb.lt
  (refine Ga ?_)
  (apply retQ1; (focus rfl))
  exact ⟨rfl, rfl⟩
end Wire
end Go.Proofs.Ytoljcnlmockpcaa
