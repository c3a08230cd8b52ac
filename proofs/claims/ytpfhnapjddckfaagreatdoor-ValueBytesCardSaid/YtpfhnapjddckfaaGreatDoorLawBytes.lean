/- ValueBytes: a value's bytes are the document's, and are read back. -/
import Derived.Test.YtpfhnapjddckfaaGreatDoorVRead
import Derived.Test.YtpfhnapjddckfaaGreatDoorVRefW
import Derived.Test.YtpfhnapjddckfaaGreatDoorAdds
import Derived.Test.YtpfhnapjddckfaaGreatDoorSxDrawR
namespace Go.Proofs.YtpfhnapjddckfaaGreatDoor
set_option maxRecDepth 100000
namespace Val
open Go Go.RowKit Sx Fl Hex Wire
theorem wireV_le (x : Vl) (hs : x.s.size ≤ 6000) (h0 : -9223372036854775808 ≤ x.n) (h1 : x.n < 9223372036854775808) : (wireV x).length ≤ 7000 := by
  have hz := Lib.uvarint_length64 (zz_lt h0 h1)
  have hu := Lib.uvarint_length64 (show x.s.size < 18446744073709551616 by omega)
  have hf := fixN_length 8 (nbits x.f)
  have hsz : x.s.data.toList.length = x.s.size := Array.length_toList
  unfold wireV
  rw [List.length_cons]
  split
  · simp
  split
  · omega
  split
  · omega
  split
  · rw [List.length_append]; omega
  · simp
attribute [local irreducible] W Lst Qst Pu seqQ blkQ rndQ cutQ retQ Does Enters IntKind.wrap bits sb World.alloc World.putObj Blk
theorem law_ValueBytes (x : Vl) (hx : x.Bd) (v : Value) (l : List UInt8) (w : World) (hi : Ints w .u8 v (nums l)) (hT : VTabs w) : Does Tryz.prog 3 #[x.v, v] w fun v w' => v = .bool true ∧ Below w.heap.size w w' := by
  have l1 := fun A => c_light x A
  have a2 := fun A => r_Check x A
  have a3 := fun A => r_Clean x A
  have hwl := fun hs => wireV_le x hs hx.2.1.1 hx.2.1.2
  have m1 := fun hok hs A b hb => c_Write b x hok (hx.fit hs) hs A hb
  have m2 := fun hok hs A => r_Write x hok (hx.fit hs) A
  have m3 := fun b hok hs more hm w0 A hT h0 hb h => c_VRead b x hok (hx.fit hs) more hm w0 A hT h0 hb h
  have m4 := fun A => c_bits (readV x) A
  have hrc : (if x.k = 3 then cleanV x else x) = readV x := rfl
  rw [hrc] at a3
  obtain ⟨v1, v2, rfl⟩ := hi.form
  have hl : (nums l).length = l.length := nums_length l
  rw [hl] at hi ⊢
  generalize hrx : readV x = rx at *
  generalize hwx : wireV x = wx at *
  obtain ⟨k, n, f, s⟩ := x
  obtain ⟨k', n', f', s'⟩ := rx
  dsimp only at l1 m1 m2 m3 m4 a3
  clear hrc
  refine Does_of (args := [.agg #[.int .i64 k, .int .i64 n, .float .f64 f, .string s], .slice v1 l.length v2]) Tryz.func3 (by kernel_rfl) rfl rfl rfl rfl rfl ?_
  (refine Ga ?_)
  (apply Lst_call; (focus rfl); (focus rfl))
  refine (c_known _ (hT.below Bel)).mono ?_
  rintro v w1 ⟨rfl, hb1⟩
  have b1 := Sx.Below.after (w := w) Bel hb1
  have s1 := hb1.size
  try simp only [Sx.sizes] at s1
  (refine Ga ?_)
  (apply Lst_call; (focus rfl); (focus rfl))
  refine (l1 _).mono ?_
  rintro v w2 ⟨rfl, hb2⟩
  have b2 := Sx.Below.after (w := w) Bel hb2
  have s2 := hb2.size
  try simp only [Sx.sizes] at s2
  by_cases h1 : s.size ≤ 6000
  · rw [decide_eq_true h1]
    by_cases h2 : l.length ≤ 1000
    · (refine Ga ?_)
      (apply Lst_call; (focus rfl); (focus rfl))
      refine (a2 _).mono ?_
      rintro v w3 ⟨rfl, hb3⟩
      have b3 := Sx.Below.after (w := w) Bel hb3
      have s3 := hb3.size
      try simp only [Sx.sizes] at s3
      by_cases o1 : okV ⟨k, n, f, s⟩ = true
      · rw [if_pos o1]
        have m1 := m1 o1 h1
        have m2 := m2 o1 h1
        have m3 := fun b => m3 b o1 h1
        have hwl := hwl h1
        clear l1 a2
        (refine Ga ?_)
        have hX0 : Below w.heap.size w (w3.alloc (.cells [.slice none 0 0].toArray 30)) := Bel
        have hXv : Blk (w3.alloc (.cells [.slice none 0 0].toArray 30)) w.heap.size [.int .i64 k, .int .i64 n, .float .f64 f, .string s] 24 := (by (repeat (first | assumption | (apply Blk.below (hb := hb1); rotate_left; (focus ((try simp only [Sx.sizes]); omega)); rotate_right) | (apply Blk.below (hb := hb2); rotate_left; (focus ((try simp only [Sx.sizes]); omega)); rotate_right) | (apply Blk.below (hb := hb3); rotate_left; (focus ((try simp only [Sx.sizes]); omega)); rotate_right) | (apply Blk.below (hb := hb4); rotate_left; (focus ((try simp only [Sx.sizes]); omega)); rotate_right) | (apply Blk.below (hb := hb5); rotate_left; (focus ((try simp only [Sx.sizes]); omega)); rotate_right) | (apply Blk.below (hb := hb6); rotate_left; (focus ((try simp only [Sx.sizes]); omega)); rotate_right) | (apply Blk.below (hb := hb7); rotate_left; (focus ((try simp only [Sx.sizes]); omega)); rotate_right) | (apply Blk.below (hb := hb8); rotate_left; (focus ((try simp only [Sx.sizes]); omega)); rotate_right) | (apply Blk.below (hb := hb9); rotate_left; (focus ((try simp only [Sx.sizes]); omega)); rotate_right) | exact Blk.newE (by first | rfl | ((try simp only [Sx.sizes]); first | done | omega)) _ _ | exact Blk.put_same (by (try simp only [Sx.sizes]); first | done | omega) _ _ | (apply Blk.put_ne; (focus omega)) | apply Blk.alloc | apply Blk.drew)); done)
        have hXw : Blk (w3.alloc (.cells [.slice none 0 0].toArray 30)) w3.heap.size [.slice none 0 0] 30 := (by (repeat (first | assumption | (apply Blk.below (hb := hb1); rotate_left; (focus ((try simp only [Sx.sizes]); omega)); rotate_right) | (apply Blk.below (hb := hb2); rotate_left; (focus ((try simp only [Sx.sizes]); omega)); rotate_right) | (apply Blk.below (hb := hb3); rotate_left; (focus ((try simp only [Sx.sizes]); omega)); rotate_right) | (apply Blk.below (hb := hb4); rotate_left; (focus ((try simp only [Sx.sizes]); omega)); rotate_right) | (apply Blk.below (hb := hb5); rotate_left; (focus ((try simp only [Sx.sizes]); omega)); rotate_right) | (apply Blk.below (hb := hb6); rotate_left; (focus ((try simp only [Sx.sizes]); omega)); rotate_right) | (apply Blk.below (hb := hb7); rotate_left; (focus ((try simp only [Sx.sizes]); omega)); rotate_right) | (apply Blk.below (hb := hb8); rotate_left; (focus ((try simp only [Sx.sizes]); omega)); rotate_right) | (apply Blk.below (hb := hb9); rotate_left; (focus ((try simp only [Sx.sizes]); omega)); rotate_right) | exact Blk.newE (by first | rfl | ((try simp only [Sx.sizes]); first | done | omega)) _ _ | exact Blk.put_same (by (try simp only [Sx.sizes]); first | done | omega) _ _ | (apply Blk.put_ne; (focus omega)) | apply Blk.alloc | apply Blk.drew)); done)
        have hXs : (w3.alloc (.cells [.slice none 0 0].toArray 30)).heap.size = w3.heap.size + 1 := by simp only [Sx.sizes]
        have hNs : w.heap.size < w3.heap.size := by omega
        generalize (w3.alloc (.cells [.slice none 0 0].toArray 30)) = X at *
        generalize w3.heap.size = N at *
        clear hb1 b1 s1 hb2 b2 s2 hb3 b3 s3
        (apply Lst_call; (focus rfl); (focus rfl))
        refine (m1 X N hXw).mono ?_
        rintro v ww ⟨rfl, hw4, off4⟩
        have kv4 := Off.blk off4 hXv (by omega) (by omega)
        have b4 : Below w.heap.size w ww := hX0.trans (off4.below (by omega) (by omega))
        have s4 := off4.size
        clear hX0 hXv hXw off4
        (refine Ga ?_)
        (apply Lst_call; (focus rfl); (focus rfl))
        refine (c_WBytes N _ wx (by omega) ww hw4).mono ?_
        rintro v w5 ⟨hi5, hb5⟩
        obtain ⟨u1, u2, rfl⟩ := hi5.form
        have b5 := Sx.Below.after b4 hb5
        have kv5 := kv4.below hb5 kv4.lt
        have s5 := hb5.size
        clear b4 kv4 hb5 hw4
        (refine Ga ?_)
        (apply Lst_call; (focus rfl); (focus rfl))
        refine (m2 w5).mono ?_
        rintro v w6 ⟨hi6, hb6⟩
        obtain ⟨u3, u4, rfl⟩ := hi6.form
        have b6 := Sx.Below.after b5 hb6
        have kv6 := kv5.below hb6 kv5.lt
        have s6 := hb6.size
        have hi56 := Ints.below hi5 hb6 (Nat.le_refl _)
        clear b5 kv5 hb6 hi5
        (refine Ga ?_)
        (apply Lst_call; (focus rfl); (focus rfl))
        refine (h_Bytes _ _ wx wx w6 hi56 hi6).mono ?_
        rintro v w' ⟨rfl, rfl⟩
        rw [decide_eq_true rfl]
        clear hi6
        (refine Ga ?_)
        (apply Lst_call; (focus rfl); (focus rfl))
        refine (h_Copy _ wx (by omega) w6 hi56).mono ?_
        rintro v w7 ⟨ho7, hb7⟩
        obtain ⟨u5, u6, u7, rfl⟩ := own_slice ho7
        have b7 := Sx.Below.after b6 hb7
        have kv7 := kv6.below hb7 kv6.lt
        have s7 := hb7.size
        clear hi56
        (refine Ga ?_)
        apply Lst_appendI (hown := ho7) (hy := Ints.below hi b7 (Nat.le_refl _))
        focus rfl
        focus rfl
        focus rfl
        focus rfl
        focus rfl
        focus rfl
        focus rfl
        focus rfl
        focus omega
        focus exact s7
        focus rfl
        intro v' w8 ho8 hg8
        have hb8 := Below.own hb7 ho7 hg8 (Nat.le_refl _) s7
        obtain ⟨u8, u9, u10, rfl⟩ := own_slice ho8
        have b8 := Sx.Below.after b6 hb8
        have kv8 := kv6.below hb8 kv6.lt
        have s8 := hb8.size
        clear b6 kv6 hb7 b7 kv7 ho7 hg8 hb8
        (refine Ga ?_)
        (apply Lst_call; (focus rfl); (focus rfl))
        refine (c_NewReader _ (wx ++ l) (by rw [List.length_append]; omega) w8 (Own8.ints ho8)).mono ?_
        rintro v w9 ⟨b, rfl, hbs, hrd9, hb9⟩
        have b9 := Sx.Below.after b8 hb9
        have kv9 := kv8.below hb9 kv8.lt
        have s9 := hb9.size
        clear b8 kv8 hb9 ho8
        (refine Ga ?_)
        have hbw : w.heap.size ≤ b := by omega
        (apply Lst_call; (focus rfl); (focus rfl))
        refine (m3 b l (by omega) w w9 hT.utf b9 hbw hrd9).mono ?_
        rintro v w10 ⟨rfl, hrd10, hc10⟩
        have b10 := b9.trans (hc10.below (B := w.heap.size) (by simpa using hbw) b9.size)
        have kv10 := hc10.blk kv9 (by simp; omega)
        have s10 := b10.size
        have kl10 := kv10.lt
        clear b9 kv9 hc10 hrd9
        (refine Ga ?_)
        have b11 : Below w.heap.size w ((w10.alloc (.cells [.int .i64 0, .int .i64 0, .float .f64 0, .string ⟨#[]⟩].toArray 24)).putObj w10.heap.size (.cells [.int .i64 k', .int .i64 n', .float .f64 f', .string s'].toArray 24)) := Bel
        have kv11 : Blk ((w10.alloc (.cells [.int .i64 0, .int .i64 0, .float .f64 0, .string ⟨#[]⟩].toArray 24)).putObj w10.heap.size (.cells [.int .i64 k', .int .i64 n', .float .f64 f', .string s'].toArray 24)) w.heap.size [.int .i64 k, .int .i64 n, .float .f64 f, .string s] 24 := (by (repeat (first | assumption | (apply Blk.below (hb := hb1); rotate_left; (focus ((try simp only [Sx.sizes]); omega)); rotate_right) | (apply Blk.below (hb := hb2); rotate_left; (focus ((try simp only [Sx.sizes]); omega)); rotate_right) | (apply Blk.below (hb := hb3); rotate_left; (focus ((try simp only [Sx.sizes]); omega)); rotate_right) | (apply Blk.below (hb := hb4); rotate_left; (focus ((try simp only [Sx.sizes]); omega)); rotate_right) | (apply Blk.below (hb := hb5); rotate_left; (focus ((try simp only [Sx.sizes]); omega)); rotate_right) | (apply Blk.below (hb := hb6); rotate_left; (focus ((try simp only [Sx.sizes]); omega)); rotate_right) | (apply Blk.below (hb := hb7); rotate_left; (focus ((try simp only [Sx.sizes]); omega)); rotate_right) | (apply Blk.below (hb := hb8); rotate_left; (focus ((try simp only [Sx.sizes]); omega)); rotate_right) | (apply Blk.below (hb := hb9); rotate_left; (focus ((try simp only [Sx.sizes]); omega)); rotate_right) | exact Blk.newE (by first | rfl | ((try simp only [Sx.sizes]); first | done | omega)) _ _ | exact Blk.put_same (by (try simp only [Sx.sizes]); first | done | omega) _ _ | (apply Blk.put_ne; (focus omega)) | apply Blk.alloc | apply Blk.drew)); done)
        have kg11 : Blk ((w10.alloc (.cells [.int .i64 0, .int .i64 0, .float .f64 0, .string ⟨#[]⟩].toArray 24)).putObj w10.heap.size (.cells [.int .i64 k', .int .i64 n', .float .f64 f', .string s'].toArray 24)) w10.heap.size [.int .i64 k', .int .i64 n', .float .f64 f', .string s'] 24 := (by (repeat (first | assumption | (apply Blk.below (hb := hb1); rotate_left; (focus ((try simp only [Sx.sizes]); omega)); rotate_right) | (apply Blk.below (hb := hb2); rotate_left; (focus ((try simp only [Sx.sizes]); omega)); rotate_right) | (apply Blk.below (hb := hb3); rotate_left; (focus ((try simp only [Sx.sizes]); omega)); rotate_right) | (apply Blk.below (hb := hb4); rotate_left; (focus ((try simp only [Sx.sizes]); omega)); rotate_right) | (apply Blk.below (hb := hb5); rotate_left; (focus ((try simp only [Sx.sizes]); omega)); rotate_right) | (apply Blk.below (hb := hb6); rotate_left; (focus ((try simp only [Sx.sizes]); omega)); rotate_right) | (apply Blk.below (hb := hb7); rotate_left; (focus ((try simp only [Sx.sizes]); omega)); rotate_right) | (apply Blk.below (hb := hb8); rotate_left; (focus ((try simp only [Sx.sizes]); omega)); rotate_right) | (apply Blk.below (hb := hb9); rotate_left; (focus ((try simp only [Sx.sizes]); omega)); rotate_right) | exact Blk.newE (by first | rfl | ((try simp only [Sx.sizes]); first | done | omega)) _ _ | exact Blk.put_same (by (try simp only [Sx.sizes]); first | done | omega) _ _ | (apply Blk.put_ne; (focus omega)) | apply Blk.alloc | apply Blk.drew)); done)
        have hrd11 : RdAt ((w10.alloc (.cells [.int .i64 0, .int .i64 0, .float .f64 0, .string ⟨#[]⟩].toArray 24)).putObj w10.heap.size (.cells [.int .i64 k', .int .i64 n', .float .f64 f', .string s'].toArray 24)) b l 0 := hrd10.below (B := w10.heap.size) Bel (Nat.le_refl _)
        have hs11 : ((w10.alloc (.cells [.int .i64 0, .int .i64 0, .float .f64 0, .string ⟨#[]⟩].toArray 24)).putObj w10.heap.size (.cells [.int .i64 k', .int .i64 n', .float .f64 f', .string s'].toArray 24)).heap.size = w10.heap.size + 1 := by simp only [Sx.sizes]
        generalize ((w10.alloc (.cells [.int .i64 0, .int .i64 0, .float .f64 0, .string ⟨#[]⟩].toArray 24)).putObj w10.heap.size (.cells [.int .i64 k', .int .i64 n', .float .f64 f', .string s'].toArray 24)) = W at *
        generalize w10.heap.size = g at *
        clear b10 kv10 hrd10
        have e1 : ∀ A, RdAt A b l 0 → Does Tryz.prog 14 #[.pointer (some ⟨b, 0, none⟩)] A fun v w' => v = .int .i64 0 ∧ Below A.heap.size A w' := fun A h => (c_Err b l 0 A h).mono fun v w' h => ⟨h.1, by rw [← h.2]; exact Below.refl _ _⟩
        have e2 : ∀ A, RdAt A b l 0 → Does Tryz.prog 15 #[.pointer (some ⟨b, 0, none⟩)] A fun v w' => v = .int .i64 (l.length : Int) ∧ Below A.heap.size A w' := fun A h => (c_Left b l 0 A h).mono fun v w' h => ⟨h.1, by rw [← h.2]; exact Below.refl _ _⟩
        refine W_draws (Grown _) rfl (by kernel_rfl) (grown_start _) ?_
        (refine Qb ?_)
        apply Qst_call (.int .i64 0)
        focus rfl
        focus rfl
        · intro A9 hb9
          exact (e1 A9 (hrd11.below hb9 (Nat.le_refl _))).mono fun v w' h => ⟨h.1, Sx.Below.after hb9 h.2⟩
        (refine Qb ?_)
        apply Qst_call (.int .i64 (l.length : Int))
        focus rfl
        focus rfl
        · intro A9 hb9
          exact (e2 A9 (hrd11.below hb9 (Nat.le_refl _))).mono fun v w' h => ⟨h.1, Sx.Below.after hb9 h.2⟩
        (refine Qb ?_)
        apply Qst_call (.agg #[.int .i64 k', .int .i64 n', .float .f64 f', .string s'])
        focus rfl
        focus rfl
        · intro A9 hb9
          exact (a3 A9).mono fun v w' h => ⟨h.1, Sx.Below.after hb9 h.2⟩
        (refine Qb ?_)
        apply Qst_call (.bool true)
        focus rfl
        focus rfl
        · intro A9 hb9
          exact (m4 A9).mono fun v w' h => ⟨h.1, Sx.Below.after hb9 h.2⟩
        (refine Qb ?_)
        intro w9 hb9
        have b9 := Sx.Below.after (w := w) Bel hb9
        have s9 := hb9.size
        try simp only [Sx.sizes] at s9
        (refine Ga ?_)
        (apply retQ1; (focus rfl))
        exact ⟨rfl, b9⟩
      · rw [if_neg o1]
        (refine Ga ?_)
        (apply retQ1; (focus rfl))
        exact ⟨rfl, b3⟩
    · (refine Ga ?_)
      (apply retQ1; (focus rfl))
      exact ⟨rfl, b2⟩
  · rw [decide_eq_false h1]
    (refine Ga ?_)
    (apply retQ1; (focus rfl))
    exact ⟨rfl, b2⟩
end Val
end Go.Proofs.YtpfhnapjddckfaaGreatDoor
