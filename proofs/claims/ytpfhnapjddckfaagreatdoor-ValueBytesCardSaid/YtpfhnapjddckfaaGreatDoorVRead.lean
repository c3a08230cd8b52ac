/- The walk of value.Read: what was written is read. -/
import Derived.Test.YtpfhnapjddckfaaGreatDoorVWrite
import Derived.Test.YtpfhnapjddckfaaGreatDoorVal6
import Derived.Test.YtpfhnapjddckfaaGreatDoorRead7
namespace Go.Proofs.YtpfhnapjddckfaaGreatDoor
set_option maxRecDepth 100000
namespace Val
open Go Go.RowKit Sx Fl Hex Wire
/-- What is read of a value's bytes. -/
def readV (x : Vl) : Vl := if x.k = 3 then cleanV x else x
theorem nbits_nbits (f : Nat) : nbits (nbits f) = nbits f := by
  unfold nbits
  by_cases h : isNaN f = true
  · rw [if_pos h]
    decide
  · rw [if_neg h, if_neg h]
theorem okV_read {x : Vl} (h : okV x = true) : okV (readV x) = true := by
  unfold readV
  by_cases h3 : x.k = 3
  · rw [if_pos h3]
    obtain ⟨k, n, f, s⟩ := x
    dsimp only at h3
    subst h3
    unfold okV cleanV at *
    simp at h ⊢
    exact h
  · rw [if_neg h3]
    exact h
theorem N8.vl {w : World} {b : Nat} {k n : Int} {f : Nat} {s : ByteArray} {e : TypeId} (h : Blk w b [.int .i64 k, .int .i64 n, .float .f64 f, .string s] e) : ∀ g ∈ [b], N8 w g := fun g hg off z => by
  obtain rfl : g = b := by simpa using hg
  rw [h.cell off]
  rcases off with _ | _ | _ | _ | off <;> simp
attribute [local irreducible] W Lst Qst Pu seqQ blkQ rndQ cutQ retQ Does Enters IntKind.wrap bits sb World.alloc World.putObj Blk
theorem c_ReadByte (b : Nat) (z : Int) (hz : 0 ≤ z ∧ z < 256) (l : List UInt8) (w : World) (h : RdAt w b (z.toNat.toUInt8 :: l) 0) : Does Tryz.prog 39 #[.pointer (some ⟨b, 0, none⟩)] w fun v w' => v = .int .u8 z ∧ RdAt w' b l 0 ∧ Chg [b] w w' := by
  refine (c_RByte b (some (z.toNat.toUInt8 :: l)) w h).mono ?_
  rintro v w' ⟨rfl, hr, hc, _⟩
  refine ⟨?_, hr, hc⟩
  show Value.int .u8 ((z.toNat.toUInt8.toNat : Nat) : Int) = _
  congr 1
  simp
  omega
theorem c_ReadInt (b : Nat) (n : Int) (h0 : -9223372036854775808 ≤ n) (h1 : n < 9223372036854775808) (l : List UInt8) (w : World) (h : RdAt w b (Lib.uvarint (Lib.zigzag n) ++ l) 0) : Does Tryz.prog 40 #[.pointer (some ⟨b, 0, none⟩)] w fun v w' => v = .int .i64 n ∧ RdAt w' b l 0 ∧ Chg [b] w w' := by
  have hz := zz_lt h0 h1
  have e := mUint_uvarint 18446744073709551615 (Lib.zigzag n) l (by omega) hz
  refine (c_RInt b (some (Lib.uvarint (Lib.zigzag n) ++ l)) w h).mono ?_
  rintro v w' ⟨rfl, hr, hc⟩
  unfold mInt at hr ⊢
  rw [e] at hr ⊢
  exact ⟨by rw [unzig_zigzag], hr, hc⟩
theorem c_ReadFixed (b n : Nat) (hn : n < 18446744073709551616) (l : List UInt8) (w : World) (h : RdAt w b (fixN 8 n ++ l) 0) : Does Tryz.prog 41 #[.pointer (some ⟨b, 0, none⟩)] w fun v w' => v = .int .u64 (n : Int) ∧ RdAt w' b l 0 ∧ Chg [b] w w' := by
  refine (c_RFixed b (some (fixN 8 n ++ l)) w h).mono ?_
  rintro v w' ⟨rfl, hr, hc⟩
  rw [mFixed_fixN n hn l] at hr ⊢
  exact ⟨rfl, hr, hc⟩
theorem c_ReadText (b : Nat) (s : ByteArray) (hs : s.size ≤ 4096) (l : List UInt8) (hl : l.length ≤ 100000) (w : World) (h : RdAt w b (Lib.uvarint s.size ++ s.data.toList ++ l) 0) : Does Tryz.prog 43 #[.pointer (some ⟨b, 0, none⟩), .int .i64 4096] w fun v w' => v = .string s ∧ RdAt w' b l 0 ∧ Chg [b] w w' := by
  have hsz : s.data.toList.length = s.size := Array.length_toList
  have e := mText_uvarint 4096 s.data.toList l (by omega) (by omega)
  rw [hsz] at e
  have hu : (Lib.uvarint s.size).length ≤ 10 := Lib.uvarint_length64 (by omega)
  refine (c_RText b 4096 (some (Lib.uvarint s.size ++ s.data.toList ++ l)) w (by decide) (fun k hk => by cases hk; simp only [List.length_append]; omega) h).mono ?_
  rintro v w' ⟨rfl, hr, hc⟩
  rw [e] at hr ⊢
  exact ⟨rfl, hr, hc⟩
theorem c_VRead (b : Nat) (x : Vl) (hok : okV x = true) (hx : x.Fit) (more : List UInt8) (hm : more.length ≤ 90000) (w0 w : World) (hT : Utf.Tabs w0) (h0 : Below w0.heap.size w0 w) (hb0 : w0.heap.size ≤ b) (h : RdAt w b (wireV x ++ more) 0) : Does Tryz.prog 13 #[.pointer (some ⟨b, 0, none⟩)] w fun v w' => v = (readV x).v ∧ RdAt w' b more 0 ∧ Chg [b] w w' := by
  have hkind := ok_kind hok
  have hbool := ok_bool hok
  have hn0 := hx.n0
  have hn1 := hx.n1
  have hf := hx.f1
  have hs1 := hx.s1
  have hchk := fun A hT => c_Check (readV x) A hT (by unfold readV cleanV; split <;> exact hs1)
  rw [okV_read hok] at hchk
  obtain ⟨k, n, f, s⟩ := x
  dsimp only at hkind hbool hn0 hn1 hf hs1
  have hlt := h.lt
  have hTA : ∀ A, Chg [b] w A → Utf.Tabs A := fun A hc => hT.below (h0.trans (hc.below (by simpa using hb0) h0.size))
  have hW0 : Chg [b] w (w.alloc (.cells [.int .i64 0, .int .i64 0, .float .f64 0, .string ⟨#[]⟩].toArray 24)) := (Chg.refl _ _).alloc _
  have hW1 := h.below ((Below.refl _ _).alloc (Nat.le_refl _) (.cells [.int .i64 0, .int .i64 0, .float .f64 0, .string ⟨#[]⟩].toArray 24)) (Nat.le_refl _)
  have hW2 : Blk (w.alloc (.cells [.int .i64 0, .int .i64 0, .float .f64 0, .string ⟨#[]⟩].toArray 24)) w.heap.size [.int .i64 0, .int .i64 0, .float .f64 0, .string ⟨#[]⟩] 24 := Blk.newE rfl _ _
  have hW3 : (w.alloc (.cells [.int .i64 0, .int .i64 0, .float .f64 0, .string ⟨#[]⟩].toArray 24)).heap.size = w.heap.size + 1 := by simp only [Sx.sizes]
  refine Does_of (args := [.pointer (some ⟨b, 0, none⟩)]) Tryz.func13 (by kernel_rfl) rfl rfl rfl rfl rfl ?_
  unfold okV at hok
  rcases hkind with rfl | rfl | rfl | rfl | rfl | rfl
  · simp at hok
    obtain ⟨rfl, rfl, rfl⟩ := hok
    have hrv : readV ⟨0, 0, 0, ⟨#[]⟩⟩ = ⟨0, 0, 0, ⟨#[]⟩⟩ := if_neg (by simp)
    rw [hrv] at hchk ⊢
    (refine Ga ?_)
    generalize w.alloc (.cells [.int .i64 0, .int .i64 0, .float .f64 0, .string ⟨#[]⟩].toArray 24) = W at *
    (apply Lst_call; (focus rfl); (focus rfl))
    refine (c_ReadByte b 0 (by decide) _ W hW1).mono ?_
    rintro v w1 ⟨rfl, hr1, hc1⟩
    have hr1 : RdAt w1 b (more) 0 := hr1
    have hcw1 := hW0.trans hc1
    have hbx1 := hc1.blk hW2 (by simp; omega)
    have hb1 := hr1.lt
    have hs9 := hc1.size
    have hw8 : IntKind.i64.wrap 0 = 0 := wi64 (by omega) (by omega)
    clear hc1 hW0 hW1 hW2 h
    (refine Ga ?_)
    have hr2 : RdAt ((w1.alloc (.cells [.int .i64 0, .int .i64 0, .float .f64 0, .string ⟨#[]⟩].toArray 24)).putObj w1.heap.size (.cells [.int .i64 0, .int .i64 0, .float .f64 0, .string ⟨#[]⟩].toArray 24)) b (more) 0 := hr1.below (B := w1.heap.size) Bel (Nat.le_refl _)
    have hc2 : Chg [b] w ((w1.alloc (.cells [.int .i64 0, .int .i64 0, .float .f64 0, .string ⟨#[]⟩].toArray 24)).putObj w1.heap.size (.cells [.int .i64 0, .int .i64 0, .float .f64 0, .string ⟨#[]⟩].toArray 24)) := (hcw1.alloc _).put (.inr (by omega)) _
    have hv2 : Blk ((w1.alloc (.cells [.int .i64 0, .int .i64 0, .float .f64 0, .string ⟨#[]⟩].toArray 24)).putObj w1.heap.size (.cells [.int .i64 0, .int .i64 0, .float .f64 0, .string ⟨#[]⟩].toArray 24)) w1.heap.size [.int .i64 0, .int .i64 0, .float .f64 0, .string ⟨#[]⟩] 24 := (by (repeat (first | assumption | (apply Blk.below (hb := hb1); rotate_left; (focus ((try simp only [Sx.sizes]); omega)); rotate_right) | (apply Blk.below (hb := hb2); rotate_left; (focus ((try simp only [Sx.sizes]); omega)); rotate_right) | (apply Blk.below (hb := hb3); rotate_left; (focus ((try simp only [Sx.sizes]); omega)); rotate_right) | (apply Blk.below (hb := hb4); rotate_left; (focus ((try simp only [Sx.sizes]); omega)); rotate_right) | (apply Blk.below (hb := hb5); rotate_left; (focus ((try simp only [Sx.sizes]); omega)); rotate_right) | (apply Blk.below (hb := hb6); rotate_left; (focus ((try simp only [Sx.sizes]); omega)); rotate_right) | (apply Blk.below (hb := hb7); rotate_left; (focus ((try simp only [Sx.sizes]); omega)); rotate_right) | (apply Blk.below (hb := hb8); rotate_left; (focus ((try simp only [Sx.sizes]); omega)); rotate_right) | (apply Blk.below (hb := hb9); rotate_left; (focus ((try simp only [Sx.sizes]); omega)); rotate_right) | exact Blk.newE (by first | rfl | ((try simp only [Sx.sizes]); first | done | omega)) _ _ | exact Blk.put_same (by (try simp only [Sx.sizes]); first | done | omega) _ _ | (apply Blk.put_ne; (focus omega)) | apply Blk.alloc | apply Blk.drew)); done)
    have hx2 : Blk ((w1.alloc (.cells [.int .i64 0, .int .i64 0, .float .f64 0, .string ⟨#[]⟩].toArray 24)).putObj w1.heap.size (.cells [.int .i64 0, .int .i64 0, .float .f64 0, .string ⟨#[]⟩].toArray 24)) w.heap.size [.int .i64 0, .int .i64 0, .float .f64 0, .string ⟨#[]⟩] 24 := (by (repeat (first | assumption | (apply Blk.below (hb := hb1); rotate_left; (focus ((try simp only [Sx.sizes]); omega)); rotate_right) | (apply Blk.below (hb := hb2); rotate_left; (focus ((try simp only [Sx.sizes]); omega)); rotate_right) | (apply Blk.below (hb := hb3); rotate_left; (focus ((try simp only [Sx.sizes]); omega)); rotate_right) | (apply Blk.below (hb := hb4); rotate_left; (focus ((try simp only [Sx.sizes]); omega)); rotate_right) | (apply Blk.below (hb := hb5); rotate_left; (focus ((try simp only [Sx.sizes]); omega)); rotate_right) | (apply Blk.below (hb := hb6); rotate_left; (focus ((try simp only [Sx.sizes]); omega)); rotate_right) | (apply Blk.below (hb := hb7); rotate_left; (focus ((try simp only [Sx.sizes]); omega)); rotate_right) | (apply Blk.below (hb := hb8); rotate_left; (focus ((try simp only [Sx.sizes]); omega)); rotate_right) | (apply Blk.below (hb := hb9); rotate_left; (focus ((try simp only [Sx.sizes]); omega)); rotate_right) | exact Blk.newE (by first | rfl | ((try simp only [Sx.sizes]); first | done | omega)) _ _ | exact Blk.put_same (by (try simp only [Sx.sizes]); first | done | omega) _ _ | (apply Blk.put_ne; (focus omega)) | apply Blk.alloc | apply Blk.drew)); done)
    have hs2 : ((w1.alloc (.cells [.int .i64 0, .int .i64 0, .float .f64 0, .string ⟨#[]⟩].toArray 24)).putObj w1.heap.size (.cells [.int .i64 0, .int .i64 0, .float .f64 0, .string ⟨#[]⟩].toArray 24)).heap.size = w1.heap.size + 1 := by simp only [Sx.sizes]
    generalize ((w1.alloc (.cells [.int .i64 0, .int .i64 0, .float .f64 0, .string ⟨#[]⟩].toArray 24)).putObj w1.heap.size (.cells [.int .i64 0, .int .i64 0, .float .f64 0, .string ⟨#[]⟩].toArray 24)) = A at *
    generalize hvb : w1.heap.size = vb at *
    have hrA := hr2
    have hcA := hc2
    have hvA := hv2
    have hxA := hx2
    (apply Lst_call; (focus rfl); (focus rfl))
    refine (c_Err b more 0 A hrA).mono ?_
    rintro v w' ⟨rfl, rfl⟩
    (refine Ga ?_)
    (apply Lst_call; (focus rfl); (focus rfl))
    refine (hchk A (hTA A hcA)).mono ?_
    rw [if_pos rfl]
    rintro v w3 ⟨rfl, hb3⟩
    have hr5 := hrA.below hb3 (Nat.le_refl _)
    have hv5 := hvA.below hb3 hvA.lt
    have hx5 := hxA.below hb3 hxA.lt
    have hl5 := hx5.lt
    have hc5 := hcA.trans (.of hb3)
    clear hrA hvA hxA hcA hb3
    (refine Ga ?_)
    (apply Lst_call; (focus rfl); (focus rfl))
    refine (c_Err b more 0 w3 hr5).mono ?_
    rintro v w' ⟨rfl, rfl⟩
    (refine Ga ?_)
    (refine Reta ?_)
    have hcr : Chg [w.heap.size] w3 (w3.putObj w.heap.size (.cells [.int .i64 0, .int .i64 0, .float .f64 0, .string ⟨#[]⟩].toArray 24)) := (Chg.refl _ _).put (by simp) _
    exact ⟨rfl, hr5.chg hcr (by simp; omega) (N8.vl hx5), hc5.put (.inr (Nat.le_refl _)) _⟩
  · simp at hok
    obtain ⟨hn01, rfl, rfl⟩ := hok
    have hrv : readV ⟨1, n, 0, ⟨#[]⟩⟩ = ⟨1, n, 0, ⟨#[]⟩⟩ := if_neg (by simp)
    rw [hrv] at hchk ⊢
    (refine Ga ?_)
    generalize w.alloc (.cells [.int .i64 0, .int .i64 0, .float .f64 0, .string ⟨#[]⟩].toArray 24) = W at *
    (apply Lst_call; (focus rfl); (focus rfl))
    refine (c_ReadByte b 1 (by decide) _ W hW1).mono ?_
    rintro v w1 ⟨rfl, hr1, hc1⟩
    have hr1 : RdAt w1 b (n.toNat.toUInt8 :: more) 0 := hr1
    have hcw1 := hW0.trans hc1
    have hbx1 := hc1.blk hW2 (by simp; omega)
    have hb1 := hr1.lt
    have hs9 := hc1.size
    have hw8 : IntKind.i64.wrap 1 = 1 := wi64 (by omega) (by omega)
    clear hc1 hW0 hW1 hW2 h
    (refine Ga ?_)
    have hr2 : RdAt ((w1.alloc (.cells [.int .i64 0, .int .i64 0, .float .f64 0, .string ⟨#[]⟩].toArray 24)).putObj w1.heap.size (.cells [.int .i64 1, .int .i64 0, .float .f64 0, .string ⟨#[]⟩].toArray 24)) b (n.toNat.toUInt8 :: more) 0 := hr1.below (B := w1.heap.size) Bel (Nat.le_refl _)
    have hc2 : Chg [b] w ((w1.alloc (.cells [.int .i64 0, .int .i64 0, .float .f64 0, .string ⟨#[]⟩].toArray 24)).putObj w1.heap.size (.cells [.int .i64 1, .int .i64 0, .float .f64 0, .string ⟨#[]⟩].toArray 24)) := (hcw1.alloc _).put (.inr (by omega)) _
    have hv2 : Blk ((w1.alloc (.cells [.int .i64 0, .int .i64 0, .float .f64 0, .string ⟨#[]⟩].toArray 24)).putObj w1.heap.size (.cells [.int .i64 1, .int .i64 0, .float .f64 0, .string ⟨#[]⟩].toArray 24)) w1.heap.size [.int .i64 1, .int .i64 0, .float .f64 0, .string ⟨#[]⟩] 24 := (by (repeat (first | assumption | (apply Blk.below (hb := hb1); rotate_left; (focus ((try simp only [Sx.sizes]); omega)); rotate_right) | (apply Blk.below (hb := hb2); rotate_left; (focus ((try simp only [Sx.sizes]); omega)); rotate_right) | (apply Blk.below (hb := hb3); rotate_left; (focus ((try simp only [Sx.sizes]); omega)); rotate_right) | (apply Blk.below (hb := hb4); rotate_left; (focus ((try simp only [Sx.sizes]); omega)); rotate_right) | (apply Blk.below (hb := hb5); rotate_left; (focus ((try simp only [Sx.sizes]); omega)); rotate_right) | (apply Blk.below (hb := hb6); rotate_left; (focus ((try simp only [Sx.sizes]); omega)); rotate_right) | (apply Blk.below (hb := hb7); rotate_left; (focus ((try simp only [Sx.sizes]); omega)); rotate_right) | (apply Blk.below (hb := hb8); rotate_left; (focus ((try simp only [Sx.sizes]); omega)); rotate_right) | (apply Blk.below (hb := hb9); rotate_left; (focus ((try simp only [Sx.sizes]); omega)); rotate_right) | exact Blk.newE (by first | rfl | ((try simp only [Sx.sizes]); first | done | omega)) _ _ | exact Blk.put_same (by (try simp only [Sx.sizes]); first | done | omega) _ _ | (apply Blk.put_ne; (focus omega)) | apply Blk.alloc | apply Blk.drew)); done)
    have hx2 : Blk ((w1.alloc (.cells [.int .i64 0, .int .i64 0, .float .f64 0, .string ⟨#[]⟩].toArray 24)).putObj w1.heap.size (.cells [.int .i64 1, .int .i64 0, .float .f64 0, .string ⟨#[]⟩].toArray 24)) w.heap.size [.int .i64 0, .int .i64 0, .float .f64 0, .string ⟨#[]⟩] 24 := (by (repeat (first | assumption | (apply Blk.below (hb := hb1); rotate_left; (focus ((try simp only [Sx.sizes]); omega)); rotate_right) | (apply Blk.below (hb := hb2); rotate_left; (focus ((try simp only [Sx.sizes]); omega)); rotate_right) | (apply Blk.below (hb := hb3); rotate_left; (focus ((try simp only [Sx.sizes]); omega)); rotate_right) | (apply Blk.below (hb := hb4); rotate_left; (focus ((try simp only [Sx.sizes]); omega)); rotate_right) | (apply Blk.below (hb := hb5); rotate_left; (focus ((try simp only [Sx.sizes]); omega)); rotate_right) | (apply Blk.below (hb := hb6); rotate_left; (focus ((try simp only [Sx.sizes]); omega)); rotate_right) | (apply Blk.below (hb := hb7); rotate_left; (focus ((try simp only [Sx.sizes]); omega)); rotate_right) | (apply Blk.below (hb := hb8); rotate_left; (focus ((try simp only [Sx.sizes]); omega)); rotate_right) | (apply Blk.below (hb := hb9); rotate_left; (focus ((try simp only [Sx.sizes]); omega)); rotate_right) | exact Blk.newE (by first | rfl | ((try simp only [Sx.sizes]); first | done | omega)) _ _ | exact Blk.put_same (by (try simp only [Sx.sizes]); first | done | omega) _ _ | (apply Blk.put_ne; (focus omega)) | apply Blk.alloc | apply Blk.drew)); done)
    have hs2 : ((w1.alloc (.cells [.int .i64 0, .int .i64 0, .float .f64 0, .string ⟨#[]⟩].toArray 24)).putObj w1.heap.size (.cells [.int .i64 1, .int .i64 0, .float .f64 0, .string ⟨#[]⟩].toArray 24)).heap.size = w1.heap.size + 1 := by simp only [Sx.sizes]
    generalize ((w1.alloc (.cells [.int .i64 0, .int .i64 0, .float .f64 0, .string ⟨#[]⟩].toArray 24)).putObj w1.heap.size (.cells [.int .i64 1, .int .i64 0, .float .f64 0, .string ⟨#[]⟩].toArray 24)) = A1 at *
    generalize hvb : w1.heap.size = vb at *
    have hw9 : IntKind.i64.wrap n = n := wi64 (by omega) (by omega)
    (apply Lst_call; (focus rfl); (focus rfl))
    refine (c_ReadByte b n (by omega) more A1 hr2).mono ?_
    rintro v w2 ⟨rfl, hr3, hc3⟩
    have hv3 := hc3.blk hv2 (by simp; omega)
    have hx3 := hc3.blk hx2 (by simp; omega)
    have hc4 := hc2.trans hc3
    have hl3 := hv3.lt
    clear hc3 hr2 hc2 hv2 hx2
    (refine Ga ?_)
    have hcv : Chg [vb] w2 (w2.putObj vb (.cells [.int .i64 1, .int .i64 n, .float .f64 0, .string ⟨#[]⟩].toArray 24)) := (Chg.refl _ _).put (by simp) _
    have hrA : RdAt (w2.putObj vb (.cells [.int .i64 1, .int .i64 n, .float .f64 0, .string ⟨#[]⟩].toArray 24)) b more 0 := hr3.chg hcv (by simp; omega) (N8.vl hv3)
    have hcA : Chg [b] w (w2.putObj vb (.cells [.int .i64 1, .int .i64 n, .float .f64 0, .string ⟨#[]⟩].toArray 24)) := hc4.put (.inr (by omega)) _
    have hvA : Blk (w2.putObj vb (.cells [.int .i64 1, .int .i64 n, .float .f64 0, .string ⟨#[]⟩].toArray 24)) vb [.int .i64 1, .int .i64 n, .float .f64 0, .string ⟨#[]⟩] 24 := Blk.put_same hl3 _ _
    have hxA : Blk (w2.putObj vb (.cells [.int .i64 1, .int .i64 n, .float .f64 0, .string ⟨#[]⟩].toArray 24)) w.heap.size [.int .i64 0, .int .i64 0, .float .f64 0, .string ⟨#[]⟩] 24 := (by (repeat (first | assumption | (apply Blk.below (hb := hb1); rotate_left; (focus ((try simp only [Sx.sizes]); omega)); rotate_right) | (apply Blk.below (hb := hb2); rotate_left; (focus ((try simp only [Sx.sizes]); omega)); rotate_right) | (apply Blk.below (hb := hb3); rotate_left; (focus ((try simp only [Sx.sizes]); omega)); rotate_right) | (apply Blk.below (hb := hb4); rotate_left; (focus ((try simp only [Sx.sizes]); omega)); rotate_right) | (apply Blk.below (hb := hb5); rotate_left; (focus ((try simp only [Sx.sizes]); omega)); rotate_right) | (apply Blk.below (hb := hb6); rotate_left; (focus ((try simp only [Sx.sizes]); omega)); rotate_right) | (apply Blk.below (hb := hb7); rotate_left; (focus ((try simp only [Sx.sizes]); omega)); rotate_right) | (apply Blk.below (hb := hb8); rotate_left; (focus ((try simp only [Sx.sizes]); omega)); rotate_right) | (apply Blk.below (hb := hb9); rotate_left; (focus ((try simp only [Sx.sizes]); omega)); rotate_right) | exact Blk.newE (by first | rfl | ((try simp only [Sx.sizes]); first | done | omega)) _ _ | exact Blk.put_same (by (try simp only [Sx.sizes]); first | done | omega) _ _ | (apply Blk.put_ne; (focus omega)) | apply Blk.alloc | apply Blk.drew)); done)
    clear hcv hr3 hc4 hv3 hx3
    generalize (w2.putObj vb (.cells [.int .i64 1, .int .i64 n, .float .f64 0, .string ⟨#[]⟩].toArray 24)) = A at *
    (apply Lst_call; (focus rfl); (focus rfl))
    refine (c_Err b more 0 A hrA).mono ?_
    rintro v w' ⟨rfl, rfl⟩
    (refine Ga ?_)
    (apply Lst_call; (focus rfl); (focus rfl))
    refine (hchk A (hTA A hcA)).mono ?_
    rw [if_pos rfl]
    rintro v w3 ⟨rfl, hb3⟩
    have hr5 := hrA.below hb3 (Nat.le_refl _)
    have hv5 := hvA.below hb3 hvA.lt
    have hx5 := hxA.below hb3 hxA.lt
    have hl5 := hx5.lt
    have hc5 := hcA.trans (.of hb3)
    clear hrA hvA hxA hcA hb3
    (refine Ga ?_)
    (apply Lst_call; (focus rfl); (focus rfl))
    refine (c_Err b more 0 w3 hr5).mono ?_
    rintro v w' ⟨rfl, rfl⟩
    (refine Ga ?_)
    (refine Reta ?_)
    have hcr : Chg [w.heap.size] w3 (w3.putObj w.heap.size (.cells [.int .i64 1, .int .i64 n, .float .f64 0, .string ⟨#[]⟩].toArray 24)) := (Chg.refl _ _).put (by simp) _
    exact ⟨rfl, hr5.chg hcr (by simp; omega) (N8.vl hx5), hc5.put (.inr (Nat.le_refl _)) _⟩
  · simp at hok
    obtain ⟨rfl, rfl⟩ := hok
    have hrv : readV ⟨2, n, 0, ⟨#[]⟩⟩ = ⟨2, n, 0, ⟨#[]⟩⟩ := if_neg (by simp)
    rw [hrv] at hchk ⊢
    (refine Ga ?_)
    generalize w.alloc (.cells [.int .i64 0, .int .i64 0, .float .f64 0, .string ⟨#[]⟩].toArray 24) = W at *
    (apply Lst_call; (focus rfl); (focus rfl))
    refine (c_ReadByte b 2 (by decide) _ W hW1).mono ?_
    rintro v w1 ⟨rfl, hr1, hc1⟩
    have hr1 : RdAt w1 b (Lib.uvarint (Lib.zigzag n) ++ more) 0 := hr1
    have hcw1 := hW0.trans hc1
    have hbx1 := hc1.blk hW2 (by simp; omega)
    have hb1 := hr1.lt
    have hs9 := hc1.size
    have hw8 : IntKind.i64.wrap 2 = 2 := wi64 (by omega) (by omega)
    clear hc1 hW0 hW1 hW2 h
    (refine Ga ?_)
    have hr2 : RdAt ((w1.alloc (.cells [.int .i64 0, .int .i64 0, .float .f64 0, .string ⟨#[]⟩].toArray 24)).putObj w1.heap.size (.cells [.int .i64 2, .int .i64 0, .float .f64 0, .string ⟨#[]⟩].toArray 24)) b (Lib.uvarint (Lib.zigzag n) ++ more) 0 := hr1.below (B := w1.heap.size) Bel (Nat.le_refl _)
    have hc2 : Chg [b] w ((w1.alloc (.cells [.int .i64 0, .int .i64 0, .float .f64 0, .string ⟨#[]⟩].toArray 24)).putObj w1.heap.size (.cells [.int .i64 2, .int .i64 0, .float .f64 0, .string ⟨#[]⟩].toArray 24)) := (hcw1.alloc _).put (.inr (by omega)) _
    have hv2 : Blk ((w1.alloc (.cells [.int .i64 0, .int .i64 0, .float .f64 0, .string ⟨#[]⟩].toArray 24)).putObj w1.heap.size (.cells [.int .i64 2, .int .i64 0, .float .f64 0, .string ⟨#[]⟩].toArray 24)) w1.heap.size [.int .i64 2, .int .i64 0, .float .f64 0, .string ⟨#[]⟩] 24 := (by (repeat (first | assumption | (apply Blk.below (hb := hb1); rotate_left; (focus ((try simp only [Sx.sizes]); omega)); rotate_right) | (apply Blk.below (hb := hb2); rotate_left; (focus ((try simp only [Sx.sizes]); omega)); rotate_right) | (apply Blk.below (hb := hb3); rotate_left; (focus ((try simp only [Sx.sizes]); omega)); rotate_right) | (apply Blk.below (hb := hb4); rotate_left; (focus ((try simp only [Sx.sizes]); omega)); rotate_right) | (apply Blk.below (hb := hb5); rotate_left; (focus ((try simp only [Sx.sizes]); omega)); rotate_right) | (apply Blk.below (hb := hb6); rotate_left; (focus ((try simp only [Sx.sizes]); omega)); rotate_right) | (apply Blk.below (hb := hb7); rotate_left; (focus ((try simp only [Sx.sizes]); omega)); rotate_right) | (apply Blk.below (hb := hb8); rotate_left; (focus ((try simp only [Sx.sizes]); omega)); rotate_right) | (apply Blk.below (hb := hb9); rotate_left; (focus ((try simp only [Sx.sizes]); omega)); rotate_right) | exact Blk.newE (by first | rfl | ((try simp only [Sx.sizes]); first | done | omega)) _ _ | exact Blk.put_same (by (try simp only [Sx.sizes]); first | done | omega) _ _ | (apply Blk.put_ne; (focus omega)) | apply Blk.alloc | apply Blk.drew)); done)
    have hx2 : Blk ((w1.alloc (.cells [.int .i64 0, .int .i64 0, .float .f64 0, .string ⟨#[]⟩].toArray 24)).putObj w1.heap.size (.cells [.int .i64 2, .int .i64 0, .float .f64 0, .string ⟨#[]⟩].toArray 24)) w.heap.size [.int .i64 0, .int .i64 0, .float .f64 0, .string ⟨#[]⟩] 24 := (by (repeat (first | assumption | (apply Blk.below (hb := hb1); rotate_left; (focus ((try simp only [Sx.sizes]); omega)); rotate_right) | (apply Blk.below (hb := hb2); rotate_left; (focus ((try simp only [Sx.sizes]); omega)); rotate_right) | (apply Blk.below (hb := hb3); rotate_left; (focus ((try simp only [Sx.sizes]); omega)); rotate_right) | (apply Blk.below (hb := hb4); rotate_left; (focus ((try simp only [Sx.sizes]); omega)); rotate_right) | (apply Blk.below (hb := hb5); rotate_left; (focus ((try simp only [Sx.sizes]); omega)); rotate_right) | (apply Blk.below (hb := hb6); rotate_left; (focus ((try simp only [Sx.sizes]); omega)); rotate_right) | (apply Blk.below (hb := hb7); rotate_left; (focus ((try simp only [Sx.sizes]); omega)); rotate_right) | (apply Blk.below (hb := hb8); rotate_left; (focus ((try simp only [Sx.sizes]); omega)); rotate_right) | (apply Blk.below (hb := hb9); rotate_left; (focus ((try simp only [Sx.sizes]); omega)); rotate_right) | exact Blk.newE (by first | rfl | ((try simp only [Sx.sizes]); first | done | omega)) _ _ | exact Blk.put_same (by (try simp only [Sx.sizes]); first | done | omega) _ _ | (apply Blk.put_ne; (focus omega)) | apply Blk.alloc | apply Blk.drew)); done)
    have hs2 : ((w1.alloc (.cells [.int .i64 0, .int .i64 0, .float .f64 0, .string ⟨#[]⟩].toArray 24)).putObj w1.heap.size (.cells [.int .i64 2, .int .i64 0, .float .f64 0, .string ⟨#[]⟩].toArray 24)).heap.size = w1.heap.size + 1 := by simp only [Sx.sizes]
    generalize ((w1.alloc (.cells [.int .i64 0, .int .i64 0, .float .f64 0, .string ⟨#[]⟩].toArray 24)).putObj w1.heap.size (.cells [.int .i64 2, .int .i64 0, .float .f64 0, .string ⟨#[]⟩].toArray 24)) = A1 at *
    generalize hvb : w1.heap.size = vb at *
    (apply Lst_call; (focus rfl); (focus rfl))
    refine (c_ReadInt b n hn0 hn1 more A1 hr2).mono ?_
    rintro v w2 ⟨rfl, hr3, hc3⟩
    have hv3 := hc3.blk hv2 (by simp; omega)
    have hx3 := hc3.blk hx2 (by simp; omega)
    have hc4 := hc2.trans hc3
    have hl3 := hv3.lt
    clear hc3 hr2 hc2 hv2 hx2
    (refine Ga ?_)
    have hcv : Chg [vb] w2 (w2.putObj vb (.cells [.int .i64 2, .int .i64 n, .float .f64 0, .string ⟨#[]⟩].toArray 24)) := (Chg.refl _ _).put (by simp) _
    have hrA : RdAt (w2.putObj vb (.cells [.int .i64 2, .int .i64 n, .float .f64 0, .string ⟨#[]⟩].toArray 24)) b more 0 := hr3.chg hcv (by simp; omega) (N8.vl hv3)
    have hcA : Chg [b] w (w2.putObj vb (.cells [.int .i64 2, .int .i64 n, .float .f64 0, .string ⟨#[]⟩].toArray 24)) := hc4.put (.inr (by omega)) _
    have hvA : Blk (w2.putObj vb (.cells [.int .i64 2, .int .i64 n, .float .f64 0, .string ⟨#[]⟩].toArray 24)) vb [.int .i64 2, .int .i64 n, .float .f64 0, .string ⟨#[]⟩] 24 := Blk.put_same hl3 _ _
    have hxA : Blk (w2.putObj vb (.cells [.int .i64 2, .int .i64 n, .float .f64 0, .string ⟨#[]⟩].toArray 24)) w.heap.size [.int .i64 0, .int .i64 0, .float .f64 0, .string ⟨#[]⟩] 24 := (by (repeat (first | assumption | (apply Blk.below (hb := hb1); rotate_left; (focus ((try simp only [Sx.sizes]); omega)); rotate_right) | (apply Blk.below (hb := hb2); rotate_left; (focus ((try simp only [Sx.sizes]); omega)); rotate_right) | (apply Blk.below (hb := hb3); rotate_left; (focus ((try simp only [Sx.sizes]); omega)); rotate_right) | (apply Blk.below (hb := hb4); rotate_left; (focus ((try simp only [Sx.sizes]); omega)); rotate_right) | (apply Blk.below (hb := hb5); rotate_left; (focus ((try simp only [Sx.sizes]); omega)); rotate_right) | (apply Blk.below (hb := hb6); rotate_left; (focus ((try simp only [Sx.sizes]); omega)); rotate_right) | (apply Blk.below (hb := hb7); rotate_left; (focus ((try simp only [Sx.sizes]); omega)); rotate_right) | (apply Blk.below (hb := hb8); rotate_left; (focus ((try simp only [Sx.sizes]); omega)); rotate_right) | (apply Blk.below (hb := hb9); rotate_left; (focus ((try simp only [Sx.sizes]); omega)); rotate_right) | exact Blk.newE (by first | rfl | ((try simp only [Sx.sizes]); first | done | omega)) _ _ | exact Blk.put_same (by (try simp only [Sx.sizes]); first | done | omega) _ _ | (apply Blk.put_ne; (focus omega)) | apply Blk.alloc | apply Blk.drew)); done)
    clear hcv hr3 hc4 hv3 hx3
    generalize (w2.putObj vb (.cells [.int .i64 2, .int .i64 n, .float .f64 0, .string ⟨#[]⟩].toArray 24)) = A at *
    (apply Lst_call; (focus rfl); (focus rfl))
    refine (c_Err b more 0 A hrA).mono ?_
    rintro v w' ⟨rfl, rfl⟩
    (refine Ga ?_)
    (apply Lst_call; (focus rfl); (focus rfl))
    refine (hchk A (hTA A hcA)).mono ?_
    rw [if_pos rfl]
    rintro v w3 ⟨rfl, hb3⟩
    have hr5 := hrA.below hb3 (Nat.le_refl _)
    have hv5 := hvA.below hb3 hvA.lt
    have hx5 := hxA.below hb3 hxA.lt
    have hl5 := hx5.lt
    have hc5 := hcA.trans (.of hb3)
    clear hrA hvA hxA hcA hb3
    (refine Ga ?_)
    (apply Lst_call; (focus rfl); (focus rfl))
    refine (c_Err b more 0 w3 hr5).mono ?_
    rintro v w' ⟨rfl, rfl⟩
    (refine Ga ?_)
    (refine Reta ?_)
    have hcr : Chg [w.heap.size] w3 (w3.putObj w.heap.size (.cells [.int .i64 2, .int .i64 n, .float .f64 0, .string ⟨#[]⟩].toArray 24)) := (Chg.refl _ _).put (by simp) _
    exact ⟨rfl, hr5.chg hcr (by simp; omega) (N8.vl hx5), hc5.put (.inr (Nat.le_refl _)) _⟩
  · simp at hok
    obtain ⟨rfl, rfl⟩ := hok
    have hrv : readV ⟨3, 0, f, ⟨#[]⟩⟩ = ⟨3, 0, nbits f, ⟨#[]⟩⟩ := if_pos rfl
    rw [hrv] at hchk ⊢
    (refine Ga ?_)
    generalize w.alloc (.cells [.int .i64 0, .int .i64 0, .float .f64 0, .string ⟨#[]⟩].toArray 24) = W at *
    (apply Lst_call; (focus rfl); (focus rfl))
    refine (c_ReadByte b 3 (by decide) _ W hW1).mono ?_
    rintro v w1 ⟨rfl, hr1, hc1⟩
    have hr1 : RdAt w1 b (fixN 8 (nbits f) ++ more) 0 := hr1
    have hcw1 := hW0.trans hc1
    have hbx1 := hc1.blk hW2 (by simp; omega)
    have hb1 := hr1.lt
    have hs9 := hc1.size
    have hw8 : IntKind.i64.wrap 3 = 3 := wi64 (by omega) (by omega)
    clear hc1 hW0 hW1 hW2 h
    (refine Ga ?_)
    have hr2 : RdAt ((w1.alloc (.cells [.int .i64 0, .int .i64 0, .float .f64 0, .string ⟨#[]⟩].toArray 24)).putObj w1.heap.size (.cells [.int .i64 3, .int .i64 0, .float .f64 0, .string ⟨#[]⟩].toArray 24)) b (fixN 8 (nbits f) ++ more) 0 := hr1.below (B := w1.heap.size) Bel (Nat.le_refl _)
    have hc2 : Chg [b] w ((w1.alloc (.cells [.int .i64 0, .int .i64 0, .float .f64 0, .string ⟨#[]⟩].toArray 24)).putObj w1.heap.size (.cells [.int .i64 3, .int .i64 0, .float .f64 0, .string ⟨#[]⟩].toArray 24)) := (hcw1.alloc _).put (.inr (by omega)) _
    have hv2 : Blk ((w1.alloc (.cells [.int .i64 0, .int .i64 0, .float .f64 0, .string ⟨#[]⟩].toArray 24)).putObj w1.heap.size (.cells [.int .i64 3, .int .i64 0, .float .f64 0, .string ⟨#[]⟩].toArray 24)) w1.heap.size [.int .i64 3, .int .i64 0, .float .f64 0, .string ⟨#[]⟩] 24 := (by (repeat (first | assumption | (apply Blk.below (hb := hb1); rotate_left; (focus ((try simp only [Sx.sizes]); omega)); rotate_right) | (apply Blk.below (hb := hb2); rotate_left; (focus ((try simp only [Sx.sizes]); omega)); rotate_right) | (apply Blk.below (hb := hb3); rotate_left; (focus ((try simp only [Sx.sizes]); omega)); rotate_right) | (apply Blk.below (hb := hb4); rotate_left; (focus ((try simp only [Sx.sizes]); omega)); rotate_right) | (apply Blk.below (hb := hb5); rotate_left; (focus ((try simp only [Sx.sizes]); omega)); rotate_right) | (apply Blk.below (hb := hb6); rotate_left; (focus ((try simp only [Sx.sizes]); omega)); rotate_right) | (apply Blk.below (hb := hb7); rotate_left; (focus ((try simp only [Sx.sizes]); omega)); rotate_right) | (apply Blk.below (hb := hb8); rotate_left; (focus ((try simp only [Sx.sizes]); omega)); rotate_right) | (apply Blk.below (hb := hb9); rotate_left; (focus ((try simp only [Sx.sizes]); omega)); rotate_right) | exact Blk.newE (by first | rfl | ((try simp only [Sx.sizes]); first | done | omega)) _ _ | exact Blk.put_same (by (try simp only [Sx.sizes]); first | done | omega) _ _ | (apply Blk.put_ne; (focus omega)) | apply Blk.alloc | apply Blk.drew)); done)
    have hx2 : Blk ((w1.alloc (.cells [.int .i64 0, .int .i64 0, .float .f64 0, .string ⟨#[]⟩].toArray 24)).putObj w1.heap.size (.cells [.int .i64 3, .int .i64 0, .float .f64 0, .string ⟨#[]⟩].toArray 24)) w.heap.size [.int .i64 0, .int .i64 0, .float .f64 0, .string ⟨#[]⟩] 24 := (by (repeat (first | assumption | (apply Blk.below (hb := hb1); rotate_left; (focus ((try simp only [Sx.sizes]); omega)); rotate_right) | (apply Blk.below (hb := hb2); rotate_left; (focus ((try simp only [Sx.sizes]); omega)); rotate_right) | (apply Blk.below (hb := hb3); rotate_left; (focus ((try simp only [Sx.sizes]); omega)); rotate_right) | (apply Blk.below (hb := hb4); rotate_left; (focus ((try simp only [Sx.sizes]); omega)); rotate_right) | (apply Blk.below (hb := hb5); rotate_left; (focus ((try simp only [Sx.sizes]); omega)); rotate_right) | (apply Blk.below (hb := hb6); rotate_left; (focus ((try simp only [Sx.sizes]); omega)); rotate_right) | (apply Blk.below (hb := hb7); rotate_left; (focus ((try simp only [Sx.sizes]); omega)); rotate_right) | (apply Blk.below (hb := hb8); rotate_left; (focus ((try simp only [Sx.sizes]); omega)); rotate_right) | (apply Blk.below (hb := hb9); rotate_left; (focus ((try simp only [Sx.sizes]); omega)); rotate_right) | exact Blk.newE (by first | rfl | ((try simp only [Sx.sizes]); first | done | omega)) _ _ | exact Blk.put_same (by (try simp only [Sx.sizes]); first | done | omega) _ _ | (apply Blk.put_ne; (focus omega)) | apply Blk.alloc | apply Blk.drew)); done)
    have hs2 : ((w1.alloc (.cells [.int .i64 0, .int .i64 0, .float .f64 0, .string ⟨#[]⟩].toArray 24)).putObj w1.heap.size (.cells [.int .i64 3, .int .i64 0, .float .f64 0, .string ⟨#[]⟩].toArray 24)).heap.size = w1.heap.size + 1 := by simp only [Sx.sizes]
    generalize ((w1.alloc (.cells [.int .i64 0, .int .i64 0, .float .f64 0, .string ⟨#[]⟩].toArray 24)).putObj w1.heap.size (.cells [.int .i64 3, .int .i64 0, .float .f64 0, .string ⟨#[]⟩].toArray 24)) = A1 at *
    generalize hvb : w1.heap.size = vb at *
    (apply Lst_call; (focus rfl); (focus rfl))
    refine (c_ReadFixed b (nbits f) (nbits_lt hf) more A1 hr2).mono ?_
    rintro v w2 ⟨rfl, hr3, hc3⟩
    have hv3 := hc3.blk hv2 (by simp; omega)
    have hx3 := hc3.blk hx2 (by simp; omega)
    have hc4 := hc2.trans hc3
    have hl3 := hv3.lt
    clear hc3 hr2 hc2 hv2 hx2
    (refine Ga ?_)
    have hcv : Chg [vb] w2 (w2.putObj vb (.cells [.int .i64 3, .int .i64 0, .float .f64 ((nbits f : Nat) : Int).toNat, .string ⟨#[]⟩].toArray 24)) := (Chg.refl _ _).put (by simp) _
    have hrA : RdAt (w2.putObj vb (.cells [.int .i64 3, .int .i64 0, .float .f64 ((nbits f : Nat) : Int).toNat, .string ⟨#[]⟩].toArray 24)) b more 0 := hr3.chg hcv (by simp; omega) (N8.vl hv3)
    have hcA : Chg [b] w (w2.putObj vb (.cells [.int .i64 3, .int .i64 0, .float .f64 ((nbits f : Nat) : Int).toNat, .string ⟨#[]⟩].toArray 24)) := hc4.put (.inr (by omega)) _
    have hvA : Blk (w2.putObj vb (.cells [.int .i64 3, .int .i64 0, .float .f64 ((nbits f : Nat) : Int).toNat, .string ⟨#[]⟩].toArray 24)) vb [.int .i64 3, .int .i64 0, .float .f64 (nbits f), .string ⟨#[]⟩] 24 := Blk.put_same hl3 _ _
    have hxA : Blk (w2.putObj vb (.cells [.int .i64 3, .int .i64 0, .float .f64 ((nbits f : Nat) : Int).toNat, .string ⟨#[]⟩].toArray 24)) w.heap.size [.int .i64 0, .int .i64 0, .float .f64 0, .string ⟨#[]⟩] 24 := (by (repeat (first | assumption | (apply Blk.below (hb := hb1); rotate_left; (focus ((try simp only [Sx.sizes]); omega)); rotate_right) | (apply Blk.below (hb := hb2); rotate_left; (focus ((try simp only [Sx.sizes]); omega)); rotate_right) | (apply Blk.below (hb := hb3); rotate_left; (focus ((try simp only [Sx.sizes]); omega)); rotate_right) | (apply Blk.below (hb := hb4); rotate_left; (focus ((try simp only [Sx.sizes]); omega)); rotate_right) | (apply Blk.below (hb := hb5); rotate_left; (focus ((try simp only [Sx.sizes]); omega)); rotate_right) | (apply Blk.below (hb := hb6); rotate_left; (focus ((try simp only [Sx.sizes]); omega)); rotate_right) | (apply Blk.below (hb := hb7); rotate_left; (focus ((try simp only [Sx.sizes]); omega)); rotate_right) | (apply Blk.below (hb := hb8); rotate_left; (focus ((try simp only [Sx.sizes]); omega)); rotate_right) | (apply Blk.below (hb := hb9); rotate_left; (focus ((try simp only [Sx.sizes]); omega)); rotate_right) | exact Blk.newE (by first | rfl | ((try simp only [Sx.sizes]); first | done | omega)) _ _ | exact Blk.put_same (by (try simp only [Sx.sizes]); first | done | omega) _ _ | (apply Blk.put_ne; (focus omega)) | apply Blk.alloc | apply Blk.drew)); done)
    clear hcv hr3 hc4 hv3 hx3
    generalize (w2.putObj vb (.cells [.int .i64 3, .int .i64 0, .float .f64 ((nbits f : Nat) : Int).toNat, .string ⟨#[]⟩].toArray 24)) = A at *
    have hbo := c_bitsOf (nbits f) A
    rw [nbits_nbits] at hbo
    (apply Lst_call; (focus rfl); (focus rfl))
    refine (hbo).mono ?_
    rintro v w' ⟨rfl, rfl⟩
    (refine Ga ?_)
    (apply Lst_call; (focus rfl); (focus rfl))
    refine (c_Err b more 0 A hrA).mono ?_
    rintro v w' ⟨rfl, rfl⟩
    (refine Ga ?_)
    (apply Lst_call; (focus rfl); (focus rfl))
    refine (hchk A (hTA A hcA)).mono ?_
    rw [if_pos rfl]
    rintro v w3 ⟨rfl, hb3⟩
    have hr5 := hrA.below hb3 (Nat.le_refl _)
    have hv5 := hvA.below hb3 hvA.lt
    have hx5 := hxA.below hb3 hxA.lt
    have hl5 := hx5.lt
    have hc5 := hcA.trans (.of hb3)
    clear hrA hvA hxA hcA hb3
    (refine Ga ?_)
    (apply Lst_call; (focus rfl); (focus rfl))
    refine (c_Err b more 0 w3 hr5).mono ?_
    rintro v w' ⟨rfl, rfl⟩
    (refine Ga ?_)
    (refine Reta ?_)
    have hcr : Chg [w.heap.size] w3 (w3.putObj w.heap.size (.cells [.int .i64 3, .int .i64 0, .float .f64 (nbits f), .string ⟨#[]⟩].toArray 24)) := (Chg.refl _ _).put (by simp) _
    exact ⟨rfl, hr5.chg hcr (by simp; omega) (N8.vl hx5), hc5.put (.inr (Nat.le_refl _)) _⟩
  · simp at hok
    obtain ⟨rfl, rfl, hs4, hval⟩ := hok
    have hrv : readV ⟨4, 0, 0, s⟩ = ⟨4, 0, 0, s⟩ := if_neg (by simp)
    rw [hrv] at hchk ⊢
    (refine Ga ?_)
    generalize w.alloc (.cells [.int .i64 0, .int .i64 0, .float .f64 0, .string ⟨#[]⟩].toArray 24) = W at *
    (apply Lst_call; (focus rfl); (focus rfl))
    refine (c_ReadByte b 4 (by decide) _ W hW1).mono ?_
    rintro v w1 ⟨rfl, hr1, hc1⟩
    have hr1 : RdAt w1 b (Lib.uvarint s.size ++ s.data.toList ++ more) 0 := hr1
    have hcw1 := hW0.trans hc1
    have hbx1 := hc1.blk hW2 (by simp; omega)
    have hb1 := hr1.lt
    have hs9 := hc1.size
    have hw8 : IntKind.i64.wrap 4 = 4 := wi64 (by omega) (by omega)
    clear hc1 hW0 hW1 hW2 h
    (refine Ga ?_)
    have hr2 : RdAt ((w1.alloc (.cells [.int .i64 0, .int .i64 0, .float .f64 0, .string ⟨#[]⟩].toArray 24)).putObj w1.heap.size (.cells [.int .i64 4, .int .i64 0, .float .f64 0, .string ⟨#[]⟩].toArray 24)) b (Lib.uvarint s.size ++ s.data.toList ++ more) 0 := hr1.below (B := w1.heap.size) Bel (Nat.le_refl _)
    have hc2 : Chg [b] w ((w1.alloc (.cells [.int .i64 0, .int .i64 0, .float .f64 0, .string ⟨#[]⟩].toArray 24)).putObj w1.heap.size (.cells [.int .i64 4, .int .i64 0, .float .f64 0, .string ⟨#[]⟩].toArray 24)) := (hcw1.alloc _).put (.inr (by omega)) _
    have hv2 : Blk ((w1.alloc (.cells [.int .i64 0, .int .i64 0, .float .f64 0, .string ⟨#[]⟩].toArray 24)).putObj w1.heap.size (.cells [.int .i64 4, .int .i64 0, .float .f64 0, .string ⟨#[]⟩].toArray 24)) w1.heap.size [.int .i64 4, .int .i64 0, .float .f64 0, .string ⟨#[]⟩] 24 := (by (repeat (first | assumption | (apply Blk.below (hb := hb1); rotate_left; (focus ((try simp only [Sx.sizes]); omega)); rotate_right) | (apply Blk.below (hb := hb2); rotate_left; (focus ((try simp only [Sx.sizes]); omega)); rotate_right) | (apply Blk.below (hb := hb3); rotate_left; (focus ((try simp only [Sx.sizes]); omega)); rotate_right) | (apply Blk.below (hb := hb4); rotate_left; (focus ((try simp only [Sx.sizes]); omega)); rotate_right) | (apply Blk.below (hb := hb5); rotate_left; (focus ((try simp only [Sx.sizes]); omega)); rotate_right) | (apply Blk.below (hb := hb6); rotate_left; (focus ((try simp only [Sx.sizes]); omega)); rotate_right) | (apply Blk.below (hb := hb7); rotate_left; (focus ((try simp only [Sx.sizes]); omega)); rotate_right) | (apply Blk.below (hb := hb8); rotate_left; (focus ((try simp only [Sx.sizes]); omega)); rotate_right) | (apply Blk.below (hb := hb9); rotate_left; (focus ((try simp only [Sx.sizes]); omega)); rotate_right) | exact Blk.newE (by first | rfl | ((try simp only [Sx.sizes]); first | done | omega)) _ _ | exact Blk.put_same (by (try simp only [Sx.sizes]); first | done | omega) _ _ | (apply Blk.put_ne; (focus omega)) | apply Blk.alloc | apply Blk.drew)); done)
    have hx2 : Blk ((w1.alloc (.cells [.int .i64 0, .int .i64 0, .float .f64 0, .string ⟨#[]⟩].toArray 24)).putObj w1.heap.size (.cells [.int .i64 4, .int .i64 0, .float .f64 0, .string ⟨#[]⟩].toArray 24)) w.heap.size [.int .i64 0, .int .i64 0, .float .f64 0, .string ⟨#[]⟩] 24 := (by (repeat (first | assumption | (apply Blk.below (hb := hb1); rotate_left; (focus ((try simp only [Sx.sizes]); omega)); rotate_right) | (apply Blk.below (hb := hb2); rotate_left; (focus ((try simp only [Sx.sizes]); omega)); rotate_right) | (apply Blk.below (hb := hb3); rotate_left; (focus ((try simp only [Sx.sizes]); omega)); rotate_right) | (apply Blk.below (hb := hb4); rotate_left; (focus ((try simp only [Sx.sizes]); omega)); rotate_right) | (apply Blk.below (hb := hb5); rotate_left; (focus ((try simp only [Sx.sizes]); omega)); rotate_right) | (apply Blk.below (hb := hb6); rotate_left; (focus ((try simp only [Sx.sizes]); omega)); rotate_right) | (apply Blk.below (hb := hb7); rotate_left; (focus ((try simp only [Sx.sizes]); omega)); rotate_right) | (apply Blk.below (hb := hb8); rotate_left; (focus ((try simp only [Sx.sizes]); omega)); rotate_right) | (apply Blk.below (hb := hb9); rotate_left; (focus ((try simp only [Sx.sizes]); omega)); rotate_right) | exact Blk.newE (by first | rfl | ((try simp only [Sx.sizes]); first | done | omega)) _ _ | exact Blk.put_same (by (try simp only [Sx.sizes]); first | done | omega) _ _ | (apply Blk.put_ne; (focus omega)) | apply Blk.alloc | apply Blk.drew)); done)
    have hs2 : ((w1.alloc (.cells [.int .i64 0, .int .i64 0, .float .f64 0, .string ⟨#[]⟩].toArray 24)).putObj w1.heap.size (.cells [.int .i64 4, .int .i64 0, .float .f64 0, .string ⟨#[]⟩].toArray 24)).heap.size = w1.heap.size + 1 := by simp only [Sx.sizes]
    generalize ((w1.alloc (.cells [.int .i64 0, .int .i64 0, .float .f64 0, .string ⟨#[]⟩].toArray 24)).putObj w1.heap.size (.cells [.int .i64 4, .int .i64 0, .float .f64 0, .string ⟨#[]⟩].toArray 24)) = A1 at *
    generalize hvb : w1.heap.size = vb at *
    (apply Lst_call; (focus rfl); (focus rfl))
    refine (c_ReadText b s hs4 more (by omega) A1 hr2).mono ?_
    rintro v w2 ⟨rfl, hr3, hc3⟩
    have hv3 := hc3.blk hv2 (by simp; omega)
    have hx3 := hc3.blk hx2 (by simp; omega)
    have hc4 := hc2.trans hc3
    have hl3 := hv3.lt
    clear hc3 hr2 hc2 hv2 hx2
    (refine Ga ?_)
    have hcv : Chg [vb] w2 (w2.putObj vb (.cells [.int .i64 4, .int .i64 0, .float .f64 0, .string s].toArray 24)) := (Chg.refl _ _).put (by simp) _
    have hrA : RdAt (w2.putObj vb (.cells [.int .i64 4, .int .i64 0, .float .f64 0, .string s].toArray 24)) b more 0 := hr3.chg hcv (by simp; omega) (N8.vl hv3)
    have hcA : Chg [b] w (w2.putObj vb (.cells [.int .i64 4, .int .i64 0, .float .f64 0, .string s].toArray 24)) := hc4.put (.inr (by omega)) _
    have hvA : Blk (w2.putObj vb (.cells [.int .i64 4, .int .i64 0, .float .f64 0, .string s].toArray 24)) vb [.int .i64 4, .int .i64 0, .float .f64 0, .string s] 24 := Blk.put_same hl3 _ _
    have hxA : Blk (w2.putObj vb (.cells [.int .i64 4, .int .i64 0, .float .f64 0, .string s].toArray 24)) w.heap.size [.int .i64 0, .int .i64 0, .float .f64 0, .string ⟨#[]⟩] 24 := (by (repeat (first | assumption | (apply Blk.below (hb := hb1); rotate_left; (focus ((try simp only [Sx.sizes]); omega)); rotate_right) | (apply Blk.below (hb := hb2); rotate_left; (focus ((try simp only [Sx.sizes]); omega)); rotate_right) | (apply Blk.below (hb := hb3); rotate_left; (focus ((try simp only [Sx.sizes]); omega)); rotate_right) | (apply Blk.below (hb := hb4); rotate_left; (focus ((try simp only [Sx.sizes]); omega)); rotate_right) | (apply Blk.below (hb := hb5); rotate_left; (focus ((try simp only [Sx.sizes]); omega)); rotate_right) | (apply Blk.below (hb := hb6); rotate_left; (focus ((try simp only [Sx.sizes]); omega)); rotate_right) | (apply Blk.below (hb := hb7); rotate_left; (focus ((try simp only [Sx.sizes]); omega)); rotate_right) | (apply Blk.below (hb := hb8); rotate_left; (focus ((try simp only [Sx.sizes]); omega)); rotate_right) | (apply Blk.below (hb := hb9); rotate_left; (focus ((try simp only [Sx.sizes]); omega)); rotate_right) | exact Blk.newE (by first | rfl | ((try simp only [Sx.sizes]); first | done | omega)) _ _ | exact Blk.put_same (by (try simp only [Sx.sizes]); first | done | omega) _ _ | (apply Blk.put_ne; (focus omega)) | apply Blk.alloc | apply Blk.drew)); done)
    clear hcv hr3 hc4 hv3 hx3
    generalize (w2.putObj vb (.cells [.int .i64 4, .int .i64 0, .float .f64 0, .string s].toArray 24)) = A at *
    (apply Lst_call; (focus rfl); (focus rfl))
    refine (c_Err b more 0 A hrA).mono ?_
    rintro v w' ⟨rfl, rfl⟩
    (refine Ga ?_)
    (apply Lst_call; (focus rfl); (focus rfl))
    refine (hchk A (hTA A hcA)).mono ?_
    rw [if_pos rfl]
    rintro v w3 ⟨rfl, hb3⟩
    have hr5 := hrA.below hb3 (Nat.le_refl _)
    have hv5 := hvA.below hb3 hvA.lt
    have hx5 := hxA.below hb3 hxA.lt
    have hl5 := hx5.lt
    have hc5 := hcA.trans (.of hb3)
    clear hrA hvA hxA hcA hb3
    (refine Ga ?_)
    (apply Lst_call; (focus rfl); (focus rfl))
    refine (c_Err b more 0 w3 hr5).mono ?_
    rintro v w' ⟨rfl, rfl⟩
    (refine Ga ?_)
    (refine Reta ?_)
    have hcr : Chg [w.heap.size] w3 (w3.putObj w.heap.size (.cells [.int .i64 4, .int .i64 0, .float .f64 0, .string s].toArray 24)) := (Chg.refl _ _).put (by simp) _
    exact ⟨rfl, hr5.chg hcr (by simp; omega) (N8.vl hx5), hc5.put (.inr (Nat.le_refl _)) _⟩
  · simp at hok
    obtain ⟨rfl, rfl, rfl⟩ := hok
    have hrv : readV ⟨5, 0, 0, ⟨#[]⟩⟩ = ⟨5, 0, 0, ⟨#[]⟩⟩ := if_neg (by simp)
    rw [hrv] at hchk ⊢
    (refine Ga ?_)
    generalize w.alloc (.cells [.int .i64 0, .int .i64 0, .float .f64 0, .string ⟨#[]⟩].toArray 24) = W at *
    (apply Lst_call; (focus rfl); (focus rfl))
    refine (c_ReadByte b 5 (by decide) _ W hW1).mono ?_
    rintro v w1 ⟨rfl, hr1, hc1⟩
    have hr1 : RdAt w1 b (more) 0 := hr1
    have hcw1 := hW0.trans hc1
    have hbx1 := hc1.blk hW2 (by simp; omega)
    have hb1 := hr1.lt
    have hs9 := hc1.size
    have hw8 : IntKind.i64.wrap 5 = 5 := wi64 (by omega) (by omega)
    clear hc1 hW0 hW1 hW2 h
    (refine Ga ?_)
    have hr2 : RdAt ((w1.alloc (.cells [.int .i64 0, .int .i64 0, .float .f64 0, .string ⟨#[]⟩].toArray 24)).putObj w1.heap.size (.cells [.int .i64 5, .int .i64 0, .float .f64 0, .string ⟨#[]⟩].toArray 24)) b (more) 0 := hr1.below (B := w1.heap.size) Bel (Nat.le_refl _)
    have hc2 : Chg [b] w ((w1.alloc (.cells [.int .i64 0, .int .i64 0, .float .f64 0, .string ⟨#[]⟩].toArray 24)).putObj w1.heap.size (.cells [.int .i64 5, .int .i64 0, .float .f64 0, .string ⟨#[]⟩].toArray 24)) := (hcw1.alloc _).put (.inr (by omega)) _
    have hv2 : Blk ((w1.alloc (.cells [.int .i64 0, .int .i64 0, .float .f64 0, .string ⟨#[]⟩].toArray 24)).putObj w1.heap.size (.cells [.int .i64 5, .int .i64 0, .float .f64 0, .string ⟨#[]⟩].toArray 24)) w1.heap.size [.int .i64 5, .int .i64 0, .float .f64 0, .string ⟨#[]⟩] 24 := (by (repeat (first | assumption | (apply Blk.below (hb := hb1); rotate_left; (focus ((try simp only [Sx.sizes]); omega)); rotate_right) | (apply Blk.below (hb := hb2); rotate_left; (focus ((try simp only [Sx.sizes]); omega)); rotate_right) | (apply Blk.below (hb := hb3); rotate_left; (focus ((try simp only [Sx.sizes]); omega)); rotate_right) | (apply Blk.below (hb := hb4); rotate_left; (focus ((try simp only [Sx.sizes]); omega)); rotate_right) | (apply Blk.below (hb := hb5); rotate_left; (focus ((try simp only [Sx.sizes]); omega)); rotate_right) | (apply Blk.below (hb := hb6); rotate_left; (focus ((try simp only [Sx.sizes]); omega)); rotate_right) | (apply Blk.below (hb := hb7); rotate_left; (focus ((try simp only [Sx.sizes]); omega)); rotate_right) | (apply Blk.below (hb := hb8); rotate_left; (focus ((try simp only [Sx.sizes]); omega)); rotate_right) | (apply Blk.below (hb := hb9); rotate_left; (focus ((try simp only [Sx.sizes]); omega)); rotate_right) | exact Blk.newE (by first | rfl | ((try simp only [Sx.sizes]); first | done | omega)) _ _ | exact Blk.put_same (by (try simp only [Sx.sizes]); first | done | omega) _ _ | (apply Blk.put_ne; (focus omega)) | apply Blk.alloc | apply Blk.drew)); done)
    have hx2 : Blk ((w1.alloc (.cells [.int .i64 0, .int .i64 0, .float .f64 0, .string ⟨#[]⟩].toArray 24)).putObj w1.heap.size (.cells [.int .i64 5, .int .i64 0, .float .f64 0, .string ⟨#[]⟩].toArray 24)) w.heap.size [.int .i64 0, .int .i64 0, .float .f64 0, .string ⟨#[]⟩] 24 := (by (repeat (first | assumption | (apply Blk.below (hb := hb1); rotate_left; (focus ((try simp only [Sx.sizes]); omega)); rotate_right) | (apply Blk.below (hb := hb2); rotate_left; (focus ((try simp only [Sx.sizes]); omega)); rotate_right) | (apply Blk.below (hb := hb3); rotate_left; (focus ((try simp only [Sx.sizes]); omega)); rotate_right) | (apply Blk.below (hb := hb4); rotate_left; (focus ((try simp only [Sx.sizes]); omega)); rotate_right) | (apply Blk.below (hb := hb5); rotate_left; (focus ((try simp only [Sx.sizes]); omega)); rotate_right) | (apply Blk.below (hb := hb6); rotate_left; (focus ((try simp only [Sx.sizes]); omega)); rotate_right) | (apply Blk.below (hb := hb7); rotate_left; (focus ((try simp only [Sx.sizes]); omega)); rotate_right) | (apply Blk.below (hb := hb8); rotate_left; (focus ((try simp only [Sx.sizes]); omega)); rotate_right) | (apply Blk.below (hb := hb9); rotate_left; (focus ((try simp only [Sx.sizes]); omega)); rotate_right) | exact Blk.newE (by first | rfl | ((try simp only [Sx.sizes]); first | done | omega)) _ _ | exact Blk.put_same (by (try simp only [Sx.sizes]); first | done | omega) _ _ | (apply Blk.put_ne; (focus omega)) | apply Blk.alloc | apply Blk.drew)); done)
    have hs2 : ((w1.alloc (.cells [.int .i64 0, .int .i64 0, .float .f64 0, .string ⟨#[]⟩].toArray 24)).putObj w1.heap.size (.cells [.int .i64 5, .int .i64 0, .float .f64 0, .string ⟨#[]⟩].toArray 24)).heap.size = w1.heap.size + 1 := by simp only [Sx.sizes]
    generalize ((w1.alloc (.cells [.int .i64 0, .int .i64 0, .float .f64 0, .string ⟨#[]⟩].toArray 24)).putObj w1.heap.size (.cells [.int .i64 5, .int .i64 0, .float .f64 0, .string ⟨#[]⟩].toArray 24)) = A at *
    generalize hvb : w1.heap.size = vb at *
    have hrA := hr2
    have hcA := hc2
    have hvA := hv2
    have hxA := hx2
    (apply Lst_call; (focus rfl); (focus rfl))
    refine (c_Err b more 0 A hrA).mono ?_
    rintro v w' ⟨rfl, rfl⟩
    (refine Ga ?_)
    (apply Lst_call; (focus rfl); (focus rfl))
    refine (hchk A (hTA A hcA)).mono ?_
    rw [if_pos rfl]
    rintro v w3 ⟨rfl, hb3⟩
    have hr5 := hrA.below hb3 (Nat.le_refl _)
    have hv5 := hvA.below hb3 hvA.lt
    have hx5 := hxA.below hb3 hxA.lt
    have hl5 := hx5.lt
    have hc5 := hcA.trans (.of hb3)
    clear hrA hvA hxA hcA hb3
    (refine Ga ?_)
    (apply Lst_call; (focus rfl); (focus rfl))
    refine (c_Err b more 0 w3 hr5).mono ?_
    rintro v w' ⟨rfl, rfl⟩
    (refine Ga ?_)
    (refine Reta ?_)
    have hcr : Chg [w.heap.size] w3 (w3.putObj w.heap.size (.cells [.int .i64 5, .int .i64 0, .float .f64 0, .string ⟨#[]⟩].toArray 24)) := (Chg.refl _ _).put (by simp) _
    exact ⟨rfl, hr5.chg hcr (by simp; omega) (N8.vl hx5), hc5.put (.inr (Nat.le_refl _)) _⟩
end Val
end Go.Proofs.YtpfhnapjddckfaaGreatDoor
