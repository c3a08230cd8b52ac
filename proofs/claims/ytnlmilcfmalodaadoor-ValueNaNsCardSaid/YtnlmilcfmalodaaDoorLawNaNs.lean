/- ValueNaNs: the walk of the law. -/
import Derived.Test.YtnlmilcfmalodaaDoorLawTexts
namespace Go.Proofs.YtnlmilcfmalodaaDoor
set_option maxRecDepth 100000
namespace Val
open Go Go.RowKit Sx Fl Hex Wire
theorem orn (a c : Nat) (ha : a < 18446744073709551616) (hc : c < 18446744073709551616) : bits .or .u64 (a : Int) (c : Int) = ((a ||| c : Nat) : Int) := by
  have e1 : (BitVec.ofInt 64 (a : Int)).toNat = a := by rw [BitVec.toNat_ofInt]; omega
  have e2 : (BitVec.ofInt 64 (c : Int)).toNat = c := by rw [BitVec.toNat_ofInt]; omega
  show IntKind.u64.wrap ((BitVec.ofInt 64 (a : Int) ||| BitVec.ofInt 64 (c : Int)).toNat : Int) = _
  rw [BitVec.toNat_or, e1, e2]
  have := Nat.or_lt_two_pow (n := 64) (show a < 2 ^ 64 by omega) (show c < 2 ^ 64 by omega)
  exact wu64 (by omega) (by omega)
theorem nan_or (a c : Nat) (hc : 9218868437227405312 < rung c) : isNaN (a ||| c) = true := by
  unfold isNaN
  rw [decide_eq_true_eq]
  unfold rung at hc ⊢
  have h : (a ||| c) % 2 ^ 63 = a % 2 ^ 63 ||| c % 2 ^ 63 := Nat.or_mod_two_pow
  have h2 := Nat.right_le_or (m := c % 2 ^ 63) (n := a % 2 ^ 63)
  rw [← h] at h2
  rw [show (2 : Nat) ^ 63 = 9223372036854775808 by rfl] at h2
  omega
theorem or_nan {a c : Nat} (ha : a < 18446744073709551616) (hc : c < 18446744073709551616) (hn : 9218868437227405312 < rung c) : ∃ p : Nat, bits .or .u64 (a : Int) (c : Int) = (p : Int) ∧ p < 18446744073709551616 ∧ isNaN p = true :=
  ⟨a ||| c, orn a c ha hc, Nat.or_lt_two_pow (n := 64) ha hc, nan_or a c hn⟩
theorem sum_nan (p q : Nat) (h : isNaN p = true) : sumF p q = 9221120237041090560 := by
  refine sumF_none ?_
  show ((Ieee.double.read p).sum (Ieee.double.read q)).map _ = none
  rw [read_nan p (of_decide_eq_true h)]
  rfl
theorem add_nan (p : Nat) (h : isNaN p = true) (x : Vl) : addV (fv p) x = if x.k = 2 ∨ x.k = 3 then ⟨3, 0, 9221120237041090560, ⟨#[]⟩⟩ else ⟨0, 0, 0, ⟨#[]⟩⟩ := by
  unfold addV
  rw [if_neg (by rintro ⟨h, _⟩; exact absurd (show (3 : Int) = 2 from h) (by decide))]
  have e : numV (fv p) = some p := rfl
  rw [e]
  unfold numV
  by_cases h2 : x.k = 2
  · rw [if_pos h2, if_pos (.inl h2)]; simp only [sum_nan p _ h]
  · by_cases h3 : x.k = 3
    · rw [if_neg h2, if_pos h3, if_pos (.inr h3)]; simp only [sum_nan p _ h]
    · rw [if_neg h2, if_neg h3, if_neg (by omega)]
theorem text_nan (p : Nat) (h : isNaN p = true) : textV (fv p) = [102, 55, 102, 102, 56, 48, 48, 48, 48, 48, 48, 48, 48, 48, 48, 48, 48] := by
  have e : textV (fv p) = 102 :: hexN 16 (nbits p) := rfl
  rw [e, nbits_nan h]
  decide
theorem wire_nan (p : Nat) (h : isNaN p = true) : wireV (fv p) = 3 :: fixN 8 9221120237041090560 := by
  have e : wireV (fv p) = 3 :: fixN 8 (nbits p) := rfl
  rw [e, nbits_nan h]
theorem cmp_nan (p q : Nat) (hp : isNaN p = true) (hq : isNaN q = true) (x : Vl) : cmpV (fv p) x = cmpV (fv q) x := by
  unfold cmpV
  have e : cmpI (K (fv p).f) (K x.f) = cmpI (K (fv q).f) (K x.f) := by
    rw [show (fv p).f = p from rfl, show (fv q).f = q from rfl, K_nan hp, K_nan hq]
  rw [e]
  rfl
theorem same_nan (p q : Nat) (hp : isNaN p = true) (hq : isNaN q = true) : cmpV (fv p) (fv q) = 0 := by
  have a := cmp_nan p q hp hq (fv q)
  rw [a, cmpV_eq]
  have e : ∀ z, cmpI z z = 0 := fun z => (cmpI_zero z z).2 rfl
  have e2 : ∀ z, cmpS z z = 0 := fun z => (cmpS_zero z z).2 rfl
  simp [e, e2]
theorem ok_fv (p : Nat) : okV (fv p) = true := by rfl
section rules
variable {P : Program} {rd : Option Nat} {n : Nat} {ops : Array Oper} {C : World → Prop} {K : Fr → Prop} {Q : Post} {rest : List Oper} {F : Fr} {ds : List Deferred} {w : World} {ty : TypeId} {pos : String} {after : Array Edge}
theorem bytes_run {t t' e : Nat} {v : Value} {l : List UInt8} (hi : Ints w .u8 v (nums l)) (hne : l ≠ []) (ht : P.underlying t = some (.slice e)) (he : P.underlying e = some (.int .u8)) (ht' : P.underlying t' = some .string) :
    (convert t t' v).run P w = .ok (.string ⟨l.toArray⟩) w := by
  obtain ⟨b, off, cap, hv, _, hc⟩ := hi
  have hl : (nums l).length = l.length := by unfold nums; simp
  rcases hv with rfl | ⟨_, hz⟩
  · rw [hl]
    refine run_convert_bytes_back (P := P) w t t' e ⟨b, off, none⟩ cap l ht he ht' (fun j hj => ?_)
    rw [add_none]
    refine (hc j (by omega)).trans ?_
    unfold nums
    simp
  · exact absurd (by cases l with | nil => rfl | cons => simp [nums] at hz) hne
theorem Lst_bytesI {d t t' e : Nat} {x : Operand} {l : List UInt8} {v : Value} (hx : ev F x = v) (hi : Ints w .u8 v (nums l)) (hne : l ≠ []) (ht : P.underlying t = some (.slice e)) (he : P.underlying e = some (.int .u8)) (ht' : P.underlying t' = some .string) (hd : Nat.blt d n = true)
    (h : Lst P rd n ops Q rest (upd F d (.string ⟨l.toArray⟩)) ds w) : Lst P rd n ops Q (⟨some d, .convert t t' x, ty, pos, after, none⟩ :: rest) F ds w :=
  Lst_value rfl (by simp [execOp, hx, bytes_run hi hne ht he ht']) hd h
theorem Qst_bytesI {d t t' e : Nat} {x : Operand} {l : List UInt8} {v : Value} (hx : ev F x = v) (hi : ∀ w, C w → Ints w .u8 v (nums l)) (hne : l ≠ []) (ht : P.underlying t = some (.slice e)) (he : P.underlying e = some (.int .u8)) (ht' : P.underlying t' = some .string) (hd : Nat.blt d n = true)
    (h : Qst P n ops C K rest (upd F d (.string ⟨l.toArray⟩)) ds) : Qst P n ops C K (⟨some d, .convert t t' x, ty, pos, after, none⟩ :: rest) F ds :=
  Qst_value rfl (fun w hw => by simp [execOp, hx, bytes_run (hi w hw) hne ht he ht']) hd h
def ups (F : Fr) : List (Nat × Value) → Fr
  | [] => F
  | (d, v) :: l => ups (upd F d v) l
def freshQ (F : Fr) (ds : List Deferred) (w : World) (us : List (Nat × Value)) (d : Nat) (vs : List Value) (t : TypeId) : Post
  | .normal, G, ds', A => ds' = ds ∧ ∃ c, (∀ i, G i = upd (ups F us) d (.pointer (some ⟨c, 0, none⟩)) i) ∧ Grown w A ∧ w.heap.size ≤ c ∧ Blk A c vs t
  | _, _, _, _ => False
theorem freshQ_p {us : List (Nat × Value)} {d : Nat} {vs : List Value} {t : TypeId} : ∀ c G ds' w', ¬ freshQ F ds w us d vs t (.panic c) G ds' w' := fun _ _ _ _ h => h
/-- A region that leaves a new block behind, wherever it lies. -/
theorem W_fresh {c : Code} (us : List (Nat × Value)) (d : Nat) (vs : List Value) (t : TypeId) (h1 : W P none n c (freshQ F ds w us d vs t) F ds w)
    (h2 : ∀ b A, Grown w A → w.heap.size ≤ b → Blk A b vs t → Q .normal (upd (ups F us) d (.pointer (some ⟨b, 0, none⟩))) ds A) : W P none n c Q F ds w := fun m a hf =>
  Code.wpIn_mono (fun e a w' hq => by
    obtain ⟨G, ds', hG, hq⟩ := hq
    cases e with
    | normal =>
      obtain ⟨rfl, b, e1, e2, e3, e4⟩ := hq
      exact ⟨_, _, hG.congr e1, h2 b w' e2 e3 e4⟩
    | _ => exact hq.elim) (h1 m a hf)
end rules
attribute [local irreducible] W Lst Qst Pu seqQ blkQ rndQ cutQ retQ Does Enters IntKind.wrap bits sb World.alloc World.putObj Blk
attribute [local irreducible] Rn Tk rnQ
set_option maxHeartbeats 4000000 in
theorem law_ValueNaNs (a b : Nat) (x : Vl) (ha : a < 18446744073709551616) (hb : b < 18446744073709551616) (hx : x.Bd) (w : World) (hT : VTabs w) : Does Tryd.prog 9 #[.int .u64 (a : Int), .int .u64 (b : Int), x.v] w fun v w' => v = .bool true ∧ Below w.heap.size w w' := by
  obtain ⟨p, ep, hp, np⟩ := or_nan ha (show 9218868437227405313 < 18446744073709551616 by omega) (by decide)
  obtain ⟨q, eq, hq, nq⟩ := or_nan hb (show 18442240474082181121 < 18446744073709551616 by omega) (by decide)
  have ep' : bits .or .u64 (a : Int) 9218868437227405313 = (p : Int) := ep
  have eq' : bits .or .u64 (b : Int) 18442240474082181121 = (q : Int) := eq
  clear ep eq
  have fx := fun A => c_fv p A
  have fy := fun A => c_fv q A
  have l1 := fun A => c_light x A
  have ra := fun A => r_Check x A
  have wp : ∀ A b, Blk A b [.slice none 0 0] 46 → Does Tryd.prog 26 #[.pointer (some ⟨b, 0, none⟩), (fv p).v] A fun v w' => v = .tuple #[] ∧ WrAt b (A.heap.size + 1) (wireV (fv p)) w' ∧ Off b A.heap.size A w' := fun A b h => c_Write b (fv p) (ok_fv p) (fv_fit hp) (show (0 : Nat) ≤ 6000 by decide) A h
  have wq : ∀ A b, Blk A b [.slice none 0 0] 46 → Does Tryd.prog 26 #[.pointer (some ⟨b, 0, none⟩), (fv q).v] A fun v w' => v = .tuple #[] ∧ WrAt b (A.heap.size + 1) (wireV (fv q)) w' ∧ Off b A.heap.size A w' := fun A b h => c_Write b (fv q) (ok_fv q) (fv_fit hq) (show (0 : Nat) ≤ 6000 by decide) A h
  rw [wire_nan p np] at wp
  rw [wire_nan q nq] at wq
  have tp := fun A h => c_Text (fv p) (fv_fit hp) (show (0 : Nat) < 1000000 by decide) A h
  have tq := fun A h => c_Text (fv q) (fv_fit hq) (show (0 : Nat) < 1000000 by decide) A h
  rw [text_nan p np] at tp
  rw [text_nan q nq] at tq
  have sm := fun A => c_Same (fv p) (fv q) (fv_fit hp) (fv_fit hq) A
  rw [same_nan p q np nq] at sm
  have ad := fun A => c_Add (fv p) x A
  have cp := fun h A => c_Cmp (fv p) x (fv_fit hp) (hx.fit h) A
  have cq := fun h A => c_Cmp (fv q) x (fv_fit hq) (hx.fit h) A
  rw [cmp_nan p q np nq x] at cp
  generalize cmpV (fv q) x = cv at cp cq
  have hnum : (x.k = 2 ∨ x.k = 3) → (addV (fv p) x).k = 3 ∧ (addV (fv p) x).f = 9221120237041090560 := fun h => by rw [add_nan p np, if_pos h]; exact ⟨rfl, rfl⟩
  have hno : ¬ (x.k = 2 ∨ x.k = 3) → (addV (fv p) x).k = 0 := fun h => by rw [add_nan p np, if_neg h]
  generalize addV (fv p) x = s at ad hnum hno
  have hwl : (3 :: fixN 8 9221120237041090560).length ≤ 1000000 := by decide
  have hwne : (3 :: fixN 8 9221120237041090560 : List UInt8) ≠ [] := by simp
  generalize (3 :: fixN 8 9221120237041090560 : List UInt8) = wx at wp wq hwl hwne
  have ix : ((p : Nat) : Int).toNat = p := Int.toNat_natCast p
  have iy : ((q : Nat) : Int).toNat = q := Int.toNat_natCast q
  obtain ⟨sk, sn, sf, st⟩ := s
  obtain ⟨k, n, f, s⟩ := x
  dsimp only at l1 hnum hno
  clear hp hq np nq ha hb
  refine Does_of (args := [.int .u64 (a : Int), .int .u64 (b : Int), .agg #[.int .i64 k, .int .i64 n, .float .f64 f, .string s]]) Tryd.func9 (by kernel_rfl) rfl rfl rfl rfl rfl ?_
  (refine Ga ?_)
  (apply Lst_call; (focus rfl); (focus rfl))
  refine (c_known _ (hT.below Bel)).mono ?_
  rintro v w1 ⟨rfl, hb1⟩
  have b1 := Sx.Below.after (w := w) Bel hb1
  have s1 := hb1.size
  try simp only [Sx.sizes] at s1
  (refine Ga ?_)
  (apply Lst_call; (focus rfl); (focus rfl))
  refine (l1 _).mono ?_
  rintro v w2 ⟨rfl, hb2⟩
  have b2 := Sx.Below.after (w := w) Bel hb2
  have s2 := hb2.size
  try simp only [Sx.sizes] at s2
  by_cases h1 : s.size ≤ 6000
  · rw [decide_eq_true h1]
    (refine Ga ?_)
    (apply Lst_call; (focus rfl); (focus rfl))
    refine (ra _).mono ?_
    rintro v w3 ⟨rfl, hb3⟩
    have b3 := Sx.Below.after (w := w) Bel hb3
    have s3 := hb3.size
    try simp only [Sx.sizes] at s3
    by_cases o1 : okV ⟨k, n, f, s⟩ = true
    · rw [if_pos o1]
      (refine Ga ?_)
      have hN : w.heap.size + 1 ≤ w3.heap.size := by omega
      refine Lst_abs (fun A => Below w.heap.size w A ∧ Blk A w.heap.size [.int .i64 k, .int .i64 n, .float .f64 f, .string s] 24 ∧ Blk A w3.heap.size [.slice none 0 0] 46 ∧ Blk A (w3.heap.size + 1) [.slice none 0 0] 46 ∧ w3.heap.size + 1 + 1 = A.heap.size) ⟨Bel, (by (repeat (first | assumption | (apply Blk.below (hb := hb1); rotate_left; (focus ((try simp only [Sx.sizes]); omega)); rotate_right) | (apply Blk.below (hb := hb2); rotate_left; (focus ((try simp only [Sx.sizes]); omega)); rotate_right) | (apply Blk.below (hb := hb3); rotate_left; (focus ((try simp only [Sx.sizes]); omega)); rotate_right) | (apply Blk.below (hb := hb4); rotate_left; (focus ((try simp only [Sx.sizes]); omega)); rotate_right) | (apply Blk.below (hb := hb5); rotate_left; (focus ((try simp only [Sx.sizes]); omega)); rotate_right) | (apply Blk.below (hb := hb6); rotate_left; (focus ((try simp only [Sx.sizes]); omega)); rotate_right) | (apply Blk.below (hb := hb7); rotate_left; (focus ((try simp only [Sx.sizes]); omega)); rotate_right) | (apply Blk.below (hb := hb8); rotate_left; (focus ((try simp only [Sx.sizes]); omega)); rotate_right) | (apply Blk.below (hb := hb9); rotate_left; (focus ((try simp only [Sx.sizes]); omega)); rotate_right) | exact Blk.newE (by first | rfl | ((try simp only [Sx.sizes]); first | done | omega)) _ _ | exact Blk.put_same (by (try simp only [Sx.sizes]); first | done | omega) _ _ | (apply Blk.put_ne; (focus omega)) | apply Blk.alloc | apply Blk.drew)); done), (by (repeat (first | assumption | (apply Blk.below (hb := hb1); rotate_left; (focus ((try simp only [Sx.sizes]); omega)); rotate_right) | (apply Blk.below (hb := hb2); rotate_left; (focus ((try simp only [Sx.sizes]); omega)); rotate_right) | (apply Blk.below (hb := hb3); rotate_left; (focus ((try simp only [Sx.sizes]); omega)); rotate_right) | (apply Blk.below (hb := hb4); rotate_left; (focus ((try simp only [Sx.sizes]); omega)); rotate_right) | (apply Blk.below (hb := hb5); rotate_left; (focus ((try simp only [Sx.sizes]); omega)); rotate_right) | (apply Blk.below (hb := hb6); rotate_left; (focus ((try simp only [Sx.sizes]); omega)); rotate_right) | (apply Blk.below (hb := hb7); rotate_left; (focus ((try simp only [Sx.sizes]); omega)); rotate_right) | (apply Blk.below (hb := hb8); rotate_left; (focus ((try simp only [Sx.sizes]); omega)); rotate_right) | (apply Blk.below (hb := hb9); rotate_left; (focus ((try simp only [Sx.sizes]); omega)); rotate_right) | exact Blk.newE (by first | rfl | ((try simp only [Sx.sizes]); first | done | omega)) _ _ | exact Blk.put_same (by (try simp only [Sx.sizes]); first | done | omega) _ _ | (apply Blk.put_ne; (focus omega)) | apply Blk.alloc | apply Blk.drew)); done), (by (repeat (first | assumption | (apply Blk.below (hb := hb1); rotate_left; (focus ((try simp only [Sx.sizes]); omega)); rotate_right) | (apply Blk.below (hb := hb2); rotate_left; (focus ((try simp only [Sx.sizes]); omega)); rotate_right) | (apply Blk.below (hb := hb3); rotate_left; (focus ((try simp only [Sx.sizes]); omega)); rotate_right) | (apply Blk.below (hb := hb4); rotate_left; (focus ((try simp only [Sx.sizes]); omega)); rotate_right) | (apply Blk.below (hb := hb5); rotate_left; (focus ((try simp only [Sx.sizes]); omega)); rotate_right) | (apply Blk.below (hb := hb6); rotate_left; (focus ((try simp only [Sx.sizes]); omega)); rotate_right) | (apply Blk.below (hb := hb7); rotate_left; (focus ((try simp only [Sx.sizes]); omega)); rotate_right) | (apply Blk.below (hb := hb8); rotate_left; (focus ((try simp only [Sx.sizes]); omega)); rotate_right) | (apply Blk.below (hb := hb9); rotate_left; (focus ((try simp only [Sx.sizes]); omega)); rotate_right) | exact Blk.newE (by first | rfl | ((try simp only [Sx.sizes]); first | done | omega)) _ _ | exact Blk.put_same (by (try simp only [Sx.sizes]); first | done | omega) _ _ | (apply Blk.put_ne; (focus omega)) | apply Blk.alloc | apply Blk.drew)); done), by simp only [Sx.sizes]⟩ ?_
      generalize w3.heap.size = N at hN ⊢
      clear hb1 b1 s1 hb2 b2 s2 hb3 b3 s3 l1 ra
      rintro A ⟨b0, ka, k5, k6, hsz⟩
      (apply Lst_call; (focus rfl); (focus rfl))
      refine (fx _).mono ?_
      rintro v w4 ⟨rfl, hb4⟩
      have b4 := Sx.Below.after (w := w) Bel hb4
      have s4 := hb4.size
      try simp only [Sx.sizes] at s4
      (refine Ga ?_)
      have k5' : Blk w4 N [.slice none 0 0] 46 := k5.below hb4 (by omega)
      have k6' : Blk w4 (N + 1) [.slice none 0 0] 46 := k6.below hb4 (by omega)
      have ka' := ka.below hb4 (by omega)
      (apply Lst_call; (focus rfl); (focus rfl))
      refine (wp w4 _ k5').mono ?_
      rintro v w5 ⟨rfl, hw5, off5⟩
      have ka5 := Off.blk off5 ka' (by omega) (by omega)
      have k65 := Off.blk off5 k6' (by omega) (by omega)
      have bo5 : Below w.heap.size w4 w5 := off5.below (by omega) (by omega)
      have b5 := b4.trans bo5
      have s5 := off5.size
      (refine Ga ?_)
      clear hb4 k5 k6 ka
      (apply Lst_call; (focus rfl); (focus rfl))
      refine (fy _).mono ?_
      rintro v w6 ⟨rfl, hb6⟩
      have b6 := Sx.Below.after (w := w) Bel hb6
      have s6 := hb6.size
      try simp only [Sx.sizes] at s6
      (refine Ga ?_)
      have k66 := k65.below hb6 (by omega)
      have ka6 := ka5.below hb6 (by omega)
      have hw56 := WrAt.below hw5 hb6
      (apply Lst_call; (focus rfl); (focus rfl))
      refine (wq w6 _ k66).mono ?_
      rintro v w7 ⟨rfl, hw6, off6⟩
      have ka7 := Off.blk off6 ka6 (by omega) (by omega)
      have hw57 := WrAt.off hw56 off6 (by omega) (by omega)
      have bo6 : Below w.heap.size w6 w7 := off6.below (by omega) (by omega)
      have b7 := b6.trans bo6
      have s7 := off6.size
      clear hb6 wp wq hw5 hw56 k5' k6' k65 k66 ka' ka5 ka6 off5 off6 bo5 bo6 b0 b4 b5 b6
      (refine Ga ?_)
      refine W_fresh [(35, .float .f64 ((p : Int).toNat)), (36, (fv p).v), (37, .agg #[.int .i64 k, .int .i64 n, .float .f64 f, .string s]), (38, .agg #[.int .i64 sk, .int .i64 sn, .float .f64 sf, .string st])] 11 [.int .i64 sk, .int .i64 sn, .float .f64 sf, .string st] 24 ?_ ?_
      · have g0 : Grown w7 w7.drew := grown_start _
        refine W_drawS 6 (Grown w7) rfl rfl ?_
        refine S_take 0 5 rfl (by kernel_rfl) freshQ_p g0 ?_
        (refine Gt ?_)
        refine S_take 2 4 rfl (by kernel_rfl) freshQ_p g0 ?_
        (refine Gt ?_)
        refine S_any [1, 4] 3 rfl (by kernel_rfl) (all2 ?_ ?_)
        · (refine Gt ?_)
          (apply Lst_call; (focus rfl); (focus rfl))
          refine (fx _).mono ?_
          rintro v w8 ⟨rfl, hb8⟩
          have g8 := Sx.Below.after g0 hb8
          have z8 := g8.size
          (refine Gt ?_)
          refine ⟨g8, ?_⟩
          refine S_any [3, 4] 2 rfl (by kernel_rfl) (all2 ?_ ?_)
          · (refine Gt ?_)
            (apply Lst_call; (focus rfl); (focus rfl))
            refine (ad _).mono ?_
            rintro v w9 ⟨rfl, hb9⟩
            have g9 := Sx.Below.after g8 hb9
            have z9 := g9.size
            (refine Gt ?_)
            refine ⟨g9, ?_⟩
            refine S_any [4] 1 rfl (by kernel_rfl) (all1 ?_)
            (refine Gt ?_)
            refine ⟨Bel, ?_⟩
            refine S_any [5] 0 rfl (by kernel_rfl) (all1 ?_)
            (refine Gt ?_)
            refine ⟨Bel, ?_⟩
            refine S_done (by kernel_rfl) ⟨rfl, w9.heap.size, ?_, Bel, (by (try simp only [Sx.sizes]); omega), (by (repeat (first | assumption | (apply Blk.below (hb := hb1); rotate_left; (focus ((try simp only [Sx.sizes]); omega)); rotate_right) | (apply Blk.below (hb := hb2); rotate_left; (focus ((try simp only [Sx.sizes]); omega)); rotate_right) | (apply Blk.below (hb := hb3); rotate_left; (focus ((try simp only [Sx.sizes]); omega)); rotate_right) | (apply Blk.below (hb := hb4); rotate_left; (focus ((try simp only [Sx.sizes]); omega)); rotate_right) | (apply Blk.below (hb := hb5); rotate_left; (focus ((try simp only [Sx.sizes]); omega)); rotate_right) | (apply Blk.below (hb := hb6); rotate_left; (focus ((try simp only [Sx.sizes]); omega)); rotate_right) | (apply Blk.below (hb := hb7); rotate_left; (focus ((try simp only [Sx.sizes]); omega)); rotate_right) | (apply Blk.below (hb := hb8); rotate_left; (focus ((try simp only [Sx.sizes]); omega)); rotate_right) | (apply Blk.below (hb := hb9); rotate_left; (focus ((try simp only [Sx.sizes]); omega)); rotate_right) | exact Blk.newE (by first | rfl | ((try simp only [Sx.sizes]); first | done | omega)) _ _ | exact Blk.put_same (by (try simp only [Sx.sizes]); first | done | omega) _ _ | (apply Blk.put_ne; (focus omega)) | apply Blk.alloc | apply Blk.drew)); done)⟩
            intro i
            by_cases e35 : i = 35
            · subst e35; rfl
            by_cases e36 : i = 36
            · subst e36; rfl
            by_cases e37 : i = 37
            · subst e37; rfl
            by_cases e38 : i = 38
            · subst e38; rfl
            by_cases e11 : i = 11
            · subst e11; rfl
            simp only [ups, upd, updO, Sx.beq_ne e35, Sx.beq_ne e36, Sx.beq_ne e37, Sx.beq_ne e38, Sx.beq_ne e11, cond_false]
          · (refine Gt ?_)
            refine ⟨Bel, ?_⟩
            refine S_any [3] 1 rfl (by kernel_rfl) (all1 ?_)
            (refine Gt ?_)
            (apply Lst_call; (focus rfl); (focus rfl))
            refine (ad _).mono ?_
            rintro v w9 ⟨rfl, hb9⟩
            have g9 := Sx.Below.after (w := w7) Bel hb9
            have z9 := hb9.size
            try simp only [Sx.sizes] at z9
            (refine Gt ?_)
            refine ⟨g9, ?_⟩
            refine S_any [5] 0 rfl (by kernel_rfl) (all1 ?_)
            (refine Gt ?_)
            refine ⟨Bel, ?_⟩
            refine S_done (by kernel_rfl) ⟨rfl, w8.heap.size, ?_, Bel, (by (try simp only [Sx.sizes]); omega), (by (repeat (first | assumption | (apply Blk.below (hb := hb1); rotate_left; (focus ((try simp only [Sx.sizes]); omega)); rotate_right) | (apply Blk.below (hb := hb2); rotate_left; (focus ((try simp only [Sx.sizes]); omega)); rotate_right) | (apply Blk.below (hb := hb3); rotate_left; (focus ((try simp only [Sx.sizes]); omega)); rotate_right) | (apply Blk.below (hb := hb4); rotate_left; (focus ((try simp only [Sx.sizes]); omega)); rotate_right) | (apply Blk.below (hb := hb5); rotate_left; (focus ((try simp only [Sx.sizes]); omega)); rotate_right) | (apply Blk.below (hb := hb6); rotate_left; (focus ((try simp only [Sx.sizes]); omega)); rotate_right) | (apply Blk.below (hb := hb7); rotate_left; (focus ((try simp only [Sx.sizes]); omega)); rotate_right) | (apply Blk.below (hb := hb8); rotate_left; (focus ((try simp only [Sx.sizes]); omega)); rotate_right) | (apply Blk.below (hb := hb9); rotate_left; (focus ((try simp only [Sx.sizes]); omega)); rotate_right) | exact Blk.newE (by first | rfl | ((try simp only [Sx.sizes]); first | done | omega)) _ _ | exact Blk.put_same (by (try simp only [Sx.sizes]); first | done | omega) _ _ | (apply Blk.put_ne; (focus omega)) | apply Blk.alloc | apply Blk.drew)); done)⟩
            intro i
            by_cases e35 : i = 35
            · subst e35; rfl
            by_cases e36 : i = 36
            · subst e36; rfl
            by_cases e37 : i = 37
            · subst e37; rfl
            by_cases e38 : i = 38
            · subst e38; rfl
            by_cases e11 : i = 11
            · subst e11; rfl
            simp only [ups, upd, updO, Sx.beq_ne e35, Sx.beq_ne e36, Sx.beq_ne e37, Sx.beq_ne e38, Sx.beq_ne e11, cond_false]
        · (refine Gt ?_)
          refine ⟨Bel, ?_⟩
          refine S_any [1] 2 rfl (by kernel_rfl) (all1 ?_)
          (refine Gt ?_)
          (apply Lst_call; (focus rfl); (focus rfl))
          refine (fx _).mono ?_
          rintro v w8 ⟨rfl, hb8⟩
          have g8 := Sx.Below.after (w := w7) Bel hb8
          have z8 := hb8.size
          try simp only [Sx.sizes] at z8
          (refine Gt ?_)
          refine ⟨g8, ?_⟩
          refine S_any [3] 1 rfl (by kernel_rfl) (all1 ?_)
          (refine Gt ?_)
          (apply Lst_call; (focus rfl); (focus rfl))
          refine (ad _).mono ?_
          rintro v w9 ⟨rfl, hb9⟩
          have g9 := Sx.Below.after (w := w7) Bel hb9
          have z9 := hb9.size
          try simp only [Sx.sizes] at z9
          (refine Gt ?_)
          refine ⟨g9, ?_⟩
          refine S_any [5] 0 rfl (by kernel_rfl) (all1 ?_)
          (refine Gt ?_)
          refine ⟨Bel, ?_⟩
          refine S_done (by kernel_rfl) ⟨rfl, w7.drew.heap.size, ?_, Bel, (by (try simp only [Sx.sizes]); omega), (by (repeat (first | assumption | (apply Blk.below (hb := hb1); rotate_left; (focus ((try simp only [Sx.sizes]); omega)); rotate_right) | (apply Blk.below (hb := hb2); rotate_left; (focus ((try simp only [Sx.sizes]); omega)); rotate_right) | (apply Blk.below (hb := hb3); rotate_left; (focus ((try simp only [Sx.sizes]); omega)); rotate_right) | (apply Blk.below (hb := hb4); rotate_left; (focus ((try simp only [Sx.sizes]); omega)); rotate_right) | (apply Blk.below (hb := hb5); rotate_left; (focus ((try simp only [Sx.sizes]); omega)); rotate_right) | (apply Blk.below (hb := hb6); rotate_left; (focus ((try simp only [Sx.sizes]); omega)); rotate_right) | (apply Blk.below (hb := hb7); rotate_left; (focus ((try simp only [Sx.sizes]); omega)); rotate_right) | (apply Blk.below (hb := hb8); rotate_left; (focus ((try simp only [Sx.sizes]); omega)); rotate_right) | (apply Blk.below (hb := hb9); rotate_left; (focus ((try simp only [Sx.sizes]); omega)); rotate_right) | exact Blk.newE (by first | rfl | ((try simp only [Sx.sizes]); first | done | omega)) _ _ | exact Blk.put_same (by (try simp only [Sx.sizes]); first | done | omega) _ _ | (apply Blk.put_ne; (focus omega)) | apply Blk.alloc | apply Blk.drew)); done)⟩
          intro i
          by_cases e35 : i = 35
          · subst e35; rfl
          by_cases e36 : i = 36
          · subst e36; rfl
          by_cases e37 : i = 37
          · subst e37; rfl
          by_cases e38 : i = 38
          · subst e38; rfl
          by_cases e11 : i = 11
          · subst e11; rfl
          simp only [ups, upd, updO, Sx.beq_ne e35, Sx.beq_ne e36, Sx.beq_ne e37, Sx.beq_ne e38, Sx.beq_ne e11, cond_false]
      · intro c w8 hb8 hc kc
        have b8 := Sx.Below.after b7 hb8
        have z8 := hb8.size
        have ka8 : Blk w8 w.heap.size [.int .i64 k, .int .i64 n, .float .f64 f, .string s] 24 := ka7.below hb8 (by omega)
        have hw58 := WrAt.below hw57 hb8
        have hw68 := WrAt.below hw6 hb8
        clear hb8 ka7 hw57 hw6 b7
        dsimp only [ups]
        have hkk : (k = 2 ∧ sk = 3 ∧ sf = 9221120237041090560) ∨ (k = 3 ∧ sk = 3 ∧ sf = 9221120237041090560) ∨ (k ≠ 2 ∧ k ≠ 3 ∧ sk = 0) := by
          by_cases e2 : k = 2
          · exact .inl ⟨e2, hnum (.inl e2)⟩
          · by_cases e3 : k = 3
            · exact .inr (.inl ⟨e3, hnum (.inr e3)⟩)
            · exact .inr (.inr ⟨e2, e3, hno (by omega)⟩)
        clear hnum hno
        rcases hkk with ⟨hk, rfl, rfl⟩ | ⟨hk, rfl, rfl⟩ | ⟨hk2, hk3, rfl⟩
        all_goals
          (refine Ga ?_)
          refine W_drawN 6 5 50 (Grown _) rfl (by kernel_rfl) rfl (grown_start _) ?_
          (refine Qb ?_)
          apply Qst_call ((fv p).v)
          focus rfl
          focus rfl
          · intro A9 hb9
            exact (fx A9).mono fun v w' h => ⟨h.1, Sx.Below.after hb9 h.2⟩
          (refine Qb ?_)
          apply Qst_call ((fv q).v)
          focus rfl
          focus rfl
          · intro A9 hb9
            exact (fy A9).mono fun v w' h => ⟨h.1, Sx.Below.after hb9 h.2⟩
          (refine Qb ?_)
          apply Qst_call (.bool true)
          focus rfl
          focus rfl
          · intro A9 hb9
            exact (sm A9).mono fun v w' h => ⟨h.1, Sx.Below.after hb9 h.2⟩
          (refine Qb ?_)
          intro w9 hb9
          have b9 := Sx.Below.after (w := w) Bel hb9
          have s9 := hb9.size
          try simp only [Sx.sizes] at s9
          have hr5 := WrAt.below hw58 hb9
          have hr6 := WrAt.below hw68 hb9
          have ka9 := ka8.below hb9 ka8.lt
          have kc9 := kc.below hb9 kc.lt
          clear hb9 hw58 hw68 ka8 kc
          refine R_force 6 (by kernel_rfl) ?_
          (refine Gt ?_)
          (apply Lst_call; (focus rfl); (focus rfl))
          refine (c_WBytes _ _ wx hwl _ hr5).mono ?_
          rintro u w10 ⟨hu, hb10⟩
          have b10 := Sx.Below.after b9 hb10
          have hr6' := WrAt.below hr6 hb10
          have ka10 := ka9.below hb10 ka9.lt
          have kc10 := kc9.below hb10 kc9.lt
          (refine Gt ?_)
          refine R_takeN 7 [8, 9, 10] 45 (Grown w10) rfl (by kernel_rfl) (by repeat (first | exact retQ_p | apply seqQ_p | apply blkQ_p)) (Below.refl _ _) ?_
          (refine Gt ?_)
          refine Qst_bytesI rfl (fun A hA => hu.below hA (Nat.le_refl _)) hwne rfl rfl rfl rfl ?_
          (refine Gt ?_)
          (apply Lst_call; (focus rfl); (focus rfl))
          refine (c_WBytes _ _ wx hwl _ hr6').mono ?_
          rintro u' w11 ⟨hu', hb11⟩
          have b11 := Sx.Below.after b10 hb11
          have ka11 := ka10.below hb11 ka10.lt
          have kc11 := kc10.below hb11 kc10.lt
          have gw : Grown w10 w11 := hb11
          (refine Gt ?_)
          refine Lst_bytesI rfl hu' hwne rfl rfl rfl rfl ?_
          (refine Gt ?_)
          refine R_quiet 11 (Grown w11) (by kernel_rfl) (Below.refl _ _) ?_
          clear hu hu' hr5 hr6 hr6' hb10 hb11 gw
          have z11 := ka11.lt
          have y11 := kc11.lt
          (refine Qb ?_)
          apply Qst_call ((fv p).v)
          focus rfl
          focus rfl
          · intro A9 hb9
            exact (fx A9).mono fun v w' h => ⟨h.1, Sx.Below.after hb9 h.2⟩
          (refine Qb ?_)
          apply Qst_call (.string ⟨#[102, 55, 102, 102, 56, 48, 48, 48, 48, 48, 48, 48, 48, 48, 48, 48, 48]⟩)
          focus rfl
          focus rfl
          · intro A9 hb9
            exact (tp A9 ((hT.below b11).below hb9)).mono fun v w' h => ⟨h.1, Sx.Below.after hb9 h.2⟩
          (refine Qb ?_)
          apply Qst_call ((fv q).v)
          focus rfl
          focus rfl
          · intro A9 hb9
            exact (fy A9).mono fun v w' h => ⟨h.1, Sx.Below.after hb9 h.2⟩
          (refine Qb ?_)
          apply Qst_call (.string ⟨#[102, 55, 102, 102, 56, 48, 48, 48, 48, 48, 48, 48, 48, 48, 48, 48, 48]⟩)
          focus rfl
          focus rfl
          · intro A9 hb9
            exact (tq A9 ((hT.below b11).below hb9)).mono fun v w' h => ⟨h.1, Sx.Below.after hb9 h.2⟩
          (refine Qb ?_)
          apply Qst_call ((fv p).v)
          focus rfl
          focus rfl
          · intro A9 hb9
            exact (fx A9).mono fun v w' h => ⟨h.1, Sx.Below.after hb9 h.2⟩
          (refine Qb ?_)
          apply Qst_call (.string ⟨#[102, 55, 102, 102, 56, 48, 48, 48, 48, 48, 48, 48, 48, 48, 48, 48, 48]⟩)
          focus rfl
          focus rfl
          · intro A9 hb9
            exact (tp A9 ((hT.below b11).below hb9)).mono fun v w' h => ⟨h.1, Sx.Below.after hb9 h.2⟩
          (refine Qb ?_)
          apply Qst_call ((fv p).v)
          focus rfl
          focus rfl
          · intro A9 hb9
            exact (fx A9).mono fun v w' h => ⟨h.1, Sx.Below.after hb9 h.2⟩
          (refine Qb ?_)
          apply Qst_call (.int .i64 cv)
          focus rfl
          focus rfl
          · intro A9 hb9
            exact (cp h1 A9).mono fun v w' h => ⟨h.1, Sx.Below.after hb9 h.2⟩
          (refine Qb ?_)
          apply Qst_call ((fv q).v)
          focus rfl
          focus rfl
          · intro A9 hb9
            exact (fy A9).mono fun v w' h => ⟨h.1, Sx.Below.after hb9 h.2⟩
          (refine Qb ?_)
          apply Qst_call (.int .i64 cv)
          focus rfl
          focus rfl
          · intro A9 hb9
            exact (cq h1 A9).mono fun v w' h => ⟨h.1, Sx.Below.after hb9 h.2⟩
          (refine Qb ?_)
          intro w9 hb9
          have b9 := Sx.Below.after (w := w) Bel hb9
          have s9 := hb9.size
          try simp only [Sx.sizes] at s9
          (refine Ga ?_)
          (apply retQ1; (focus rfl))
          exact ⟨rfl, Sx.Below.after b11 hb9⟩
    · rw [if_neg o1]
      (refine Ga ?_)
      (apply retQ1; (focus rfl))
      exact ⟨rfl, Bel⟩
  · rw [decide_eq_false h1]
    (refine Ga ?_)
    (apply retQ1; (focus rfl))
    exact ⟨rfl, Bel⟩
end Val
end Go.Proofs.YtnlmilcfmalodaaDoor
