/- DiskRoom: the plain law and the walk. -/
import Derived.Test.YtgcklcpbmlibdaaDkBoth
namespace Go.Proofs.Ytgcklcpbmlibdaa
set_option maxRecDepth 100000
namespace Dk
open Go Go.RowKit Sx
section loads
variable {P : Program} {rd : Option Nat} {n : Nat} {ops : Array Oper} {Q : Post} {rest : List Oper} {F : Fr} {ds : List Deferred} {w : World} {ty : TypeId} {pos : String} {after : Array Edge}
/-- A struct read whole, wherever it lies. -/
theorem Lst_loadS {d b off : Nat} {x : Operand} {t : TypeId} {u : TypeDesc} {i : TypeInfo} {cs : List Value} (hx : ev F x = .pointer (some ⟨b, off, none⟩)) (ht : P.underlying t = some u) (hu : u.isRow = true) (hi : P.info? t = some i) (hs : i.size = cs.length) (hc : ∀ (j : Nat) (v : Value), cs[j]? = some v → w.cell? ⟨b, off + j, none⟩ = some v) (hd : Nat.blt d n = true)
    (h : Lst P rd n ops Q rest (upd F d (.agg cs.toArray)) ds w) : Lst P rd n ops Q (⟨some d, .load t x, ty, pos, after, none⟩ :: rest) F ds w :=
  Lst_value rfl (by
    have := run_loadAt_mid (P := P) w b off t cs u hc ht hu (by rw [hi]; simp [hs])
    simp [execOp, hx, this]) hd h
end loads
structure Room (R : Int) (d : Dsk) : Prop where
  dead : d.dead = false
  cut : d.cut = -1
  room : d.room = R
  used : (used d.es : Int) ≤ R
theorem done_same {d : Dsk} {es : List (ByteArray × Fl)} (h : d.cut = -1) : Dsk.done { d with es := es } = { d with es := es } := by
  unfold Dsk.done
  rw [if_neg (by show ¬ 0 < d.cut; omega)]
theorem Room.put {R : Int} {d : Dsk} {es : List (ByteArray × Fl)} (h : Room R d) (hu : (Dk.used es : Int) ≤ R) : Room R (Dsk.done { d with es := es }) := by
  rw [done_same h.cut]
  exact ⟨h.dead, h.cut, h.room, hu⟩
theorem Room.truncate {R : Int} {d : Dsk} (h : Room R d) (n : ByteArray) (z : Int) : Room R (d.truncate n z).2 := by
  unfold Dsk.truncate
  split
  · refine h.put ?_
    have e1 := used_put n ⟨(d.file n).b.take (cutTo (d.file n) z), min (d.file n).safe (cutTo (d.file n) z)⟩ d.es
    have e2 := h.used
    have e3 : ((Sx.look d.es n).getD f0) = d.file n := rfl
    rw [e3] at e1
    have e4 : ((d.file n).b.take (cutTo (d.file n) z)).length ≤ (d.file n).b.length := by rw [List.length_take]; omega
    dsimp only at e1
    omega
  · exact h
theorem Room.delete {R : Int} {d : Dsk} (h : Room R d) (n : ByteArray) : Room R (d.delete n).2 := by
  unfold Dsk.delete
  split
  · refine h.put ?_
    have e1 := used_del n d.es
    have e2 := h.used
    omega
  · exact h
theorem read_live {d : Dsk} (h : d.dead = false) (n : ByteArray) : (d.read n).1 = (d.file n).b := by
  unfold Dsk.read
  by_cases h0 : d.isE n = 0
  · rw [if_pos h0]
  · rw [if_neg h0]
    unfold Dsk.isE at h0
    rw [h] at h0
    simp only [Bool.false_eq_true, if_false] at h0
    unfold Dsk.file
    cases hl : Sx.look d.es n with
    | none => rfl
    | some f => rw [hl] at h0; exact absurd rfl h0
theorem nameOk_iff (n : ByteArray) : nameOk n = true ↔ 1 ≤ n.size ∧ n.size ≤ 32 := by
  unfold nameOk
  simp only [Bool.and_eq_true, decide_eq_true_eq, ne_eq]
  refine and_congr ⟨fun h => ?_, fun h e => ?_⟩ Iff.rfl
  · rcases Nat.eq_zero_or_pos n.size with h0 | h0
    · refine absurd ?_ h
      apply ByteArray.ext
      exact Array.eq_empty_of_size_eq_zero h0
    · exact h0
  · subst e
    exact absurd h (by decide)
theorem room_fits {R : Int} {d : Dsk} (h : Room R d) (hR : R < 200) (n : ByteArray) (b : List UInt8) (hu : (used d.es : Int) + (b.length : Int) ≤ R) (h1 : 1 ≤ n.size) (h2 : n.size ≤ 32) :
    ∃ d2, d.append n b = (0, d2) ∧ Room R d2 ∧ d2.read n = ((d.file n).b ++ b, 0) := by
  have hf := file_used d n
  have hfull : d.full n b.length = false := by
    unfold Dsk.full
    rw [decide_eq_false (by omega), decide_eq_false (by rw [h.room]; omega)]
    rfl
  refine ⟨{ d with es := Sx.put d.es n ⟨(d.file n).b ++ b, (d.file n).safe⟩ }, ?_, ⟨h.dead, h.cut, h.room, ?_⟩, ?_⟩
  · unfold Dsk.append
    rw [if_neg (by rw [h.dead]; decide), if_pos ((nameOk_iff n).2 ⟨h1, h2⟩), if_neg (by rw [hfull]; decide), done_same h.cut]
  · have e1 := used_put n ⟨(d.file n).b ++ b, (d.file n).safe⟩ d.es
    have e3 : ((Sx.look d.es n).getD f0) = d.file n := rfl
    rw [e3] at e1
    dsimp only at e1 ⊢
    rw [List.length_append] at e1
    omega
  · have e1 := look_put n n (⟨(d.file n).b ++ b, (d.file n).safe⟩ : Fl) d.es
    rw [if_pos rfl] at e1
    have e2 : Dsk.file { d with es := Sx.put d.es n ⟨(d.file n).b ++ b, (d.file n).safe⟩ } n = ⟨(d.file n).b ++ b, (d.file n).safe⟩ := by
      show ((Sx.look (Sx.put d.es n _) n).getD f0) = _
      rw [e1]
      rfl
    have e3 : Dsk.isE { d with es := Sx.put d.es n ⟨(d.file n).b ++ b, (d.file n).safe⟩ } n = 0 := by
      show (if d.dead then 43 else if (Sx.look (Sx.put d.es n _) n).isNone then 40 else 0) = _
      rw [e1, h.dead]
      rfl
    unfold Dsk.read
    rw [if_pos e3, e2]
theorem room_not {R : Int} {d : Dsk} (h : Room R d) (n : ByteArray) (b : List UInt8) (hn : ¬ ((used d.es : Int) + (b.length : Int) ≤ R ∧ 1 ≤ n.size ∧ n.size ≤ 32)) :
    ∃ e, d.append n b = (e, d) ∧ e ≠ 0 := by
  unfold Dsk.append
  rw [h.dead]
  simp only [Bool.false_eq_true, if_false]
  by_cases hok : nameOk n = true
  · have hfull : d.full n b.length = true := by
      have := (nameOk_iff n).1 hok
      unfold Dsk.full
      rw [decide_eq_true (by rw [h.room]; omega : d.room < ((used d.es + b.length : Nat) : Int)), Bool.or_true]
    rw [if_pos hok, hfull, if_pos rfl]
    exact ⟨_, rfl, by decide⟩
  · rw [if_neg hok]
    exact ⟨_, rfl, by decide⟩
theorem nums_len (l : List UInt8) : (nums l).length = l.length := by unfold nums; rw [List.length_map]
theorem Ints.lform {w : World} {v : Value} {l : List UInt8} (h : Ints w .u8 v (nums l)) : ∃ a c, v = .slice a l.length c := by
  obtain ⟨a, c, hv⟩ := h.form
  rw [nums_len] at hv
  exact ⟨a, c, hv⟩
attribute [local irreducible] W Lst Qst Pu seqQ blkQ rndQ cutQ retQ Does Enters IntKind.wrap bits sb World.alloc World.putObj Blk
set_option maxHeartbeats 8000000 in
theorem law_DiskRoom (room : Int) (v : Value) (l : List St) (hl : l.length ≤ 281474976710656) (w : World) (hW : Steps w v l) :
    Does Try.prog 6 #[.int .i64 room, v] w fun r w' => r = .bool true ∧ Below w.heap.size w w' := by
  obtain ⟨va, vc, rfl⟩ := hW.1
  refine Does_of (args := [.int .i64 room, .slice va l.length vc]) Try.func6 (by kernel_rfl) rfl rfl rfl rfl rfl ?_
  (refine Ga ?_)
  (apply Lst_call; (focus rfl); (focus rfl))
  refine (c_known _).mono ?_
  rintro v w1 ⟨rfl, hb1⟩
  have b1 := Sx.Below.after (w := w) Bel hb1
  have s1 := hb1.size
  try simp only [Sx.sizes] at s1
  (refine Ga ?_)
  (apply Lst_call; (focus rfl); (focus rfl))
  refine (c_light _ l hl _ (hW.below hb1 (Nat.le_refl _))).mono ?_
  rintro r w2 ⟨t, rfl, hb2, ht⟩
  have b2 := b1.trans (hb2.mono b1.size)
  cases t
  · (refine Ga ?_)
    (apply retQ1; (focus rfl))
    exact ⟨rfl, b2⟩
  obtain ⟨hl3, hwt⟩ := ht rfl
  clear hb1 hb2 b1 ht hl
  generalize hN : room % 200 = R
  have hR0 : 0 ≤ R := by omega
  have hR1 : R < 200 := by omega
  have cP := fun A => c_Place room 200 (by omega) (by omega) A
  rw [hN] at cP
  (refine Ga ?_)
  (apply Lst_call; (focus rfl); (focus rfl))
  refine (cP _).mono ?_
  rintro v w' ⟨rfl, rfl⟩
  (refine Ga ?_)
  (apply Lst_call; (focus rfl); (focus rfl))
  refine (c_New R _).mono ?_
  rintro r w3 ⟨p, mb, rfl, hp, hmb, hd0, hb3⟩
  have hp' : w.heap.size ≤ p := Nat.le_trans b2.size hp
  have hmb' : w.heap.size ≤ mb := Nat.le_trans b2.size hmb
  have b3 := b2.trans (hb3.mono b2.size)
  have hmx : max R 0 = R := by omega
  rw [hmx] at hd0
  have hroom : Room R ⟨[], R, -1, false⟩ := ⟨rfl, rfl, rfl, hR0⟩
  clear hb3 b2 hp hmb hmx
  (refine Ga ?_)
  refine W_loop (α := Nat × Dsk) (fun x => [(0, .int .i64 R), (1, .slice va l.length vc), (5, .pointer (some ⟨p, 0, none⟩)), (6, .int .i64 (x.1 : Int))])
    (fun x A => x.1 ≤ l.length ∧ Room R x.2 ∧ DkAt A p mb x.2 ∧ Below w.heap.size w A) (fun x _ => l.length - x.1) (0, ⟨[], R, -1, false⟩)
    ⟨Nat.zero_le _, hroom, hd0, b3⟩ ⟨rfl, rfl, rfl, rfl, trivial⟩ ?_
  clear hd0 hroom b3
  rintro J ⟨i, d⟩ A ⟨hi, hrm, hd, hbA⟩
  dsimp only at hi hrm hd ⊢
  have hs := hW.below hbA (Nat.le_refl _)
  have hAs := hbA.size
  by_cases hil : i < l.length
  · obtain ⟨b, off, c', hv, hst⟩ := hs.2 i hil
    have hw := weight_get l i hil
    have hw2 := weight_le l i
    simp only [Value.slice.injEq] at hv
    obtain ⟨rfl, _, rfl⟩ := hv
    obtain ⟨bv, hbv, hby⟩ := hst.bytes
    obtain ⟨kv1, kv2, hkv⟩ := hst.keep
    have hnm := hst.name
    have hto := hst.to
    have hnn := hst.n
    have hwn := hst.wn
    have hwh := hst.what
    have z1 := hst.z1
    obtain ⟨bv1, bv2, rfl⟩ := hby.form
    generalize l[i] = s at *
    have hus := hrm.used
    have hfu := file_used d s.name
    have hcut := hrm.cut
    have hpl := hd.pl
    have hml := hd.ml
    clear hs hst
    have hcells : ∀ (j : Nat) (v : Value), [Value.int .i64 s.what, .int .i64 s.n, .string s.name, .string s.to, .slice bv1 s.b.length bv2, .slice kv1 s.k kv2][j]? = some v → A.cell? ⟨b, off + i * 6 + j, none⟩ = some v := by
      intro j v hj
      rcases j with _ | _ | _ | _ | _ | _ | j
      · cases hj; exact hwh
      · cases hj; exact hnn
      · cases hj; exact hnm
      · cases hj; exact hto
      · cases hj; exact hbv
      · cases hj; exact hkv
      · simp at hj
    (refine Ga ?_)
    apply Lst_pu
    · apply P_idx
      focus rfl
      focus rfl
      focus rfl
      focus rfl
      focus rfl
      focus omega
      focus omega
    focus rfl
    (refine Ga ?_)
    apply Lst_loadS (hc := hcells)
    focus rfl
    focus rfl
    focus rfl
    focus rfl
    focus rfl
    focus rfl
    rcases (by omega : (s.what = 0 ∨ s.what = 1 ∨ s.what = 2 ∨ s.what = 3) ∨ s.what = 6 ∨ s.what = 7 ∨ ¬ (s.what = 0 ∨ s.what = 1 ∨ s.what = 2 ∨ s.what = 3 ∨ s.what = 6 ∨ s.what = 7)) with hwv | hwv | hwv | hwv
    · have hF := read_live hrm.dead s.name
      obtain ⟨F, hF2⟩ : ∃ F, F = (d.file s.name).b := ⟨_, rfl⟩
      obtain ⟨E, hE⟩ : ∃ E, E = (d.read s.name).2 := ⟨_, rfl⟩
      have hFl : F.length = (d.file s.name).b.length := by rw [hF2]
      have hrd : d.read s.name = (F, E) := by rw [hF2, hE, ← hF]
      by_cases hfit : (used d.es : Int) + (s.b.length : Int) ≤ R ∧ 1 ≤ s.name.size ∧ s.name.size ≤ 32
      · obtain ⟨f1, f2, f3⟩ := hfit
        obtain ⟨d2, hap, hrm2, hrd2⟩ := room_fits hrm hR1 s.name s.b f1 f2 f3
        rw [← hF2] at hrd2
        have hu2 := hrm2.used
        have hfu2 := file_used d2 s.name
        rcases hwv with hwv | hwv | hwv | hwv
        all_goals
          (refine Ga ?_)
          have cA := fun X hX => c_Read p mb d s.name (by omega) X hX
          simp only [hrd] at cA
          (apply Lst_call; (focus rfl); (focus rfl))
          refine (cA _ (hd.below Bel)).mono ?_
          clear cA
          rintro r w4 ⟨⟨sv, rfl, hsv⟩, hb4⟩
          obtain ⟨sv1, sv2, rfl⟩ := Ints.lform hsv
          have b4 := Sx.Below.after (w := A) Bel hb4
          have k4 : Blk w4 A.heap.size [.int .i64 s.what, .int .i64 s.n, .string s.name, .string s.to, .slice bv1 s.b.length bv2, .slice kv1 s.k kv2] 48 := (by (repeat (first | assumption | (apply Blk.below (hb := hb1); rotate_left; (focus ((try simp only [Sx.sizes]); omega)); rotate_right) | (apply Blk.below (hb := hb2); rotate_left; (focus ((try simp only [Sx.sizes]); omega)); rotate_right) | (apply Blk.below (hb := hb3); rotate_left; (focus ((try simp only [Sx.sizes]); omega)); rotate_right) | (apply Blk.below (hb := hb4); rotate_left; (focus ((try simp only [Sx.sizes]); omega)); rotate_right) | (apply Blk.below (hb := hb5); rotate_left; (focus ((try simp only [Sx.sizes]); omega)); rotate_right) | (apply Blk.below (hb := hb6); rotate_left; (focus ((try simp only [Sx.sizes]); omega)); rotate_right) | (apply Blk.below (hb := hb7); rotate_left; (focus ((try simp only [Sx.sizes]); omega)); rotate_right) | (apply Blk.below (hb := hb8); rotate_left; (focus ((try simp only [Sx.sizes]); omega)); rotate_right) | (apply Blk.below (hb := hb9); rotate_left; (focus ((try simp only [Sx.sizes]); omega)); rotate_right) | exact Blk.newE (by first | rfl | ((try simp only [Sx.sizes]); first | done | omega)) _ _ | exact Blk.put_same (by (try simp only [Sx.sizes]); first | done | omega) _ _ | (apply Blk.put_ne; (focus omega)) | apply Blk.alloc | apply Blk.drew)); done)
          clear hb4
          (refine Ga ?_)
          (apply Lst_call; (focus rfl); (focus rfl))
          refine (c_Used p mb d (by omega) _ (hd.below b4)).mono ?_
          rintro r w5 ⟨rfl, hb5⟩
          have b5 := b4.trans (hb5.mono b4.size)
          have k5 := k4.below hb5 k4.lt
          have hsv := Ints.below hsv hb5 (Nat.le_refl _)
          clear hb5 k4 b4
          have hd5 := hd.below b5
          generalize hU : used d.es = U at *
          (refine Ga ?_)
          have cA := c_AppendBy p mb d (by omega) s.name _ s.b (by omega) (by omega) _ hd5 (hby.below b5 (Nat.le_refl _))
          rw [hap] at cA
          dsimp only at cA
          (apply Lst_call; (focus rfl); (focus rfl))
          refine cA.mono ?_
          clear cA
          rintro r w6 ⟨rfl, hd6, hc6⟩
          have k6 := hc6.blk k5 (by simp only [List.mem_cons, List.not_mem_nil, or_false]; omega)
          have hsv := Ints.chg hsv hc6 hd5.n8
          have b6 := (hbA.trans (b5.mono hAs)).trans (Chg.low hc6 hp' hmb' (by have := b5.size; omega))
          clear hc6 hd5 k5 b5
          (refine Ga ?_)
          have cA := c_Read p mb d2 s.name (by omega) _ hd6
          rw [hrd2] at cA
          dsimp only at cA
          (apply Lst_call; (focus rfl); (focus rfl))
          refine cA.mono ?_
          clear cA
          rintro r w7 ⟨⟨sw, rfl, hsw⟩, hb7⟩
          obtain ⟨sw1, sw2, hv⟩ := Ints.lform hsw
          rw [List.length_append] at hv
          subst hv
          have b7 := b6.trans (hb7.mono b6.size)
          have k7 := k6.below hb7 k6.lt
          have hsv := Ints.below hsv hb7 (Nat.le_refl _)
          have hd7 := hd6.below hb7
          clear hb7 k6 b6 hd6
          (refine Ga ?_)
          (refine Ga ?_)
          (apply Lst_call; (focus rfl); (focus rfl))
          refine (c_Used p mb d2 (by omega) _ hd7).mono ?_
          rintro r w8 ⟨rfl, hb8⟩
          have hd8 := hd7.below hb8
          have b8 := b7.trans (hb8.mono b7.size)
          (refine Ga ?_)
          refine rndQ_n (α := Nat × Dsk) (i + 1, d2) ⟨by dsimp only; omega, hrm2, hd8, b8⟩ ⟨rfl, rfl, rfl, ?_, trivial⟩ (by dsimp only; omega)
          show Value.int .i64 ((i : Int) + 1) = Value.int .i64 ((i + 1 : Nat) : Int)
          rw [Int.natCast_add]
          rfl
      · obtain ⟨e, hap, he⟩ := room_not hrm s.name s.b hfit
        rcases (by omega : ¬ ((used d.es : Int) + (s.b.length : Int) ≤ R) ∨ (((used d.es : Int) + (s.b.length : Int) ≤ R) ∧ s.name.size < 1) ∨ (((used d.es : Int) + (s.b.length : Int) ≤ R) ∧ 1 ≤ s.name.size ∧ 32 < s.name.size)) with f1 | ⟨f1, f2⟩ | ⟨f1, f2, f3⟩
        all_goals rcases hwv with hwv | hwv | hwv | hwv
        all_goals
          (refine Ga ?_)
          have cA := fun X hX => c_Read p mb d s.name (by omega) X hX
          simp only [hrd] at cA
          (apply Lst_call; (focus rfl); (focus rfl))
          refine (cA _ (hd.below Bel)).mono ?_
          clear cA
          rintro r w4 ⟨⟨sv, rfl, hsv⟩, hb4⟩
          obtain ⟨sv1, sv2, rfl⟩ := Ints.lform hsv
          have b4 := Sx.Below.after (w := A) Bel hb4
          have k4 : Blk w4 A.heap.size [.int .i64 s.what, .int .i64 s.n, .string s.name, .string s.to, .slice bv1 s.b.length bv2, .slice kv1 s.k kv2] 48 := (by (repeat (first | assumption | (apply Blk.below (hb := hb1); rotate_left; (focus ((try simp only [Sx.sizes]); omega)); rotate_right) | (apply Blk.below (hb := hb2); rotate_left; (focus ((try simp only [Sx.sizes]); omega)); rotate_right) | (apply Blk.below (hb := hb3); rotate_left; (focus ((try simp only [Sx.sizes]); omega)); rotate_right) | (apply Blk.below (hb := hb4); rotate_left; (focus ((try simp only [Sx.sizes]); omega)); rotate_right) | (apply Blk.below (hb := hb5); rotate_left; (focus ((try simp only [Sx.sizes]); omega)); rotate_right) | (apply Blk.below (hb := hb6); rotate_left; (focus ((try simp only [Sx.sizes]); omega)); rotate_right) | (apply Blk.below (hb := hb7); rotate_left; (focus ((try simp only [Sx.sizes]); omega)); rotate_right) | (apply Blk.below (hb := hb8); rotate_left; (focus ((try simp only [Sx.sizes]); omega)); rotate_right) | (apply Blk.below (hb := hb9); rotate_left; (focus ((try simp only [Sx.sizes]); omega)); rotate_right) | exact Blk.newE (by first | rfl | ((try simp only [Sx.sizes]); first | done | omega)) _ _ | exact Blk.put_same (by (try simp only [Sx.sizes]); first | done | omega) _ _ | (apply Blk.put_ne; (focus omega)) | apply Blk.alloc | apply Blk.drew)); done)
          clear hb4
          (refine Ga ?_)
          (apply Lst_call; (focus rfl); (focus rfl))
          refine (c_Used p mb d (by omega) _ (hd.below b4)).mono ?_
          rintro r w5 ⟨rfl, hb5⟩
          have b5 := b4.trans (hb5.mono b4.size)
          have k5 := k4.below hb5 k4.lt
          have hsv := Ints.below hsv hb5 (Nat.le_refl _)
          clear hb5 k4 b4
          have hd5 := hd.below b5
          generalize hU : used d.es = U at *
          (refine Ga ?_)
          have cA := c_AppendBy p mb d (by omega) s.name _ s.b (by omega) (by omega) _ hd5 (hby.below b5 (Nat.le_refl _))
          rw [hap] at cA
          dsimp only at cA
          (apply Lst_call; (focus rfl); (focus rfl))
          refine cA.mono ?_
          clear cA
          rintro r w6 ⟨rfl, hd6, hc6⟩
          have k6 := hc6.blk k5 (by simp only [List.mem_cons, List.not_mem_nil, or_false]; omega)
          have hsv := Ints.chg hsv hc6 hd5.n8
          have b6 := (hbA.trans (b5.mono hAs)).trans (Chg.low hc6 hp' hmb' (by have := b5.size; omega))
          clear hc6 hd5 k5 b5
          (refine Ga ?_)
          have cA := c_Read p mb d s.name (by omega) _ hd6
          rw [hrd] at cA
          dsimp only at cA
          (apply Lst_call; (focus rfl); (focus rfl))
          refine cA.mono ?_
          clear cA
          rintro r w7 ⟨⟨sw, rfl, hsw⟩, hb7⟩
          obtain ⟨sw1, sw2, hv⟩ := Ints.lform hsw
          subst hv
          have b7 := b6.trans (hb7.mono b6.size)
          have k7 := k6.below hb7 k6.lt
          have hsv := Ints.below hsv hb7 (Nat.le_refl _)
          have hd7 := hd6.below hb7
          clear hb7 k6 b6 hd6
          (refine Ga ?_)
          (apply Lst_call; (focus rfl); (focus rfl))
          refine (h_Bytes _ _ F F _ hsv hsw).mono ?_
          rintro v w' ⟨rfl, rfl⟩
          rw [decide_eq_true rfl]
          (refine Ga ?_)
          have cA := c_Used p mb d (by omega) _ hd7
          rw [hU] at cA
          (apply Lst_call; (focus rfl); (focus rfl))
          refine cA.mono ?_
          clear cA
          rintro r w9 ⟨rfl, hb9⟩
          have hd9 := hd7.below hb9
          have b9 := b7.trans (hb9.mono b7.size)
          (refine Ga ?_)
          have cA := c_Used p mb d (by omega) _ hd9
          rw [hU] at cA
          (apply Lst_call; (focus rfl); (focus rfl))
          refine cA.mono ?_
          clear cA
          rintro r w8 ⟨rfl, hb8⟩
          have hd8 := hd9.below hb8
          have b8 := b9.trans (hb8.mono b9.size)
          (refine Ga ?_)
          refine rndQ_n (α := Nat × Dsk) (i + 1, d) ⟨by dsimp only; omega, hrm, hd8, b8⟩ ⟨rfl, rfl, rfl, ?_, trivial⟩ (by dsimp only; omega)
          show Value.int .i64 ((i : Int) + 1) = Value.int .i64 ((i + 1 : Nat) : Int)
          rw [Int.natCast_add]
          rfl
    · (refine Ga ?_)
      (apply Lst_call; (focus rfl); (focus rfl))
      refine (c_Truncate p mb d (by omega) s.name s.n _ (hd.below Bel)).mono ?_
      rintro r w6 ⟨rfl, hd7, hc6⟩
      have b5 := Chg.low hc6 hp' hmb' (by simp only [Sx.sizes]; omega)
      have b7 : Below w.heap.size w w6 := Below.trans Bel b5
      have hrm2 := hrm.truncate s.name s.n
      have hu2 := hrm2.used
      generalize (d.truncate s.name s.n).2 = d2 at *
      (refine Ga ?_)
      (apply Lst_call; (focus rfl); (focus rfl))
      refine (c_Used p mb d2 (by omega) _ hd7).mono ?_
      rintro r w8 ⟨rfl, hb8⟩
      have hd8 := hd7.below hb8
      have b8 := b7.trans (hb8.mono b7.size)
      (refine Ga ?_)
      refine rndQ_n (α := Nat × Dsk) (i + 1, d2) ⟨by dsimp only; omega, hrm2, hd8, b8⟩ ⟨rfl, rfl, rfl, ?_, trivial⟩ (by dsimp only; omega)
      show Value.int .i64 ((i : Int) + 1) = Value.int .i64 ((i + 1 : Nat) : Int)
      rw [Int.natCast_add]
      rfl
    · (refine Ga ?_)
      (apply Lst_call; (focus rfl); (focus rfl))
      refine (c_Delete p mb d (by omega) s.name _ (hd.below Bel)).mono ?_
      rintro r w6 ⟨rfl, hd7, hc6⟩
      have b5 := Chg.low hc6 hp' hmb' (by simp only [Sx.sizes]; omega)
      have b7 : Below w.heap.size w w6 := Below.trans Bel b5
      have hrm2 := hrm.delete s.name
      have hu2 := hrm2.used
      generalize (d.delete s.name).2 = d2 at *
      (refine Ga ?_)
      (apply Lst_call; (focus rfl); (focus rfl))
      refine (c_Used p mb d2 (by omega) _ hd7).mono ?_
      rintro r w8 ⟨rfl, hb8⟩
      have hd8 := hd7.below hb8
      have b8 := b7.trans (hb8.mono b7.size)
      (refine Ga ?_)
      refine rndQ_n (α := Nat × Dsk) (i + 1, d2) ⟨by dsimp only; omega, hrm2, hd8, b8⟩ ⟨rfl, rfl, rfl, ?_, trivial⟩ (by dsimp only; omega)
      show Value.int .i64 ((i : Int) + 1) = Value.int .i64 ((i + 1 : Nat) : Int)
      rw [Int.natCast_add]
      rfl
    · (refine Ga ?_)
      (apply Lst_call; (focus rfl); (focus rfl))
      refine (c_Used p mb d (by omega) _ (hd.below Bel)).mono ?_
      rintro r w8 ⟨rfl, hb8⟩
      have b8 := Sx.Below.after (w := w) Bel hb8
      have b9 := Sx.Below.after (w := A) Bel hb8
      have hd8 := hd.below b9
      (refine Ga ?_)
      refine rndQ_n (α := Nat × Dsk) (i + 1, d) ⟨by dsimp only; omega, hrm, hd8, b8⟩ ⟨rfl, rfl, rfl, ?_, trivial⟩ (by dsimp only; omega)
      show Value.int .i64 ((i : Int) + 1) = Value.int .i64 ((i + 1 : Nat) : Int)
      rw [Int.natCast_add]
      rfl
  · have hie : i = l.length := by omega
    subst hie
    (refine Ga ?_)
    (apply retQ1; (focus rfl))
    exact ⟨rfl, hbA⟩
end Dk
end Go.Proofs.Ytgcklcpbmlibdaa
