/- quirelaw4.known; quirehelp.Place, quirehelp.Strings. -/
import Derived.Test.YtgcklcpbmlibdaaDk5
import Derived.Lib.SlBytesConst
import Derived.Deep.OwnRows
namespace Go.Proofs.Ytgcklcpbmlibdaa
set_option maxRecDepth 100000
namespace Dk
open Go Go.RowKit Sx
theorem Chg.low {p mb N : Nat} {a b : World} (h : Chg [p, mb] a b) (hp : N ≤ p) (hm : N ≤ mb) (hN : N ≤ a.heap.size) : Below N a b :=
  h.below (fun x hx => by simp only [List.mem_cons, List.not_mem_nil, or_false] at hx; rcases hx with rfl | rfl <;> assumption) hN
def kD0 : Dsk := ⟨[], 10, -1, false⟩
def nA : ByteArray := ⟨#[97]⟩
def nB : ByteArray := ⟨#[98]⟩
def nC : ByteArray := ⟨#[99]⟩
def kD1 : Dsk := ⟨[(nA, ⟨[120, 121], 0⟩)], 10, -1, false⟩
def kD2 : Dsk := ⟨[(nA, ⟨[120, 121], 2⟩)], 10, -1, false⟩
def kD3 : Dsk := ⟨[(nA, ⟨[120, 121, 122], 2⟩)], 10, -1, false⟩
def kD5 : Dsk := ⟨[(nC, ⟨[120, 121], 2⟩)], 10, -1, false⟩
def kD6 : Dsk := ⟨[(nC, ⟨[120], 1⟩)], 10, -1, false⟩
def kD7 : Dsk := ⟨[(nC, ⟨[120], 1⟩)], 10, 0, true⟩
theorem k1 : kD0.append nA [120, 121] = (0, kD1) := by kernel_rfl
theorem k2 : kD1.sync nA = (0, kD2) := by kernel_rfl
theorem k3 : kD2.append nA [122] = (0, kD3) := by kernel_rfl
theorem k4 : kD3.append nB [0, 0, 0, 0, 0, 0, 0, 0] = (42, kD3) := by kernel_rfl
theorem k5 : kD3.crash [] = kD2 := by
  have e : keysS kD3.es = [[97]] := by unfold keysS keysB kD3 nA; simp
  have e2 : kD3.crash [] = ⟨crN [] (keysS kD3.es) kD3.es 1, 10, -1, false⟩ := rfl
  rw [e] at e2
  rw [e2]
  exact (by kernel_rfl : (⟨crN [] [[97]] kD3.es 1, 10, -1, false⟩ : Dsk) = kD2)
theorem k6 : kD2.read nA = ([120, 121], 0) := by kernel_rfl
theorem k7 : kD2.rename nA nC = (0, kD5) := by kernel_rfl
theorem k8 : kD5.truncate nC 1 = (0, kD6) := by kernel_rfl
theorem k9 : kD6.list = [[99]] := by
  unfold Dsk.list
  rw [if_neg (by decide)]
  unfold keysS keysB kD6 nC
  simp
theorem k10 : kD7.sync nC = (43, kD7) := by kernel_rfl
theorem small1 {es : List (ByteArray × Fl)} (h : ∀ p ∈ es, p.2.b.length ≤ 1099511627776) : Small es := by
  intro n f
  induction es with
  | nil => intro hf; cases hf
  | cons p es ih =>
    intro hf
    unfold Sx.look at hf
    split at hf
    · cases hf; exact h p (by simp)
    · exact ih (fun q hq => h q (by simp [hq])) hf
theorem place (k n : Int) (hn : 0 < n) : (if k.tmod n < 0 then k.tmod n + n else k.tmod n) = k % n := by
  by_cases h : 0 ≤ k
  · have e := Int.tmod_eq_emod_of_nonneg (b := n) h
    have := Int.emod_nonneg k (show n ≠ 0 by omega)
    rw [e, if_neg (by omega)]
  · have e : k.tmod n = -((-k) % n) := by
      have := Int.tmod_eq_emod_of_nonneg (b := n) (show 0 ≤ -k by omega)
      rw [Int.neg_tmod] at this
      omega
    have h1 := Int.emod_add_mul_ediv (-k) n
    have h2 := Int.emod_nonneg (-k) (show n ≠ 0 by omega)
    have h3 := Int.emod_lt_of_pos (-k) hn
    have h4 : k % n = (-((-k) % n)) % n := by
      have : k = -((-k) % n) - n * ((-k) / n) := by omega
      conv => lhs; rw [this]
      exact Int.sub_mul_emod_self_left ..
    rw [e, h4]
    generalize (-k) % n = r at h2 h3 ⊢
    by_cases hr : r = 0
    · subst hr; simp
    · rw [if_pos (by omega)]
      have : (-r) % n = (-r + n) % n := by simp
      rw [this, Int.emod_eq_of_lt (by omega) (by omega)]
theorem tmod_bounds (k n : Int) (hn : 0 < n) : -n ≤ k.tmod n ∧ k.tmod n < n := by
  have h := place k n hn
  have h2 := Int.emod_nonneg k (show n ≠ 0 by omega)
  have h3 := Int.emod_lt_of_pos k hn
  split at h <;> omega
section rules
variable {P : Program} {rd : Option Nat} {n : Nat} {ops : Array Oper} {Q : Post} {rest : List Oper} {F : Fr} {ds : List Deferred} {w : World} {ty : TypeId} {pos : String} {after : Array Edge}
theorem ints_new {w w' : World} {l : List UInt8} {c : Nat} (hs : w'.heap.size = w.heap.size + 1) (hc : ∀ j v, (l.map bc)[j]? = some v → w'.cell? ⟨w.heap.size, j, none⟩ = some v) (m : Nat) (hm : l.length = m) : Ints w' .u8 (.slice (some ⟨w.heap.size, 0, none⟩) m c) (nums l) := by
  subst hm
  refine ⟨w.heap.size, 0, c, .inl (by simp [nums]), fun _ => by omega, fun j hj => ?_⟩
  have hj' : j < l.length := by simpa [nums] using hj
  rw [Nat.zero_add, hc j (bc l[j]) (by simp [hj'])]
  simp [nums, bc]
/-- A literal of bytes, marked as a constant string's. -/
theorem Lst_convb {d m c : Nat} {x : Operand} {t e : TypeId} {C : Array Value} (l : List UInt8) (hx : ev F x = .slice (some ⟨w.heap.size, 0, none⟩) m c) (ht : P.underlying t = some (.slice e)) (he : P.underlying e = some (.int .u8)) (hd : Nat.blt d n = true) (hC : C = (l.map bc).toArray) (hm : l.length = m)
    (h : ∀ w', Ints w' .u8 (.slice (some ⟨w.heap.size, 0, none⟩) m c) (nums l) → Below w.heap.size w w' → w'.heap.size = w.heap.size + 1 → Lst P rd n ops Q rest (upd F d (.slice (some ⟨w.heap.size, 0, none⟩) m c)) ds w') :
    Lst P rd n ops Q (⟨some d, .convert t t x, ty, pos, after, none⟩ :: rest) F ds (w.alloc (.cells C e)) := by
  have hrun := Lib.run_convert_bytes_const (P := P) w t e C m c ht he
  have hs : (w.alloc (.cells C e (C.size, C.size + 1))).heap.size = w.heap.size + 1 := World.size_alloc ..
  refine Lst_value rfl (by simp [execOp, hx, hrun]) hd (h _ (ints_new hs (fun j v hj => ?_) m hm) ((Below.refl _ _).alloc (Nat.le_refl _) _) hs)
  have : (w.alloc (.cells C e (C.size, C.size + 1))).heap[w.heap.size]? = some (.cells C e (C.size, C.size + 1)) := (MapKept.heap_alloc w _).1
  subst hC
  simp only [World.cell?, this]
  simpa using hj
/-- make([]T, m) of integers. -/
theorem Lst_makei {d m bytes : Nat} {kk : IntKind} {x y : Operand} {t e : TypeId} (hx : ev F x = .int .i64 (m : Int)) (hy : ev F y = .int .i64 (m : Int)) (ht : P.underlying t = some (.slice e)) (hinfo : (P.info? e).map (fun i => (i.zero, i.size, i.bytes)) = some (some (.int kk 0), 1, bytes)) (hm : bytes * m ≤ 281474976710656) (hm2 : m ≤ 9223372036854775807) (hd : Nat.blt d n = true)
    (h : ∀ w', Ints w' kk (.slice (some ⟨w.heap.size, 0, none⟩) m m) (List.replicate m 0) → Below w.heap.size w w' → w'.heap.size = w.heap.size + 1 → Lst P rd n ops Q rest (upd F d (.slice (some ⟨w.heap.size, 0, none⟩) m m)) ds w') :
    Lst P rd n ops Q (⟨some d, .makeSlice t x y, ty, pos, after, none⟩ :: rest) F ds w := by
  have hrun := run_make_row' (P := P) t e (.int kk 0) bytes ht hinfo rfl .i64 .i64 m hm hm2 w
  have hs : (w.alloc (.cells (madeCells #[.int kk 0] m) e)).heap.size = w.heap.size + 1 := World.size_alloc ..
  refine Lst_value rfl (by simp [execOp, hx, hy, hrun]) hd (h _ ⟨w.heap.size, 0, m, .inl (by simp), fun _ => by omega, fun j hj => ?_⟩ ((Below.refl _ _).alloc (Nat.le_refl _) _) hs)
  have hb : (w.alloc (.cells (madeCells #[.int kk 0] m) e)).heap[w.heap.size]? = some (.cells (madeCells #[.int kk 0] m) e (0, 0)) := (MapKept.heap_alloc w _).1
  have hj' : j < m := by simpa using hj
  simp only [World.cell?, hb, Nat.zero_add]
  simp [madeCells, hj', Nat.mod_one]
end rules
attribute [local irreducible] W Lst Qst Pu seqQ blkQ rndQ cutQ retQ Does Enters IntKind.wrap bits sb World.alloc World.putObj Blk
theorem c_Place (k n : Int) (hn : 0 < n) (hn2 : n < 9223372036854775808) (w : World) : Does Try.prog 15 #[.int .i64 k, .int .i64 n] w fun v w' => v = .int .i64 (k % n) ∧ w = w' := by
  refine Does_of (args := [.int .i64 k, .int .i64 n]) Try.func15 (by kernel_rfl) rfl rfl rfl rfl rfl ?_
  have hp := place k n hn
  have ht := tmod_bounds k n hn
  by_cases hneg : k.tmod n < 0
  · rw [if_pos hneg] at hp
    rw [← hp]
    (refine Ga ?_)
    (apply retQ1; (focus rfl))
    exact ⟨rfl, rfl⟩
  · rw [if_neg hneg] at hp
    rw [← hp]
    (refine Ga ?_)
    (apply retQ1; (focus rfl))
    exact ⟨rfl, rfl⟩
theorem c_known (w : World) : Does Try.prog 9 #[] w fun v w' => v = .bool true ∧ Below w.heap.size w w' := by
  refine Does_of (args := []) Try.func9 (by kernel_rfl) rfl rfl rfl rfl rfl ?_
  (refine Ga ?_)
  (apply Lst_call; (focus rfl); (focus rfl))
  refine (c_New 10 _).mono ?_
  rintro v w1 ⟨p, mb, rfl, hp, hm, hd, b1⟩
  have hd : DkAt w1 p mb kD0 := hd
  (refine Ga ?_)
  (apply Lst_slit; (focus rfl); (focus rfl); (focus rfl); (focus rfl); (focus rfl); (focus rfl); (focus rfl); (focus rfl); (focus rfl); (focus (repeat (first | apply FillO.nil | (apply FillO.cons; (focus constructor); (focus rfl); (focus rfl); (focus (repeat constructor)))))); (focus ((try simp only [Sx.sizes]); first | done | rfl)); (focus rfl))
  (refine Ga ?_)
  apply Lst_convb [120, 121]
  focus rfl
  focus rfl
  focus rfl
  focus rfl
  focus rfl
  focus rfl
  intro w2 hi2 hb2 hs2
  have b2 := b1.trans (hb2.mono b1.size)
  (refine Ga ?_)
  have cA := c_Append p mb kD0 (by decide) nA _ [120, 121] (by decide) (by decide) _ (hd.below hb2) hi2
  rw [k1] at cA
  clear hd
  (apply Lst_call; (focus rfl); (focus rfl))
  refine cA.mono ?_
  clear cA
  rintro v w3 ⟨rfl, hd, hc⟩
  have b3 := b2.trans (Chg.low hc hp hm b2.size)
  (refine Ga ?_)
  have cA := c_Sync p mb kD1 (by decide) nA _ hd
  rw [k2] at cA
  (apply Lst_call; (focus rfl); (focus rfl))
  refine cA.mono ?_
  clear cA hd hc
  rintro v w4 ⟨rfl, hd, hc⟩
  have b4 := b3.trans (Chg.low hc hp hm b3.size)
  (refine Ga ?_)
  (apply Lst_slit; (focus rfl); (focus rfl); (focus rfl); (focus rfl); (focus rfl); (focus rfl); (focus rfl); (focus rfl); (focus rfl); (focus (repeat (first | apply FillO.nil | (apply FillO.cons; (focus constructor); (focus rfl); (focus rfl); (focus (repeat constructor)))))); (focus ((try simp only [Sx.sizes]); first | done | rfl)); (focus rfl))
  (refine Ga ?_)
  apply Lst_convb [122]
  focus rfl
  focus rfl
  focus rfl
  focus rfl
  focus rfl
  focus rfl
  intro w5 hi5 hb5 hs5
  have b5 := b4.trans (hb5.mono b4.size)
  (refine Ga ?_)
  have cA := c_Append p mb kD2 (by decide) nA _ [122] (by decide) (by decide) _ (hd.below hb5) hi5
  rw [k3] at cA
  (apply Lst_call; (focus rfl); (focus rfl))
  refine cA.mono ?_
  clear cA hd hc
  rintro v w6 ⟨rfl, hd, hc⟩
  have b6 := b5.trans (Chg.low hc hp hm b5.size)
  (refine Ga ?_)
  apply Lst_makei (m := 8) (bytes := 1) (kk := .u8)
  focus rfl
  focus rfl
  focus rfl
  focus kernel_rfl
  focus decide
  focus decide
  focus rfl
  intro w7 hi7 hb7 hs7
  have b7 := b6.trans (hb7.mono b6.size)
  (refine Ga ?_)
  have cA := c_Append p mb kD3 (by decide) nB _ [0, 0, 0, 0, 0, 0, 0, 0] (by decide) (by decide) _ (hd.below hb7) hi7
  rw [k4] at cA
  (apply Lst_call; (focus rfl); (focus rfl))
  refine cA.mono ?_
  clear cA hd hc
  rintro v w8 ⟨rfl, hd, hc⟩
  have b8 := b7.trans (Chg.low hc hp hm b7.size)
  (refine Ga ?_)
  have cA := c_Crash p mb kD3 ⟨by decide, by decide⟩ (small1 (by decide)) (.slice none 0 0) [] (by decide) (by simp) _ hd ⟨0, 0, 0, .inr ⟨rfl, rfl⟩, fun e => absurd rfl e, fun j hj => by simp at hj⟩
  rw [k5] at cA
  (apply Lst_call; (focus rfl); (focus rfl))
  refine cA.mono ?_
  clear cA hd hc
  rintro v w9 ⟨rfl, hd, hc⟩
  have b9 := b8.trans (Chg.low hc hp hm b8.size)
  (refine Ga ?_)
  have cA := c_Read p mb kD2 nA (by decide) _ hd
  rw [k6] at cA
  (apply Lst_call; (focus rfl); (focus rfl))
  refine cA.mono ?_
  clear cA hc
  rintro v w10 ⟨⟨sv, rfl, hsv⟩, hb10⟩
  obtain ⟨sv1, sv2, rfl⟩ := hsv.form
  have b10 := b9.trans (hb10.mono b9.size)
  (refine Ga ?_)
  have cA := c_Rename p mb kD2 (by decide) nA nC _ (hd.below hb10)
  rw [k7] at cA
  (apply Lst_call; (focus rfl); (focus rfl))
  refine cA.mono ?_
  clear cA
  rintro v w11 ⟨rfl, hd', hc⟩
  have hsv := Ints.chg hsv hc (hd.below hb10).n8
  clear hd
  have b11 := b10.trans (Chg.low hc hp hm b10.size)
  (refine Ga ?_)
  have cA := c_Truncate p mb kD5 (by decide) nC 1 _ hd'
  rw [k8] at cA
  (apply Lst_call; (focus rfl); (focus rfl))
  refine cA.mono ?_
  clear cA hc
  rintro v w12 ⟨rfl, hd, hc⟩
  have hsv := Ints.chg hsv hc hd'.n8
  clear hd'
  have b12 := b11.trans (Chg.low hc hp hm b11.size)
  (refine Ga ?_)
  have cA := c_List p mb kD6 ⟨by decide, by decide⟩ _ hd
  rw [k9] at cA
  (apply Lst_call; (focus rfl); (focus rfl))
  refine cA.mono ?_
  clear cA hc
  rintro v w13 ⟨hss, hb13⟩
  obtain ⟨ss1, ss2, hv⟩ := hss.form
  have hv : v = .slice ss1 1 ss2 := hv
  subst hv
  have hsv := Ints.below hsv hb13 (Nat.le_refl _)
  have hd := hd.below hb13
  have b13 := b12.trans (hb13.mono b12.size)
  (refine Ga ?_)
  (apply Lst_call; (focus rfl); (focus rfl))
  refine (c_Cut p mb kD6 0 _ hd).mono ?_
  rintro v w14 ⟨rfl, hd', hc⟩
  have hsv := Ints.chg hsv (hc.mono (cs := [p, mb]) (by simp)) hd.n8
  have hss := hss.chg (hc.mono (cs := [p, mb]) (by simp)) hd.ns
  have b14 := b13.trans (Chg.low (hc.mono (cs := [p, mb]) (by simp)) hp hm b13.size)
  clear hd hc
  have hd : DkAt w14 p mb kD7 := hd'
  obtain ⟨b', ha, hcell⟩ := hss.at (j := 0) (by decide)
  subst ha
  (refine Ga ?_)
  apply Lst_bytesI (l := [120, 121])
  focus rfl
  focus exact hsv
  focus rfl
  focus rfl
  focus rfl
  focus rfl
  (refine Ga ?_)
  apply Lst_pu
  · apply P_idx
    focus rfl
    focus rfl
    focus rfl
    focus rfl
    focus rfl
    focus decide
    focus decide
  focus rfl
  apply Lst_guard_t
  focus rfl
  focus rfl
  apply Lst_loadc
  focus rfl
  focus rfl
  focus rfl
  focus exact hcell
  focus rfl
  (refine Ga ?_)
  have cA := c_Used p mb kD7 (by decide) _ hd
  rw [show used kD7.es = 1 from rfl] at cA
  (apply Lst_call; (focus rfl); (focus rfl))
  refine cA.mono ?_
  clear cA
  rintro v w15 ⟨rfl, hb15⟩
  have b15 := b14.trans (hb15.mono b14.size)
  have hd := hd.below hb15
  (refine Ga ?_)
  have cA := c_Sync p mb kD7 (by decide) nC _ hd
  rw [k10] at cA
  (apply Lst_call; (focus rfl); (focus rfl))
  refine cA.mono ?_
  clear cA hd
  rintro v w16 ⟨rfl, hd, hc⟩
  have b16 := b15.trans (Chg.low hc hp hm b15.size)
  (refine Ga ?_)
  (apply Lst_call; (focus rfl); (focus rfl))
  refine (c_Dead p mb kD7 _ hd).mono ?_
  rintro v w' ⟨rfl, rfl⟩
  (refine Ga ?_)
  (apply retQ1; (focus rfl))
  exact ⟨rfl, b16⟩
end Dk
end Go.Proofs.Ytgcklcpbmlibdaa
