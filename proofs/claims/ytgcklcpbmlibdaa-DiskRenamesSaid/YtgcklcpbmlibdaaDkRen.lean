/- DiskRenames: the walk. -/
import Derived.Test.YtgcklcpbmlibdaaDkRenP
namespace Go.Proofs.Ytgcklcpbmlibdaa
set_option maxRecDepth 100000
namespace Dk
open Go Go.RowKit Sx
section rules
variable {P : Program} {rd : Option Nat} {n : Nat} {ops : Array Oper} {Q : Post} {rest : List Oper} {F : Fr} {ds : List Deferred} {w : World} {ty : TypeId} {pos : String} {after : Array Edge}
/-- make([]T, m) of integers, as a block of its own. -/
theorem Lst_makeb {d m bytes : Nat} {kk : IntKind} {x y : Operand} {t e : TypeId} (hx : ev F x = .int .i64 (m : Int)) (hy : ev F y = .int .i64 (m : Int)) (ht : P.underlying t = some (.slice e)) (hinfo : (P.info? e).map (fun i => (i.zero, i.size, i.bytes)) = some (some (.int kk 0), 1, bytes)) (hm : bytes * m ≤ 281474976710656) (hm2 : m ≤ 9223372036854775807) (hd : Nat.blt d n = true)
    (h : Lst P rd n ops Q rest (upd F d (.slice (some ⟨w.heap.size, 0, none⟩) m m)) ds (w.alloc (.cells (List.replicate m (Value.int kk 0)).toArray e))) :
    Lst P rd n ops Q (⟨some d, .makeSlice t x y, ty, pos, after, none⟩ :: rest) F ds w := by
  have hrun := run_make_row' (P := P) t e (.int kk 0) bytes ht hinfo rfl .i64 .i64 m hm hm2 w
  have hc : madeCells #[.int kk 0] m = (List.replicate m (Value.int kk 0)).toArray := by
    apply Array.ext
    · simp [madeCells]
    · intro i h1 h2
      simp [madeCells, Nat.mod_one]
  rw [hc] at hrun
  exact Lst_value rfl (by simp [execOp, hx, hy, hrun]) hd h
end rules
theorem Ints.of_blk {w : World} {b : Nat} {kk : IntKind} {zs : List Int} {e : TypeId} (h : Blk w b (zs.map (Value.int kk)) e) (c : Nat) : Ints w kk (.slice (some ⟨b, 0, none⟩) zs.length c) zs :=
  ⟨b, 0, c, .inl rfl, fun _ => h.lt, fun j hj => by rw [h.cell (0 + j), Nat.zero_add]; simp [hj]⟩
theorem Ints.at {w : World} {kk : IntKind} {zs : List Int} {a : Option Addr} {m c : Nat} (h : Ints w kk (.slice a m c) zs) {j : Nat} (hj : j < zs.length) : ∃ b off, a = some ⟨b, off, none⟩ ∧ w.cell? ⟨b, off + j, none⟩ = some (.int kk zs[j]) := by
  obtain ⟨b, off, cap, h1, h2, h3⟩ := h
  rcases h1 with h1 | ⟨h1, rfl⟩
  · cases h1
    exact ⟨b, off, rfl, h3 j hj⟩
  · simp at hj
theorem sliced2R (b : Option Addr) (m c : Nat) (hb : ∀ a, b = some a → a.spot = none) : sliced b 0 m c 1 = .slice b m c := by
  unfold sliced
  cases b with
  | none => split <;> simp
  | some a =>
    obtain ⟨x, y, z⟩ := a
    have := hb _ rfl
    subst this
    split <;> simp [add_none]
theorem Ints.headR {w : World} {zs : List Int} {kk : IntKind} {a : Option Addr} {n' c : Nat} (h : Ints w kk (.slice a n' c) zs) (m : Nat) (hm : m ≤ n') : Ints w kk (sliced a 0 m c 1) (zs.take m) := by
  obtain ⟨b, off, cap, h1, h2, h3⟩ := h
  have e : sliced a 0 m c 1 = .slice a m c := sliced2R a m c (fun x hx => by
    rcases h1 with h1 | ⟨h1, _⟩
    · cases h1; cases hx; rfl
    · cases h1; cases hx)
  rw [e]
  rcases h1 with h1 | ⟨h1, rfl⟩
  · cases h1
    have hl' : (zs.take m).length = m := by simp; omega
    refine ⟨b, off, c, .inl (by rw [hl']), fun hz => h2 (by intro e; subst e; simp at hz), fun j hj => ?_⟩
    rw [h3 j (by simp at hj; omega)]
    simp
  · cases h1
    obtain rfl : m = 0 := by omega
    exact ⟨b, off, 0, .inr ⟨rfl, rfl⟩, fun e => absurd rfl e, fun j hj => by simp at hj⟩
theorem nums_takeR (l : List UInt8) (m : Nat) : (nums l).take m = nums (l.take m) := by unfold nums; rw [List.map_take]
def five : ByteArray := ⟨#[102, 103, 104, 122, 107]⟩
theorem five_ok (q : Int) (h0 : 0 ≤ q) (h5 : q < 5) : nameOk (five.extract q.toNat (q + 1).toNat) = true := by
  rcases (by omega : q = 0 ∨ q = 1 ∨ q = 2 ∨ q = 3 ∨ q = 4) with rfl | rfl | rfl | rfl | rfl <;> kernel_rfl
attribute [local irreducible] W Lst Qst Pu seqQ blkQ rndQ cutQ retQ Does Enters IntKind.wrap bits sb World.alloc World.putObj Blk
set_option maxHeartbeats 8000000 in
theorem law_DiskRenames (av bv nv : Value) (a b ns : List UInt8) (kp : Int) (w : World) (ha : Ints w .u8 av (nums a)) (hb : Ints w .u8 bv (nums b)) (hn : Ints w .u8 nv (nums ns)) (hbc : ∃ x m c, bv = .slice x m c ∧ m ≤ c) (hal : a.length ≤ 281474976710656) (hbl : b.length ≤ 281474976710656) (hnl : ns.length ≤ 281474976710656) :
    Does Try.prog 3 #[av, bv, nv, .int .i64 kp] w fun v w' => v = .bool true ∧ Below w.heap.size w w' := by
  have nl : ∀ l : List UInt8, (nums l).length = l.length := fun l => by simp [nums]
  obtain ⟨a1, a2, hv⟩ := ha.form
  rw [nl] at hv
  subst hv
  obtain ⟨n1, n2, hv⟩ := hn.form
  rw [nl] at hv
  subst hv
  obtain ⟨b1, bm, b2, rfl, hbm⟩ := hbc
  obtain rfl : bm = b.length := by
    obtain ⟨_, _, hv⟩ := hb.form
    rw [nl] at hv
    cases hv
    rfl
  refine Does_of (args := [.slice a1 a.length a2, .slice b1 b.length b2, .slice n1 ns.length n2, .int .i64 kp]) Try.func3 (by kernel_rfl) rfl rfl rfl rfl rfl ?_
  (refine Ga ?_)
  (apply Lst_call; (focus rfl); (focus rfl))
  refine (c_known _).mono ?_
  rintro r w1 ⟨rfl, bb1⟩
  by_cases hA : 3000 < a.length + b.length
  · (refine Ga ?_)
    (apply retQ1; (focus rfl))
    exact ⟨rfl, bb1⟩
  by_cases hB : 40 < ns.length
  · (refine Ga ?_)
    (apply retQ1; (focus rfl))
    exact ⟨rfl, bb1⟩
  (refine Ga ?_)
  (apply Lst_call; (focus rfl); (focus rfl))
  refine (c_New 1048576 _).mono ?_
  rintro v w2 ⟨p, mb, rfl, hp, hm, hd, hb2⟩
  have hd : DkAt w2 p mb E0 := hd
  have hp' : w.heap.size ≤ p := Nat.le_trans bb1.size hp
  have hm' : w.heap.size ≤ mb := Nat.le_trans bb1.size hm
  have bb2 := bb1.trans (hb2.mono bb1.size)
  clear hb2 bb1 hp hm
  (refine Ga ?_)
  have cA := c_Append p mb E0 (by decide) nF _ a (by simp [E0, used]; omega) (by simp [Dsk.file, E0, Sx.look, f0]) _ hd (Ints.below ha bb2 (Nat.le_refl _))
  rw [app0 a (by omega)] at cA
  (apply Lst_call; (focus rfl); (focus rfl))
  refine cA.mono ?_
  clear cA
  rintro v w3 ⟨rfl, hd3, hc3⟩
  have bb3 := bb2.trans (Chg.low hc3 hp' hm' bb2.size)
  clear hd hc3 bb2
  (refine Ga ?_)
  have cA := c_Sync p mb (D1 ⟨a, 0⟩) (D1_cut _) nF _ hd3
  rw [sync1] at cA
  dsimp only at cA
  (apply Lst_call; (focus rfl); (focus rfl))
  refine cA.mono ?_
  clear cA
  rintro v w4 ⟨rfl, hd4, hc4⟩
  have bb4 := bb3.trans (Chg.low hc4 hp' hm' bb3.size)
  clear hd3 hc4 bb3
  (refine Ga ?_)
  have cA := c_Append p mb (D1 ⟨a, a.length⟩) (D1_cut _) nF _ b (by rw [D1_used]; dsimp only; omega) (by rw [D1_file]; dsimp only; omega) _ hd4 (Ints.below hb bb4 (Nat.le_refl _))
  rw [app1 _ _ (by dsimp only; omega)] at cA
  dsimp only at cA
  (apply Lst_call; (focus rfl); (focus rfl))
  refine cA.mono ?_
  clear cA
  rintro v w5 ⟨rfl, hd5, hc5⟩
  have bb5 := bb4.trans (Chg.low hc5 hp' hm' bb4.size)
  clear hd4 hc5 bb4
  (refine Ga ?_)
  (apply Lst_slit; (focus rfl); (focus rfl); (focus rfl); (focus rfl); (focus rfl); (focus rfl); (focus rfl); (focus rfl); (focus rfl); (focus (repeat (first | apply FillO.nil | (apply FillO.cons; (focus constructor); (focus rfl); (focus rfl); (focus (repeat constructor)))))); (focus ((try simp only [Sx.sizes]); first | done | rfl)); (focus rfl))
  (refine Ga ?_)
  apply Lst_convb fZ.b
  focus rfl
  focus rfl
  focus rfl
  focus rfl
  focus rfl
  focus rfl
  intro w6 hi6 hb6 hs6
  have bb6 := bb5.trans (hb6.mono bb5.size)
  have hd6 := hd5.below hb6
  clear hb6 hs6 hd5 bb5
  (refine Ga ?_)
  have cA := c_Append p mb (D1 ⟨a ++ b, a.length⟩) (D1_cut _) nZ _ fZ.b (by rw [D1_used]; dsimp only; rw [List.length_append]; simp [fZ]; omega) (by unfold Dsk.file D1; simp [Sx.look, nF, nZ, f0]) _ hd6 hi6
  rw [start_shape _ (by dsimp only; rw [List.length_append]; omega)] at cA
  dsimp only at cA
  (apply Lst_call; (focus rfl); (focus rfl))
  refine cA.mono ?_
  clear cA
  rintro v w7 ⟨rfl, hd7, hc7⟩
  have bb7 := bb6.trans (Chg.low hc7 hp' hm' bb6.size)
  clear hd6 hc7 bb6 hi6
  have hsh : Shape nF ⟨a ++ b, a.length⟩ fZ [(nF, ⟨a ++ b, a.length⟩), (nZ, fZ)] := .inr ⟨by decide, .inl rfl⟩
  (refine Ga ?_)
  refine W_loop (α := Nat × ByteArray × List (ByteArray × Fl)) (fun x => [(0, .slice a1 a.length a2), (1, .slice b1 b.length b2), (2, .slice n1 ns.length n2), (3, .int .i64 kp), (9, .pointer (some ⟨p, 0, none⟩)), (10, .string x.2.1), (11, .int .i64 (x.1 : Int))])
    (fun x A => x.1 ≤ ns.length ∧ nameOk x.2.1 = true ∧ Shape x.2.1 ⟨a ++ b, a.length⟩ fZ x.2.2 ∧ DkAt A p mb (DR x.2.2) ∧ Below w.heap.size w A) (fun x _ => ns.length - x.1) (0, nF, [(nF, ⟨a ++ b, a.length⟩), (nZ, fZ)])
    ⟨Nat.zero_le _, okF, hsh, hd7, bb7⟩ ⟨rfl, rfl, rfl, rfl, rfl, rfl, rfl, trivial⟩ ?_
  clear hsh hd7 bb7
  rintro J ⟨i, nm, es⟩ A ⟨hi, hok, hsh, hd, hbA⟩
  dsimp only at hi hok hsh hd ⊢
  by_cases hil : i < ns.length
  · obtain ⟨nb, noff, hne, hcell⟩ := Ints.at (j := i) hn (by rw [nl]; exact hil)
    subst hne
    have hcA := cell_below hcell hbA (Nat.le_refl _)
    have hz : 0 ≤ (nums ns)[i]'(by rw [nl]; exact hil) ∧ (nums ns)[i]'(by rw [nl]; exact hil) < 256 := by
      simp only [nums, List.getElem_map]
      have := UInt8.toNat_lt ns[i]
      omega
    generalize (nums ns)[i]'(by rw [nl]; exact hil) = z at hcA hcell hz
    obtain ⟨q, hq, hq0, hq5⟩ : ∃ q, z.tmod 5 = q ∧ 0 ≤ q ∧ q < 5 := ⟨z % 5, by rw [Int.tmod_eq_emod_of_nonneg hz.1], by omega, by omega⟩
    obtain ⟨es', hre, hsh'⟩ := ren hsh (five_ok q hq0 hq5)
    (refine Ga ?_)
    refine W_draws (Grown _) rfl (by kernel_rfl) (grown_start _) ?_
    (refine Qb ?_)
    apply Qst_loadc
    focus rfl
    focus rfl
    focus rfl
    focus (intro A9 hb9; exact cell_below hcA hb9 (Nat.le_refl _))
    focus rfl
    apply Qst_pu
    · apply P_rem
      focus rfl
      focus rfl
      focus decide
      focus exact hq
    focus rfl
    (refine Qb ?_)
    apply Qst_loadc
    focus rfl
    focus rfl
    focus rfl
    focus (intro A9 hb9; exact cell_below hcA hb9 (Nat.le_refl _))
    focus rfl
    apply Qst_pu
    · apply P_rem
      focus rfl
      focus rfl
      focus decide
      focus exact hq
    focus rfl
    (refine Qb ?_)
    apply Qst_pu
    · apply P_sslice
      focus rfl
      focus rfl
      focus rfl
      focus rfl
      focus omega
      focus omega
      focus (show q + 1 ≤ ((5 : Nat) : Int); omega)
    focus rfl
    (refine Qb ?_)
    intro w8 hb8
    have hd8 := hd.below hb8
    have bb8 := Sx.Below.after hbA hb8
    (refine Ga ?_)
    have cA := c_Rename p mb (DR es) (by show (-1 : Int) < _; decide) nm (five.extract q.toNat (q + 1).toNat) _ hd8
    rw [hre] at cA
    dsimp only at cA
    (apply Lst_call; (focus rfl); (focus rfl))
    refine cA.mono ?_
    clear cA
    rintro r w9 ⟨rfl, hd9, hc9⟩
    have bb9 := bb8.trans (Chg.low hc9 hp' hm' bb8.size)
    have hokt := five_ok q hq0 hq5
    (refine Ga ?_)
    refine rndQ_n (α := Nat × ByteArray × List (ByteArray × Fl)) (i + 1, five.extract q.toNat (q + 1).toNat, es') ⟨by dsimp only; omega, hokt, hsh', hd9, bb9⟩ ⟨rfl, rfl, rfl, rfl, rfl, rfl, ?_, trivial⟩ (by dsimp only; omega)
    show Value.int .i64 ((i : Int) + 1) = Value.int .i64 ((i + 1 : Nat) : Int)
    rw [Int.natCast_add]
    rfl
  · have hN := hsh.names hok
    have hS := hsh.small (by dsimp only; rw [List.length_append]; omega) (by decide)
    obtain ⟨m, k, hm1, hmk, hu⟩ := shape_keys hsh
    (refine Ga ?_)
    have cA := c_List p mb (DR es) hN _ hd
    rw [show (DR es).list = keysS es from rfl] at cA
    (apply Lst_call; (focus rfl); (focus rfl))
    refine cA.mono ?_
    clear cA
    rintro r w8 ⟨hs8, hb8⟩
    obtain ⟨l1, l2, hv⟩ := hs8.form
    rw [hm1] at hv
    subst hv
    have hd8 := hd.below hb8
    have bb8 := Sx.Below.after hbA hb8
    clear hb8 hd hbA
    have hm2 : m ≤ 2 := by omega
    (refine Ga ?_)
    refine W_loop (α := Nat) (fun x => [(0, .slice a1 a.length a2), (1, .slice b1 b.length b2), (3, .int .i64 kp), (9, .pointer (some ⟨p, 0, none⟩)), (10, .string nm), (13, .slice l1 m l2), (14, .int .i64 ((if k < x then k else 0 : Nat) : Int)), (15, .int .i64 (x : Int))])
      (fun x A => x ≤ m ∧ Below w8.heap.size w8 A) (fun x _ => m - x) 0
      ⟨Nat.zero_le _, .refl _ _⟩ ⟨rfl, rfl, rfl, rfl, rfl, rfl, rfl, rfl, trivial⟩ ?_
    rintro J2 j B ⟨hj, hb9⟩
    by_cases hjl : j < m
    · obtain ⟨lb, hle, hcell⟩ := hs8.at (j := j) (by omega)
      subst hle
      have hc1 : B.cell? ⟨lb, 0 + j, none⟩ = some (.string (nameAt (keysS es) j)) := by
        rw [Nat.zero_add, cell_below hcell hb9 (Nat.le_refl _)]
        unfold nameAt
        simp [List.getD, hm1, hjl]
      have hu := hu j hjl
      by_cases hjk : j = k
      · have hnm := hu.2 hjk
        (refine Ga ?_)
        refine rndQ_n (α := Nat) (j + 1) ⟨by omega, hb9⟩ ⟨rfl, rfl, rfl, rfl, rfl, rfl, ?_, ?_, trivial⟩ (by omega)
        · show Value.int .i64 (j : Int) = Value.int .i64 ((if k < j + 1 then k else 0 : Nat) : Int)
          rw [if_pos (by omega), hjk]
        · show Value.int .i64 ((j : Int) + 1) = Value.int .i64 ((j + 1 : Nat) : Int)
          rw [Int.natCast_add]
          rfl
      · have hnm : nameAt (keysS es) j ≠ nm := fun e => hjk (hu.1 e)
        (refine Ga ?_)
        refine rndQ_n (α := Nat) (j + 1) ⟨by omega, hb9⟩ ⟨rfl, rfl, rfl, rfl, rfl, rfl, ?_, ?_, trivial⟩ (by omega)
        · show Value.int .i64 ((if k < j then k else 0 : Nat) : Int) = Value.int .i64 ((if k < j + 1 then k else 0 : Nat) : Int)
          by_cases hkj : k < j
          · rw [if_pos hkj, if_pos (by omega)]
          · rw [if_neg hkj, if_neg (by omega)]
        · show Value.int .i64 ((j : Int) + 1) = Value.int .i64 ((j + 1 : Nat) : Int)
          rw [Int.natCast_add]
          rfl
    · have hkm : k < m := by omega
      have hkk : (if k < j then k else 0) = k := if_pos (by omega)
      rw [hkk]
      have hdB := hd8.below hb9
      have hbB := Sx.Below.after bb8 hb9
      clear hs8 hd8 hb9 bb8 hkk hj
      generalize hK : kp % ((b.length : Int) + 1) = K
      have hK0 : 0 ≤ K := by rw [← hK]; exact Int.emod_nonneg _ (by omega)
      have hK1 : K < (b.length : Int) + 1 := by rw [← hK]; exact Int.emod_lt_of_pos _ (by omega)
      have cP := fun A => c_Place kp ((b.length : Int) + 1) (by omega) (by omega) A
      rw [hK] at cP
      obtain ⟨K, rfl⟩ := Int.eq_ofNat_of_zero_le hK0
      have hpl := hdB.pl
      have hml := hdB.ml
      rcases hmk with ⟨rfl, rfl⟩ | ⟨rfl, rfl⟩ | ⟨rfl, rfl⟩
      · (refine Ga ?_)
        apply Lst_makeb (m := 1) (bytes := 8) (kk := .i64)
        focus rfl
        focus rfl
        focus rfl
        focus kernel_rfl
        focus decide
        focus decide
        focus rfl
        (refine Ga ?_)
        (apply Lst_call; (focus rfl); (focus rfl))
        refine (cP _).mono ?_
        rintro v w' ⟨rfl, rfl⟩
        (refine Ga ?_)
        obtain ⟨hrd, hfl⟩ := ren_crash hsh 1 0 hm1 (by decide) hu [(K : Int)] rfl K (by simp) (by omega)
        (apply Lst_call; (focus rfl); (focus rfl))
        refine (c_Crash p mb (DR es) hN hS _ [(K : Int)] (by simp) (by intro z hz; simp only [List.mem_cons, List.not_mem_nil, or_false] at hz; omega) _ (hdB.below Bel) (Ints.of_blk (zs := [(K : Int)]) (b := B.heap.size) (e := 3) (by (repeat (first | assumption | (apply Blk.below (hb := hb1); rotate_left; (focus ((try simp only [Sx.sizes]); omega)); rotate_right) | (apply Blk.below (hb := hb2); rotate_left; (focus ((try simp only [Sx.sizes]); omega)); rotate_right) | (apply Blk.below (hb := hb3); rotate_left; (focus ((try simp only [Sx.sizes]); omega)); rotate_right) | (apply Blk.below (hb := hb4); rotate_left; (focus ((try simp only [Sx.sizes]); omega)); rotate_right) | (apply Blk.below (hb := hb5); rotate_left; (focus ((try simp only [Sx.sizes]); omega)); rotate_right) | (apply Blk.below (hb := hb6); rotate_left; (focus ((try simp only [Sx.sizes]); omega)); rotate_right) | (apply Blk.below (hb := hb7); rotate_left; (focus ((try simp only [Sx.sizes]); omega)); rotate_right) | (apply Blk.below (hb := hb8); rotate_left; (focus ((try simp only [Sx.sizes]); omega)); rotate_right) | (apply Blk.below (hb := hb9); rotate_left; (focus ((try simp only [Sx.sizes]); omega)); rotate_right) | exact Blk.newE (by first | rfl | ((try simp only [Sx.sizes]); first | done | omega)) _ _ | exact Blk.put_same (by (try simp only [Sx.sizes]); first | done | omega) _ _ | (apply Blk.put_ne; (focus omega)) | apply Blk.alloc | apply Blk.drew)); done) 1)).mono ?_
        rintro r w9 ⟨rfl, hd9, hc9⟩
        have k9 : Blk w9 B.heap.size [.int .i64 K] 3 := hc9.blk (by (repeat (first | assumption | (apply Blk.below (hb := hb1); rotate_left; (focus ((try simp only [Sx.sizes]); omega)); rotate_right) | (apply Blk.below (hb := hb2); rotate_left; (focus ((try simp only [Sx.sizes]); omega)); rotate_right) | (apply Blk.below (hb := hb3); rotate_left; (focus ((try simp only [Sx.sizes]); omega)); rotate_right) | (apply Blk.below (hb := hb4); rotate_left; (focus ((try simp only [Sx.sizes]); omega)); rotate_right) | (apply Blk.below (hb := hb5); rotate_left; (focus ((try simp only [Sx.sizes]); omega)); rotate_right) | (apply Blk.below (hb := hb6); rotate_left; (focus ((try simp only [Sx.sizes]); omega)); rotate_right) | (apply Blk.below (hb := hb7); rotate_left; (focus ((try simp only [Sx.sizes]); omega)); rotate_right) | (apply Blk.below (hb := hb8); rotate_left; (focus ((try simp only [Sx.sizes]); omega)); rotate_right) | (apply Blk.below (hb := hb9); rotate_left; (focus ((try simp only [Sx.sizes]); omega)); rotate_right) | exact Blk.newE (by first | rfl | ((try simp only [Sx.sizes]); first | done | omega)) _ _ | exact Blk.put_same (by (try simp only [Sx.sizes]); first | done | omega) _ _ | (apply Blk.put_ne; (focus omega)) | apply Blk.alloc | apply Blk.drew)); done) (by simp only [List.mem_cons, List.not_mem_nil, or_false]; omega)
        have bb9 : Below w.heap.size w w9 := Below.trans Bel (Chg.low hc9 hp' hm' (by simp only [Sx.sizes]; have := hbB.size; omega))
        clear hc9 hdB hbB
        generalize (DR es).crash [(K : Int)] = DC at *
        (refine Ga ?_)
        have cA := c_Read p mb DC nm (by rw [hfl]; dsimp only; rw [List.length_append, List.length_take]; omega) _ hd9
        rw [hrd] at cA
        dsimp only at cA
        (apply Lst_call; (focus rfl); (focus rfl))
        refine cA.mono ?_
        clear cA
        rintro r w10 ⟨⟨sv, rfl, hsv⟩, hb10⟩
        obtain ⟨r1, r2, hv⟩ := hsv.form
        rw [nl] at hv
        subst hv
        have bb10 := bb9.trans (hb10.mono bb9.size)
        have k10 := k9.below hb10 k9.lt
        have hkw := k10.lt
        clear hb10 hd9 k9 bb9
        (refine Ga ?_)
        have g0 : Grown w10 w10.drew := grown_start _
        refine W_drawS 21 (Grown w10) rfl rfl ?_
        refine S_take 0 20 rfl (by kernel_rfl) (by repeat (first | exact retQ_p | apply seqQ_p | apply blkQ_p)) g0 ?_
        (refine Gt ?_)
        refine S_take 1 19 rfl (by kernel_rfl) (by repeat (first | exact retQ_p | apply seqQ_p | apply blkQ_p)) g0 ?_
        (refine Gt ?_)
        refine S_take 2 18 rfl (by kernel_rfl) (by repeat (first | exact retQ_p | apply seqQ_p | apply blkQ_p)) g0 ?_
        (refine Gt ?_)
        refine S_take 3 17 rfl (by kernel_rfl) (by repeat (first | exact retQ_p | apply seqQ_p | apply blkQ_p)) g0 ?_
        (refine Gt ?_)
        refine S_take 4 16 rfl (by kernel_rfl) (by repeat (first | exact retQ_p | apply seqQ_p | apply blkQ_p)) g0 ?_
        (refine Gt ?_)
        refine S_take 6 15 rfl (by kernel_rfl) (by repeat (first | exact retQ_p | apply seqQ_p | apply blkQ_p)) g0 ?_
        (refine Gt ?_)
        refine S_take 7 14 rfl (by kernel_rfl) (by repeat (first | exact retQ_p | apply seqQ_p | apply blkQ_p)) g0 ?_
        (refine Gt ?_)
        refine S_take 8 13 rfl (by kernel_rfl) (by repeat (first | exact retQ_p | apply seqQ_p | apply blkQ_p)) g0 ?_
        (refine Gt ?_)
        refine S_take 9 12 rfl (by kernel_rfl) (by repeat (first | exact retQ_p | apply seqQ_p | apply blkQ_p)) g0 ?_
        (refine Gt ?_)
        refine S_take 10 11 rfl (by kernel_rfl) (by repeat (first | exact retQ_p | apply seqQ_p | apply blkQ_p)) g0 ?_
        (refine Gt ?_)
        refine S_take 11 10 rfl (by kernel_rfl) (by repeat (first | exact retQ_p | apply seqQ_p | apply blkQ_p)) g0 ?_
        (refine Gt ?_)
        apply Qst_pu
        · apply P_lslice_hi
          focus rfl
          focus rfl
          focus rfl
          focus rfl
          focus rfl
          focus omega
          focus omega
        focus rfl
        (refine Gt ?_)
        have bbd := bb10.drew
        refine S_any [5] 9 rfl (by kernel_rfl) (all1 ?_)
        apply Lst_guard_t
        focus rfl
        focus rfl
        apply Lst_appints (hown := own_nilb w10.drew) (l := a)
        focus exact .inl (Ints.below ha bbd (Nat.le_refl _))
        focus rfl
        focus rfl
        focus rfl
        focus rfl
        focus rfl
        focus rfl
        focus rfl
        focus rfl
        focus rfl
        focus omega
        focus exact Nat.le_refl _
        intro v11 w11 hown11 hg11
        have hb11 : Below w10.drew.heap.size w10.drew w11 := Below.grown (Below.refl _ _) hg11 (Nat.le_refl _) (fun j hj => by cases hj)
        obtain ⟨u1, u2, u3, rfl⟩ := own_slice hown11
        have g11 : Grown w10 w11 := Sx.Below.after g0 hb11
        have bb11 := bb10.trans (g11.mono bb10.size)
        have hbs := Ints.headR (Ints.below hb bb11 (Nat.le_refl _)) K (by omega)
        rw [nums_takeR] at hbs
        (refine Gt ?_)
        refine ⟨g11, ?_⟩
        refine S_any [12] 8 rfl (by kernel_rfl) (all1 ?_)
        apply Lst_guard_t
        focus rfl
        focus rfl
        apply Lst_appints (hown := hown11) (l := b.take K)
        focus exact .inl hbs
        focus rfl
        focus rfl
        focus rfl
        focus rfl
        focus rfl
        focus rfl
        focus rfl
        focus rfl
        focus rfl
        focus (rw [List.length_take]; omega)
        focus exact hb11.size
        intro v12 w12 hown12 hg12
        have hb12 : Below w10.drew.heap.size w10.drew w12 := Below.grown hb11 hg12 hb11.size (fun j hj => own_ge hown11 j hj)
        obtain ⟨x1, x2, x3, rfl⟩ := own_slice hown12
        have hi12 : Ints w12 .u8 (.slice x1 x2 x3) (nums (a ++ b.take K)) := by
          have e : ([] : List UInt8).map bc ++ a.map bc ++ (b.take K).map bc = (nums (a ++ b.take K)).map (Value.int .u8) := by
            rw [nums_map, List.map_append]; rfl
          rw [e] at hown12
          exact Ints.of_own hown12
        have g12 : Grown w10 w12 := Sx.Below.after g0 hb12
        have bb12 := bb10.trans (g12.mono bb10.size)
        have hsv := Ints.below hsv g12 (Nat.le_refl _)
        clear hown11 hown12 hg11 hg12
        (refine Gt ?_)
        refine ⟨g12, ?_⟩
        refine S_any [13] 7 rfl (by kernel_rfl) (all1 ?_)
        apply Lst_guard_t
        focus rfl
        focus rfl
        (apply Lst_call; (focus rfl); (focus rfl))
        refine (h_Bytes _ _ (a ++ b.take K) (a ++ b.take K) _ hsv hi12).mono ?_
        rintro v w' ⟨rfl, rfl⟩
        rw [decide_eq_true rfl]
        (refine Gt ?_)
        refine ⟨g12, ?_⟩
        refine S_any [14] 6 rfl (by kernel_rfl) (all1 ?_)
        apply Lst_pu
        · apply P_pick_t
          focus rfl
          focus constructor
        focus rfl
        (refine Gt ?_)
        refine ⟨g12, ?_⟩
        refine S_take 15 5 rfl (by kernel_rfl) (by repeat (first | exact retQ_p | apply seqQ_p | apply blkQ_p)) g12 ?_
        (refine Gt ?_)
        refine S_take 16 4 rfl (by kernel_rfl) (by repeat (first | exact retQ_p | apply seqQ_p | apply blkQ_p)) g12 ?_
        (refine Gt ?_)
        refine S_any [17] 3 rfl (by kernel_rfl) (all1 ?_)
        apply Lst_guard_t
        focus rfl
        focus rfl
        apply Lst_pu
        · apply P_llen
          focus rfl
          focus rfl
        focus rfl
        (refine Gt ?_)
        refine ⟨g12, ?_⟩
        refine S_take 18 2 rfl (by kernel_rfl) (by repeat (first | exact retQ_p | apply seqQ_p | apply blkQ_p)) g12 ?_
        (refine Gt ?_)
        refine S_any [19] 1 rfl (by kernel_rfl) (all1 ?_)
        apply Lst_pu
        · apply P_pick_t
          focus rfl
          focus constructor
        focus rfl
        (refine Gt ?_)
        refine ⟨g12, ?_⟩
        refine S_any [20] 0 rfl (by kernel_rfl) (all1 ?_)
        apply Lst_pu
        · apply P_assign
          focus constructor
        focus rfl
        (refine Gt ?_)
        refine ⟨g12, ?_⟩
        refine S_done (by kernel_rfl) ?_
        (refine Ga ?_)
        (apply retQ1; (focus rfl))
        exact ⟨rfl, bb12⟩
      · (refine Ga ?_)
        apply Lst_makeb (m := 2) (bytes := 8) (kk := .i64)
        focus rfl
        focus rfl
        focus rfl
        focus kernel_rfl
        focus decide
        focus decide
        focus rfl
        (refine Ga ?_)
        (apply Lst_call; (focus rfl); (focus rfl))
        refine (cP _).mono ?_
        rintro v w' ⟨rfl, rfl⟩
        (refine Ga ?_)
        obtain ⟨hrd, hfl⟩ := ren_crash hsh 2 0 hm1 (by decide) hu [(K : Int), 0] rfl K (by simp) (by omega)
        (apply Lst_call; (focus rfl); (focus rfl))
        refine (c_Crash p mb (DR es) hN hS _ [(K : Int), 0] (by simp) (by intro z hz; simp only [List.mem_cons, List.not_mem_nil, or_false] at hz; omega) _ (hdB.below Bel) (Ints.of_blk (zs := [(K : Int), 0]) (b := B.heap.size) (e := 3) (by (repeat (first | assumption | (apply Blk.below (hb := hb1); rotate_left; (focus ((try simp only [Sx.sizes]); omega)); rotate_right) | (apply Blk.below (hb := hb2); rotate_left; (focus ((try simp only [Sx.sizes]); omega)); rotate_right) | (apply Blk.below (hb := hb3); rotate_left; (focus ((try simp only [Sx.sizes]); omega)); rotate_right) | (apply Blk.below (hb := hb4); rotate_left; (focus ((try simp only [Sx.sizes]); omega)); rotate_right) | (apply Blk.below (hb := hb5); rotate_left; (focus ((try simp only [Sx.sizes]); omega)); rotate_right) | (apply Blk.below (hb := hb6); rotate_left; (focus ((try simp only [Sx.sizes]); omega)); rotate_right) | (apply Blk.below (hb := hb7); rotate_left; (focus ((try simp only [Sx.sizes]); omega)); rotate_right) | (apply Blk.below (hb := hb8); rotate_left; (focus ((try simp only [Sx.sizes]); omega)); rotate_right) | (apply Blk.below (hb := hb9); rotate_left; (focus ((try simp only [Sx.sizes]); omega)); rotate_right) | exact Blk.newE (by first | rfl | ((try simp only [Sx.sizes]); first | done | omega)) _ _ | exact Blk.put_same (by (try simp only [Sx.sizes]); first | done | omega) _ _ | (apply Blk.put_ne; (focus omega)) | apply Blk.alloc | apply Blk.drew)); done) 2)).mono ?_
        rintro r w9 ⟨rfl, hd9, hc9⟩
        have k9 : Blk w9 B.heap.size [.int .i64 K, .int .i64 0] 3 := hc9.blk (by (repeat (first | assumption | (apply Blk.below (hb := hb1); rotate_left; (focus ((try simp only [Sx.sizes]); omega)); rotate_right) | (apply Blk.below (hb := hb2); rotate_left; (focus ((try simp only [Sx.sizes]); omega)); rotate_right) | (apply Blk.below (hb := hb3); rotate_left; (focus ((try simp only [Sx.sizes]); omega)); rotate_right) | (apply Blk.below (hb := hb4); rotate_left; (focus ((try simp only [Sx.sizes]); omega)); rotate_right) | (apply Blk.below (hb := hb5); rotate_left; (focus ((try simp only [Sx.sizes]); omega)); rotate_right) | (apply Blk.below (hb := hb6); rotate_left; (focus ((try simp only [Sx.sizes]); omega)); rotate_right) | (apply Blk.below (hb := hb7); rotate_left; (focus ((try simp only [Sx.sizes]); omega)); rotate_right) | (apply Blk.below (hb := hb8); rotate_left; (focus ((try simp only [Sx.sizes]); omega)); rotate_right) | (apply Blk.below (hb := hb9); rotate_left; (focus ((try simp only [Sx.sizes]); omega)); rotate_right) | exact Blk.newE (by first | rfl | ((try simp only [Sx.sizes]); first | done | omega)) _ _ | exact Blk.put_same (by (try simp only [Sx.sizes]); first | done | omega) _ _ | (apply Blk.put_ne; (focus omega)) | apply Blk.alloc | apply Blk.drew)); done) (by simp only [List.mem_cons, List.not_mem_nil, or_false]; omega)
        have bb9 : Below w.heap.size w w9 := Below.trans Bel (Chg.low hc9 hp' hm' (by simp only [Sx.sizes]; have := hbB.size; omega))
        clear hc9 hdB hbB
        generalize (DR es).crash [(K : Int), 0] = DC at *
        (refine Ga ?_)
        have cA := c_Read p mb DC nm (by rw [hfl]; dsimp only; rw [List.length_append, List.length_take]; omega) _ hd9
        rw [hrd] at cA
        dsimp only at cA
        (apply Lst_call; (focus rfl); (focus rfl))
        refine cA.mono ?_
        clear cA
        rintro r w10 ⟨⟨sv, rfl, hsv⟩, hb10⟩
        obtain ⟨r1, r2, hv⟩ := hsv.form
        rw [nl] at hv
        subst hv
        have bb10 := bb9.trans (hb10.mono bb9.size)
        have k10 := k9.below hb10 k9.lt
        have hkw := k10.lt
        clear hb10 hd9 k9 bb9
        (refine Ga ?_)
        have g0 : Grown w10 w10.drew := grown_start _
        refine W_drawS 21 (Grown w10) rfl rfl ?_
        refine S_take 0 20 rfl (by kernel_rfl) (by repeat (first | exact retQ_p | apply seqQ_p | apply blkQ_p)) g0 ?_
        (refine Gt ?_)
        refine S_take 1 19 rfl (by kernel_rfl) (by repeat (first | exact retQ_p | apply seqQ_p | apply blkQ_p)) g0 ?_
        (refine Gt ?_)
        refine S_take 2 18 rfl (by kernel_rfl) (by repeat (first | exact retQ_p | apply seqQ_p | apply blkQ_p)) g0 ?_
        (refine Gt ?_)
        refine S_take 3 17 rfl (by kernel_rfl) (by repeat (first | exact retQ_p | apply seqQ_p | apply blkQ_p)) g0 ?_
        (refine Gt ?_)
        refine S_take 4 16 rfl (by kernel_rfl) (by repeat (first | exact retQ_p | apply seqQ_p | apply blkQ_p)) g0 ?_
        (refine Gt ?_)
        refine S_take 6 15 rfl (by kernel_rfl) (by repeat (first | exact retQ_p | apply seqQ_p | apply blkQ_p)) g0 ?_
        (refine Gt ?_)
        refine S_take 7 14 rfl (by kernel_rfl) (by repeat (first | exact retQ_p | apply seqQ_p | apply blkQ_p)) g0 ?_
        (refine Gt ?_)
        refine S_take 8 13 rfl (by kernel_rfl) (by repeat (first | exact retQ_p | apply seqQ_p | apply blkQ_p)) g0 ?_
        (refine Gt ?_)
        refine S_take 9 12 rfl (by kernel_rfl) (by repeat (first | exact retQ_p | apply seqQ_p | apply blkQ_p)) g0 ?_
        (refine Gt ?_)
        refine S_take 10 11 rfl (by kernel_rfl) (by repeat (first | exact retQ_p | apply seqQ_p | apply blkQ_p)) g0 ?_
        (refine Gt ?_)
        refine S_take 11 10 rfl (by kernel_rfl) (by repeat (first | exact retQ_p | apply seqQ_p | apply blkQ_p)) g0 ?_
        (refine Gt ?_)
        apply Qst_pu
        · apply P_lslice_hi
          focus rfl
          focus rfl
          focus rfl
          focus rfl
          focus rfl
          focus omega
          focus omega
        focus rfl
        (refine Gt ?_)
        have bbd := bb10.drew
        refine S_any [5] 9 rfl (by kernel_rfl) (all1 ?_)
        apply Lst_guard_t
        focus rfl
        focus rfl
        apply Lst_appints (hown := own_nilb w10.drew) (l := a)
        focus exact .inl (Ints.below ha bbd (Nat.le_refl _))
        focus rfl
        focus rfl
        focus rfl
        focus rfl
        focus rfl
        focus rfl
        focus rfl
        focus rfl
        focus rfl
        focus omega
        focus exact Nat.le_refl _
        intro v11 w11 hown11 hg11
        have hb11 : Below w10.drew.heap.size w10.drew w11 := Below.grown (Below.refl _ _) hg11 (Nat.le_refl _) (fun j hj => by cases hj)
        obtain ⟨u1, u2, u3, rfl⟩ := own_slice hown11
        have g11 : Grown w10 w11 := Sx.Below.after g0 hb11
        have bb11 := bb10.trans (g11.mono bb10.size)
        have hbs := Ints.headR (Ints.below hb bb11 (Nat.le_refl _)) K (by omega)
        rw [nums_takeR] at hbs
        (refine Gt ?_)
        refine ⟨g11, ?_⟩
        refine S_any [12] 8 rfl (by kernel_rfl) (all1 ?_)
        apply Lst_guard_t
        focus rfl
        focus rfl
        apply Lst_appints (hown := hown11) (l := b.take K)
        focus exact .inl hbs
        focus rfl
        focus rfl
        focus rfl
        focus rfl
        focus rfl
        focus rfl
        focus rfl
        focus rfl
        focus rfl
        focus (rw [List.length_take]; omega)
        focus exact hb11.size
        intro v12 w12 hown12 hg12
        have hb12 : Below w10.drew.heap.size w10.drew w12 := Below.grown hb11 hg12 hb11.size (fun j hj => own_ge hown11 j hj)
        obtain ⟨x1, x2, x3, rfl⟩ := own_slice hown12
        have hi12 : Ints w12 .u8 (.slice x1 x2 x3) (nums (a ++ b.take K)) := by
          have e : ([] : List UInt8).map bc ++ a.map bc ++ (b.take K).map bc = (nums (a ++ b.take K)).map (Value.int .u8) := by
            rw [nums_map, List.map_append]; rfl
          rw [e] at hown12
          exact Ints.of_own hown12
        have g12 : Grown w10 w12 := Sx.Below.after g0 hb12
        have bb12 := bb10.trans (g12.mono bb10.size)
        have hsv := Ints.below hsv g12 (Nat.le_refl _)
        clear hown11 hown12 hg11 hg12
        (refine Gt ?_)
        refine ⟨g12, ?_⟩
        refine S_any [13] 7 rfl (by kernel_rfl) (all1 ?_)
        apply Lst_guard_t
        focus rfl
        focus rfl
        (apply Lst_call; (focus rfl); (focus rfl))
        refine (h_Bytes _ _ (a ++ b.take K) (a ++ b.take K) _ hsv hi12).mono ?_
        rintro v w' ⟨rfl, rfl⟩
        rw [decide_eq_true rfl]
        (refine Gt ?_)
        refine ⟨g12, ?_⟩
        refine S_any [14] 6 rfl (by kernel_rfl) (all1 ?_)
        apply Lst_pu
        · apply P_pick_t
          focus rfl
          focus constructor
        focus rfl
        (refine Gt ?_)
        refine ⟨g12, ?_⟩
        refine S_take 15 5 rfl (by kernel_rfl) (by repeat (first | exact retQ_p | apply seqQ_p | apply blkQ_p)) g12 ?_
        (refine Gt ?_)
        refine S_take 16 4 rfl (by kernel_rfl) (by repeat (first | exact retQ_p | apply seqQ_p | apply blkQ_p)) g12 ?_
        (refine Gt ?_)
        refine S_any [17] 3 rfl (by kernel_rfl) (all1 ?_)
        apply Lst_guard_t
        focus rfl
        focus rfl
        apply Lst_pu
        · apply P_llen
          focus rfl
          focus rfl
        focus rfl
        (refine Gt ?_)
        refine ⟨g12, ?_⟩
        refine S_take 18 2 rfl (by kernel_rfl) (by repeat (first | exact retQ_p | apply seqQ_p | apply blkQ_p)) g12 ?_
        (refine Gt ?_)
        refine S_any [19] 1 rfl (by kernel_rfl) (all1 ?_)
        apply Lst_pu
        · apply P_pick_t
          focus rfl
          focus constructor
        focus rfl
        (refine Gt ?_)
        refine ⟨g12, ?_⟩
        refine S_any [20] 0 rfl (by kernel_rfl) (all1 ?_)
        apply Lst_pu
        · apply P_assign
          focus constructor
        focus rfl
        (refine Gt ?_)
        refine ⟨g12, ?_⟩
        refine S_done (by kernel_rfl) ?_
        (refine Ga ?_)
        (apply retQ1; (focus rfl))
        exact ⟨rfl, bb12⟩
      · (refine Ga ?_)
        apply Lst_makeb (m := 2) (bytes := 8) (kk := .i64)
        focus rfl
        focus rfl
        focus rfl
        focus kernel_rfl
        focus decide
        focus decide
        focus rfl
        (refine Ga ?_)
        (apply Lst_call; (focus rfl); (focus rfl))
        refine (cP _).mono ?_
        rintro v w' ⟨rfl, rfl⟩
        (refine Ga ?_)
        obtain ⟨hrd, hfl⟩ := ren_crash hsh 2 1 hm1 (by decide) hu [0, (K : Int)] rfl K (by simp) (by omega)
        (apply Lst_call; (focus rfl); (focus rfl))
        refine (c_Crash p mb (DR es) hN hS _ [0, (K : Int)] (by simp) (by intro z hz; simp only [List.mem_cons, List.not_mem_nil, or_false] at hz; omega) _ (hdB.below Bel) (Ints.of_blk (zs := [0, (K : Int)]) (b := B.heap.size) (e := 3) (by (repeat (first | assumption | (apply Blk.below (hb := hb1); rotate_left; (focus ((try simp only [Sx.sizes]); omega)); rotate_right) | (apply Blk.below (hb := hb2); rotate_left; (focus ((try simp only [Sx.sizes]); omega)); rotate_right) | (apply Blk.below (hb := hb3); rotate_left; (focus ((try simp only [Sx.sizes]); omega)); rotate_right) | (apply Blk.below (hb := hb4); rotate_left; (focus ((try simp only [Sx.sizes]); omega)); rotate_right) | (apply Blk.below (hb := hb5); rotate_left; (focus ((try simp only [Sx.sizes]); omega)); rotate_right) | (apply Blk.below (hb := hb6); rotate_left; (focus ((try simp only [Sx.sizes]); omega)); rotate_right) | (apply Blk.below (hb := hb7); rotate_left; (focus ((try simp only [Sx.sizes]); omega)); rotate_right) | (apply Blk.below (hb := hb8); rotate_left; (focus ((try simp only [Sx.sizes]); omega)); rotate_right) | (apply Blk.below (hb := hb9); rotate_left; (focus ((try simp only [Sx.sizes]); omega)); rotate_right) | exact Blk.newE (by first | rfl | ((try simp only [Sx.sizes]); first | done | omega)) _ _ | exact Blk.put_same (by (try simp only [Sx.sizes]); first | done | omega) _ _ | (apply Blk.put_ne; (focus omega)) | apply Blk.alloc | apply Blk.drew)); done) 2)).mono ?_
        rintro r w9 ⟨rfl, hd9, hc9⟩
        have k9 : Blk w9 B.heap.size [.int .i64 0, .int .i64 K] 3 := hc9.blk (by (repeat (first | assumption | (apply Blk.below (hb := hb1); rotate_left; (focus ((try simp only [Sx.sizes]); omega)); rotate_right) | (apply Blk.below (hb := hb2); rotate_left; (focus ((try simp only [Sx.sizes]); omega)); rotate_right) | (apply Blk.below (hb := hb3); rotate_left; (focus ((try simp only [Sx.sizes]); omega)); rotate_right) | (apply Blk.below (hb := hb4); rotate_left; (focus ((try simp only [Sx.sizes]); omega)); rotate_right) | (apply Blk.below (hb := hb5); rotate_left; (focus ((try simp only [Sx.sizes]); omega)); rotate_right) | (apply Blk.below (hb := hb6); rotate_left; (focus ((try simp only [Sx.sizes]); omega)); rotate_right) | (apply Blk.below (hb := hb7); rotate_left; (focus ((try simp only [Sx.sizes]); omega)); rotate_right) | (apply Blk.below (hb := hb8); rotate_left; (focus ((try simp only [Sx.sizes]); omega)); rotate_right) | (apply Blk.below (hb := hb9); rotate_left; (focus ((try simp only [Sx.sizes]); omega)); rotate_right) | exact Blk.newE (by first | rfl | ((try simp only [Sx.sizes]); first | done | omega)) _ _ | exact Blk.put_same (by (try simp only [Sx.sizes]); first | done | omega) _ _ | (apply Blk.put_ne; (focus omega)) | apply Blk.alloc | apply Blk.drew)); done) (by simp only [List.mem_cons, List.not_mem_nil, or_false]; omega)
        have bb9 : Below w.heap.size w w9 := Below.trans Bel (Chg.low hc9 hp' hm' (by simp only [Sx.sizes]; have := hbB.size; omega))
        clear hc9 hdB hbB
        generalize (DR es).crash [0, (K : Int)] = DC at *
        (refine Ga ?_)
        have cA := c_Read p mb DC nm (by rw [hfl]; dsimp only; rw [List.length_append, List.length_take]; omega) _ hd9
        rw [hrd] at cA
        dsimp only at cA
        (apply Lst_call; (focus rfl); (focus rfl))
        refine cA.mono ?_
        clear cA
        rintro r w10 ⟨⟨sv, rfl, hsv⟩, hb10⟩
        obtain ⟨r1, r2, hv⟩ := hsv.form
        rw [nl] at hv
        subst hv
        have bb10 := bb9.trans (hb10.mono bb9.size)
        have k10 := k9.below hb10 k9.lt
        have hkw := k10.lt
        clear hb10 hd9 k9 bb9
        (refine Ga ?_)
        have g0 : Grown w10 w10.drew := grown_start _
        refine W_drawS 21 (Grown w10) rfl rfl ?_
        refine S_take 0 20 rfl (by kernel_rfl) (by repeat (first | exact retQ_p | apply seqQ_p | apply blkQ_p)) g0 ?_
        (refine Gt ?_)
        refine S_take 1 19 rfl (by kernel_rfl) (by repeat (first | exact retQ_p | apply seqQ_p | apply blkQ_p)) g0 ?_
        (refine Gt ?_)
        refine S_take 2 18 rfl (by kernel_rfl) (by repeat (first | exact retQ_p | apply seqQ_p | apply blkQ_p)) g0 ?_
        (refine Gt ?_)
        refine S_take 3 17 rfl (by kernel_rfl) (by repeat (first | exact retQ_p | apply seqQ_p | apply blkQ_p)) g0 ?_
        (refine Gt ?_)
        refine S_take 4 16 rfl (by kernel_rfl) (by repeat (first | exact retQ_p | apply seqQ_p | apply blkQ_p)) g0 ?_
        (refine Gt ?_)
        refine S_take 6 15 rfl (by kernel_rfl) (by repeat (first | exact retQ_p | apply seqQ_p | apply blkQ_p)) g0 ?_
        (refine Gt ?_)
        refine S_take 7 14 rfl (by kernel_rfl) (by repeat (first | exact retQ_p | apply seqQ_p | apply blkQ_p)) g0 ?_
        (refine Gt ?_)
        refine S_take 8 13 rfl (by kernel_rfl) (by repeat (first | exact retQ_p | apply seqQ_p | apply blkQ_p)) g0 ?_
        (refine Gt ?_)
        refine S_take 9 12 rfl (by kernel_rfl) (by repeat (first | exact retQ_p | apply seqQ_p | apply blkQ_p)) g0 ?_
        (refine Gt ?_)
        refine S_take 10 11 rfl (by kernel_rfl) (by repeat (first | exact retQ_p | apply seqQ_p | apply blkQ_p)) g0 ?_
        (refine Gt ?_)
        refine S_take 11 10 rfl (by kernel_rfl) (by repeat (first | exact retQ_p | apply seqQ_p | apply blkQ_p)) g0 ?_
        (refine Gt ?_)
        apply Qst_pu
        · apply P_lslice_hi
          focus rfl
          focus rfl
          focus rfl
          focus rfl
          focus rfl
          focus omega
          focus omega
        focus rfl
        (refine Gt ?_)
        have bbd := bb10.drew
        refine S_any [5] 9 rfl (by kernel_rfl) (all1 ?_)
        apply Lst_guard_t
        focus rfl
        focus rfl
        apply Lst_appints (hown := own_nilb w10.drew) (l := a)
        focus exact .inl (Ints.below ha bbd (Nat.le_refl _))
        focus rfl
        focus rfl
        focus rfl
        focus rfl
        focus rfl
        focus rfl
        focus rfl
        focus rfl
        focus rfl
        focus omega
        focus exact Nat.le_refl _
        intro v11 w11 hown11 hg11
        have hb11 : Below w10.drew.heap.size w10.drew w11 := Below.grown (Below.refl _ _) hg11 (Nat.le_refl _) (fun j hj => by cases hj)
        obtain ⟨u1, u2, u3, rfl⟩ := own_slice hown11
        have g11 : Grown w10 w11 := Sx.Below.after g0 hb11
        have bb11 := bb10.trans (g11.mono bb10.size)
        have hbs := Ints.headR (Ints.below hb bb11 (Nat.le_refl _)) K (by omega)
        rw [nums_takeR] at hbs
        (refine Gt ?_)
        refine ⟨g11, ?_⟩
        refine S_any [12] 8 rfl (by kernel_rfl) (all1 ?_)
        apply Lst_guard_t
        focus rfl
        focus rfl
        apply Lst_appints (hown := hown11) (l := b.take K)
        focus exact .inl hbs
        focus rfl
        focus rfl
        focus rfl
        focus rfl
        focus rfl
        focus rfl
        focus rfl
        focus rfl
        focus rfl
        focus (rw [List.length_take]; omega)
        focus exact hb11.size
        intro v12 w12 hown12 hg12
        have hb12 : Below w10.drew.heap.size w10.drew w12 := Below.grown hb11 hg12 hb11.size (fun j hj => own_ge hown11 j hj)
        obtain ⟨x1, x2, x3, rfl⟩ := own_slice hown12
        have hi12 : Ints w12 .u8 (.slice x1 x2 x3) (nums (a ++ b.take K)) := by
          have e : ([] : List UInt8).map bc ++ a.map bc ++ (b.take K).map bc = (nums (a ++ b.take K)).map (Value.int .u8) := by
            rw [nums_map, List.map_append]; rfl
          rw [e] at hown12
          exact Ints.of_own hown12
        have g12 : Grown w10 w12 := Sx.Below.after g0 hb12
        have bb12 := bb10.trans (g12.mono bb10.size)
        have hsv := Ints.below hsv g12 (Nat.le_refl _)
        clear hown11 hown12 hg11 hg12
        (refine Gt ?_)
        refine ⟨g12, ?_⟩
        refine S_any [13] 7 rfl (by kernel_rfl) (all1 ?_)
        apply Lst_guard_t
        focus rfl
        focus rfl
        (apply Lst_call; (focus rfl); (focus rfl))
        refine (h_Bytes _ _ (a ++ b.take K) (a ++ b.take K) _ hsv hi12).mono ?_
        rintro v w' ⟨rfl, rfl⟩
        rw [decide_eq_true rfl]
        (refine Gt ?_)
        refine ⟨g12, ?_⟩
        refine S_any [14] 6 rfl (by kernel_rfl) (all1 ?_)
        apply Lst_pu
        · apply P_pick_t
          focus rfl
          focus constructor
        focus rfl
        (refine Gt ?_)
        refine ⟨g12, ?_⟩
        refine S_take 15 5 rfl (by kernel_rfl) (by repeat (first | exact retQ_p | apply seqQ_p | apply blkQ_p)) g12 ?_
        (refine Gt ?_)
        refine S_take 16 4 rfl (by kernel_rfl) (by repeat (first | exact retQ_p | apply seqQ_p | apply blkQ_p)) g12 ?_
        (refine Gt ?_)
        refine S_any [17] 3 rfl (by kernel_rfl) (all1 ?_)
        apply Lst_guard_t
        focus rfl
        focus rfl
        apply Lst_pu
        · apply P_llen
          focus rfl
          focus rfl
        focus rfl
        (refine Gt ?_)
        refine ⟨g12, ?_⟩
        refine S_take 18 2 rfl (by kernel_rfl) (by repeat (first | exact retQ_p | apply seqQ_p | apply blkQ_p)) g12 ?_
        (refine Gt ?_)
        refine S_any [19] 1 rfl (by kernel_rfl) (all1 ?_)
        apply Lst_pu
        · apply P_pick_t
          focus rfl
          focus constructor
        focus rfl
        (refine Gt ?_)
        refine ⟨g12, ?_⟩
        refine S_any [20] 0 rfl (by kernel_rfl) (all1 ?_)
        apply Lst_pu
        · apply P_assign
          focus constructor
        focus rfl
        (refine Gt ?_)
        refine ⟨g12, ?_⟩
        refine S_done (by kernel_rfl) ?_
        (refine Ga ?_)
        (apply retQ1; (focus rfl))
        exact ⟨rfl, bb12⟩
end Dk
end Go.Proofs.Ytgcklcpbmlibdaa
