/- AwareAnyOrder. -/
import Derived.Test.YtoljcnlmockpcaaAwK
namespace Go.Proofs.Ytoljcnlmockpcaa
set_option maxRecDepth 100000
namespace Aw
open Go Go.RowKit Sx Wire
open So (W_cutS)
/-- Strings in a slice that is only read. -/
def Strs (w : World) (v : Value) (l : List ByteArray) : Prop := SRows w 1 v (l.map fun s => [Value.string s])
theorem Strs.form {w : World} {v : Value} {l : List ByteArray} (h : Strs w v l) : ∃ a c, v = .slice a l.length c := by
  have := SRows.form h
  rwa [List.length_map] at this
theorem Strs.below {w w' : World} {v : Value} {l : List ByteArray} {B : Nat} (h : Strs w v l) (hb : Below B w w') (hB : w.heap.size ≤ B) : Strs w' v l := SRows.below h hb hB
theorem Strs.at {w : World} {nn c : Nat} {a : Option Addr} {l : List ByteArray} (h : Strs w (.slice a nn c) l) {i : Nat} (hi : i < l.length) : ∃ b off, a = some ⟨b, off, none⟩ ∧ w.cell? ⟨b, off + i, none⟩ = some (.string l[i]) := by
  obtain ⟨b, off, ha, _, hc⟩ := SRows.at h (i := i) (by rw [List.length_map]; exact hi)
  have := hc 0 (.string l[i]) (by simp)
  exact ⟨b, off, ha, by simpa using this⟩
/-- What the first one told at i. -/
def yp (ss : List ByteArray) (i : Nat) : Pr := ⟨1, i + 1, ss.getD i ⟨#[]⟩, false⟩
/-- The first one behind i. -/
def ya (ss : List ByteArray) (i : Nat) : Awr := ⟨1, 1000, 0, i, match i with
  | 0 => []
  | k + 1 => [⟨yp ss k, 0⟩]⟩
/-- The second one when it heard all below t. -/
def yb (ss : List ByteArray) (t : Nat) : Awr := ⟨2, 1000, 0, 0, match t with
  | 0 => []
  | k + 1 => [⟨yp ss k, 0⟩]⟩
theorem y_say (ss : List ByteArray) (i : Nat) : (ya ss i).say (ss.getD i ⟨#[]⟩) false = ya ss (i + 1) := by
  cases i with
  | zero => rfl
  | succ k => rfl
theorem y_mine (ss : List ByteArray) (i : Nat) : (ya ss i).mine (ss.getD i ⟨#[]⟩) false = yp ss i := rfl
theorem yp_ok (ss : List ByteArray) (i : Nat) (hi : i < 1000) (hs : (ss.getD i ⟨#[]⟩).size ≤ 256) : (yp ss i).Ok := ⟨by show 1 ≤ _; omega, Nat.succ_pos i, by show i + 1 ≤ _; omega, hs, fun h => by cases h⟩
theorem y_take (ss : List ByteArray) (t k : Nat) (hk : k < 1000) (hs : (ss.getD k ⟨#[]⟩).size ≤ 256) : (yb ss t).take (wrL [yp ss k]) = (yb ss (max t (k + 1)), decide (t ≤ k), 0) := by
  rw [take_one _ _ (yp_ok ss k hk hs) (by show 0 < 1; omega)]
  have hc : (yb ss t).clock 1 = t := by
    cases t with
    | zero => rfl
    | succ j => rfl
  by_cases h : t ≤ k
  · have e : max t (k + 1) = k + 1 := by omega
    rw [take1_new (by show ¬ k + 1 ≤ (yb ss t).clock 1; rw [hc]; omega) (by show 1 ≠ 2; omega), e, decide_eq_true h]
    cases t with
    | zero => rfl
    | succ j => rfl
  · have e : max t (k + 1) = t := by omega
    rw [take1_old (by show k + 1 ≤ (yb ss t).clock 1; rw [hc]; omega), e, decide_eq_false h]
theorem y_seen (ss : List ByteArray) (k : Nat) : (yb ss (k + 1)).seen = [yp ss k] := by rfl
theorem y_clock (ss : List ByteArray) (t : Nat) : (yb ss t).clock 1 = t := by
  cases t with
  | zero => rfl
  | succ j => rfl
/-- A row of one's own, beside another one of another type that grows. -/
theorem own_other {w w' : World} {B nn sz e B2 n2 sz2 e2 : Nat} {v u : Value} {xs ys : List Value} (h : w.ownsRow B e sz v nn xs) (h2 : w.ownsRow B2 e2 sz2 u n2 ys) (hne : e ≠ e2) (hg : w.grownBy w' u.ownBlock) : w'.ownsRow B e sz v nn xs := by
  refine ⟨h.1, ?_⟩
  rcases h.2 with ⟨rfl, hn⟩ | ⟨g, cap, cur, rfl, hb, hc, h1, h3, h4, h5⟩
  · exact .inl ⟨rfl, hn⟩
  · refine .inr ⟨g, cap, cur, rfl, hb, ?_, h1, h3, h4, h5⟩
    refine (hg.block g (lt_of_some hc) (fun e' => ?_)).trans hc
    rcases h2.2 with ⟨rfl, _⟩ | ⟨g2, cap2, cur2, rfl, _, hc2, _⟩
    · simp [Value.ownBlock] at e'
    · simp only [Value.ownBlock, Option.some.injEq] at e'
      subst e'
      rw [hc] at hc2
      cases hc2
      exact hne rfl
theorem own_cells {w : World} {B nn e : Nat} {v : Value} {xs : List Value} (h : w.ownsRow B e 1 v nn xs) {k : Nat} (hk : k < xs.length) : ∃ b, ∃ c, v = .slice (some ⟨b, 0, none⟩) nn c ∧ w.cell? ⟨b, k, none⟩ = some xs[k] := by
  have hl := h.1
  rcases h.2 with ⟨rfl, hn⟩ | ⟨g, cap, cur, rfl, _, hg, _, _, hz, ht⟩
  · omega
  · refine ⟨g, cap, rfl, ?_⟩
    have hf : (cur.toList.take (nn * 1))[k]? = some xs[k] := by rw [ht]; simp [hk]
    rw [List.getElem?_take_of_lt (by omega)] at hf
    unfold World.cell?
    simp only [hg]
    simpa using hf
theorem AwAt.belowB {w w' : World} {p mb B : Nat} {a : Awr} (h : AwAt w p mb a) (hb : Below B w w') (hp : p < B) (hm : mb < B) : AwAt w' p mb a := by
  obtain ⟨h1, ⟨m, h2, h3⟩, h4⟩ := h
  exact ⟨h1.below hb hp, ⟨m, h2.mono (hb.block mb hm) (fun _ _ h => h), h3⟩, h4⟩
theorem Two.belowB {w0 w w' : World} {p mb p2 mb2 B : Nat} {a b : Awr} (h : Two w0 w p mb p2 mb2 a b) (hb : Below B w w') (h1 : p < B) (h2 : mb < B) (h3 : p2 < B) (h4 : mb2 < B) (hw : w0.heap.size ≤ B) : Two w0 w' p mb p2 mb2 a b :=
  ⟨h.A.belowB hb h1 h2, h.B.belowB hb h3 h4, h.n1, h.n2, h.n3, h.n4, h.lo, h.bel.trans (hb.mono hw)⟩
/-- What was told, kept. -/
def Told (A : World) (B : Nat) (ss : List ByteArray) (xs : List Value) : Prop := ∀ (j : Nat) (h : j < xs.length), (ss.getD j ⟨#[]⟩).size ≤ 256 ∧ A.ownsRow B 5 1 xs[j] (wrL [yp ss j]).length ((wrL [yp ss j]).map bc)
theorem Told.map {A A' : World} {B : Nat} {ss : List ByteArray} {xs : List Value} (h : Told A B ss xs) (hk : ∀ v n l, A.ownsRow B 5 1 v n l → A'.ownsRow B 5 1 v n l) : Told A' B ss xs :=
  fun j hj => ⟨(h j hj).1, hk _ _ _ (h j hj).2⟩
instance (op : BinOp) (p q : Int) : Decidable (cmpP op p q) := by unfold cmpP; cases op <;> infer_instance
theorem P_cd {P : Program} {F : Fr} {ty t t' : TypeId} {x y : Operand} {k : IntKind} {op : BinOp} {p q : Int} (hx : ev F x = .int k p) (hy : ev F y = .int k q) (ho : isCmp op = true) : Pu P F (.binOp op t x y t') ty (.bool (decide (cmpP op p q))) := by
  by_cases h : cmpP op p q
  · rw [decide_eq_true h]
    exact P_ct hx hy ho h
  · rw [decide_eq_false h]
    exact P_cf hx hy ho h
theorem Prs.drew' {w : World} {v : Value} {l : List Pr} (h : Prs w v l) : Prs w.drew v l := h
theorem Strs.drew' {w : World} {v : Value} {l : List ByteArray} (h : Strs w v l) : Strs w.drew v l := h
attribute [local irreducible] W Lst Qst Pu seqQ blkQ rndQ cutQ retQ Does Enters IntKind.wrap bits sb World.alloc World.putObj Blk
set_option maxHeartbeats 2000000 in
theorem law_AwareAnyOrder (vs vo : Value) (ss : List ByteArray) (os : List UInt8) (hsl : ss.length ≤ 9223372036854775807) (hol : os.length ≤ 281474976710656) (w : World) (hs : Strs w vs ss) (ho : Ints w .u8 vo (nums os)) : Does Try.prog 3 #[vs, vo] w fun v w' => v = .bool true ∧ Below w.heap.size w w' := by
  obtain ⟨a1, a2, rfl⟩ := hs.form
  obtain ⟨b1', b2', rfl⟩ := ho.form
  rw [nums_length] at *
  refine Does_of (args := [.slice a1 ss.length a2, .slice b1' os.length b2']) Try.func3 (by kernel_rfl) rfl rfl rfl rfl rfl ?_
  (refine Ga ?_)
  (apply Lst_call; (focus rfl); (focus rfl))
  refine (c_known20 w).mono ?_
  rintro v w1 ⟨rfl, b1⟩
  have s1 := b1.size
  by_cases h30 : 30 < ss.length
  · (refine Ga ?_)
    (apply retQ1; (focus rfl))
    exact ⟨rfl, b1⟩
  by_cases h60 : 60 < os.length
  · (refine Ga ?_)
    (apply retQ1; (focus rfl))
    exact ⟨rfl, b1⟩
  (refine Ga ?_)
  (apply Lst_call; (focus rfl); (focus rfl))
  refine (c_New 1 1000 w1).mono ?_
  rintro v w2 ⟨p, mb, rfl, hp, hm, hA, b2⟩
  (refine Ga ?_)
  (apply Lst_call; (focus rfl); (focus rfl))
  refine (c_New 2 1000 w2).mono ?_
  rintro v w3 ⟨p2, mb2, rfl, hp2, hm2, hB, b3⟩
  have T3 : Two w1 w3 p mb p2 mb2 (ya ss 0) (yb ss 0) := Two.new hp hm hA b2 hp2 hm2 hB b3
  have l1 := T3.A.lt
  have l2 := T3.B.lt
  clear hA hB b2 b3 hp hm hp2 hm2
  (refine Ga ?_)
  refine W_loop (α := Nat × Value × List Value) (fun x => [(0, .slice a1 ss.length a2), (1, .slice b1' os.length b2'), (5, .pointer (some ⟨p, 0, none⟩)), (6, .pointer (some ⟨p2, 0, none⟩)), (7, x.2.1), (8, .int .i64 (x.1 : Int))])
    (fun x A => x.1 ≤ ss.length ∧ Two w1 A p mb p2 mb2 (ya ss x.1) (yb ss 0) ∧ A.ownsRow w3.heap.size 23 1 x.2.1 x.1 x.2.2 ∧ Told A w3.heap.size ss x.2.2 ∧ w3.heap.size ≤ A.heap.size) (fun x _ => ss.length - x.1) (0, .slice none 0 0, [])
    ⟨Nat.zero_le _, T3, World.ownsRow_nil _ _ _ _, fun j hj => absurd hj (Nat.not_lt_zero _), Nat.le_refl _⟩ ⟨rfl, rfl, rfl, rfl, rfl, rfl, trivial⟩ ?_
  clear T3
  rintro J ⟨i, told, xs⟩ A ⟨hi, T, hT, hTd, sA⟩
  dsimp only at hi T hT ⊢
  have hxl : xs.length = i := by have := hT.1; omega
  obtain ⟨t1, t2, t3, rfl⟩ := own_slice hT
  have hsA := hs.below (b1.trans (T.bel.mono s1)) (Nat.le_refl _)
  by_cases hil : i < ss.length
  · obtain ⟨sb, soff, rfl, hcell⟩ := hsA.at hil
    have hgd : ss.getD i ⟨#[]⟩ = ss[i] := by simp [List.getD, hil]
    rw [← hgd] at hcell
    by_cases h256 : 256 < (ss.getD i ⟨#[]⟩).size
    · (refine Ga ?_)
      (apply retQ1; (focus rfl))
      exact ⟨rfl, b1.trans (T.bel.mono s1)⟩
    (refine Ga ?_)
    (apply Lst_call; (focus rfl); (focus rfl))
    refine (c_TellO p mb (ya ss i) (ss.getD i ⟨#[]⟩) (by show 1 < _; omega) (by omega) (by show i < _; omega) A T.A).mono ?_
    rintro v A1 ⟨⟨u, rfl, hu⟩, hA1, hc1⟩
    rw [y_say] at hA1
    rw [y_mine] at hu
    have T1 := T.stepA hA1 hc1
    have hT1 := own_chg hT hc1 (by simp; omega)
    have hTd1 := hTd.map (A' := A1) fun v n l h => own_chg h hc1 (by simp; omega)
    have sA1 := hc1.size
    obtain ⟨u1, u2, u3, rfl⟩ := own_slice hu
    clear hA1 hc1 T hT hTd hsA hcell
    (refine Ga ?_)
    apply Lst_push (hown := hT1) (bytes := 24)
    ((focus constructor); (focus rfl); (focus rfl); (focus rfl); (focus rfl); (focus rfl); (focus rfl); (focus rfl); (focus rfl); (focus rfl); (focus rfl); (focus simp [Value.oneCell']); (focus rfl); (focus rfl); (focus rfl); (focus rfl); (focus omega); (focus omega); (focus omega))
    intro v' A2 hT2 hgr _
    have hB2 : Below w3.heap.size A1 A2 := Sx.Below.own (Below.refl _ A1) hT1 hgr (Nat.le_refl _) (by omega)
    have T2 := T1.belowB hB2 l1.1 l1.2 l2.1 l2.2 (by have := T1.lo; omega)
    have hTd2 : Told A2 w3.heap.size ss xs := hTd1.map fun v n l h => own_other h hT1 (by decide) hgr
    have hu2 := own_other hu hT1 (by decide) hgr
    have sA2 := hB2.size
    obtain ⟨q1, q2, q3, rfl⟩ := own_slice hT2
    (refine Ga ?_)
    refine rndQ_n (α := Nat × Value × List Value) (i + 1, .slice q1 q2 q3, xs ++ [.slice u1 u2 u3]) ⟨by dsimp only; omega, T2, hT2, ?_, by omega⟩ ⟨rfl, rfl, rfl, rfl, rfl, ?_, trivial⟩ (by dsimp only; omega)
    · intro j hj
      by_cases hjx : j < xs.length
      · have := hTd2 j hjx
        rw [List.getElem_append_left hjx]
        exact this
      · have hji : j = i := by simp only [List.length_append, List.length_singleton] at hj; omega
        subst hji
        rw [List.getElem_append_right (by omega)]
        refine ⟨by omega, ?_⟩
        have e : ∀ k (h : k < [Value.slice u1 u2 u3].length), [Value.slice u1 u2 u3][k] = .slice u1 u2 u3 := fun k h => by simp
        rw [e]
        exact own_baseN hu2 sA
    · show Value.int .i64 ((i : Int) + 1) = Value.int .i64 ((i + 1 : Nat) : Int)
      rw [Int.natCast_add]
      rfl
  · obtain rfl : i = ss.length := by omega
    obtain ⟨_, _, e, _⟩ := own_form hT
    cases e
    (refine Ga ?_)
    refine W_loop (α := Nat × Nat) (fun x => [(0, .slice a1 ss.length a2), (1, .slice b1' os.length b2'), (6, .pointer (some ⟨p2, 0, none⟩)), (7, .slice t1 ss.length t3), (11, .int .i64 ((x.2 : Int) - 1)), (12, .int .i64 (x.1 : Int))])
      (fun x A => x.1 ≤ os.length ∧ x.2 ≤ ss.length ∧ (∃ a, Two w1 A p mb p2 mb2 a (yb ss x.2)) ∧ A.ownsRow w3.heap.size 23 1 (.slice t1 ss.length t3) ss.length xs ∧ Told A w3.heap.size ss xs ∧ w3.heap.size ≤ A.heap.size) (fun x _ => os.length - x.1) (0, 0)
      ⟨Nat.zero_le _, Nat.zero_le _, ⟨_, T⟩, hT, hTd, sA⟩ ⟨rfl, rfl, rfl, rfl, rfl, rfl, trivial⟩ ?_
    clear T hT hTd sA hsA
    rintro J ⟨i, t⟩ A ⟨hi, htl, ⟨a, T⟩, hT, hTd, sA⟩
    dsimp only at hi htl T ⊢
    have hbA := b1.trans (T.bel.mono s1)
    by_cases hend : i < os.length ∧ 0 < ss.length
    · obtain ⟨hio, h0⟩ := hend
      obtain ⟨ob, ooff, rfl, hoc⟩ := Sx.Ints.at (Ints.below ho hbA (Nat.le_refl _)) (j := i) hio
      have hox : (nums os).getD i 0 = ((os[i].toNat : Nat) : Int) := by simp [nums, List.getD, hio]
      rw [hox] at hoc
      have hx256 := UInt8.toNat_lt os[i]
      generalize os[i].toNat = X at hoc hx256
      have hwx : IntKind.i64.wrap (X : Int) = (X : Int) := wi64 (by omega) (by omega)
      obtain ⟨k, hk⟩ : ∃ k, k = X % ss.length := ⟨_, rfl⟩
      have hkl : k < ss.length := by rw [hk]; exact Nat.mod_lt _ h0
      have hkm : ((X : Nat) : Int).tmod (ss.length : Int) = (k : Int) := by
        rw [Int.tmod_eq_emod_of_nonneg (by omega), hk]
        exact (Int.natCast_emod X ss.length).symm
      obtain ⟨tb, tc, et, htc⟩ := own_cells hT (k := k) (by omega)
      cases et
      obtain ⟨hk256, hku⟩ := hTd k (by omega)
      obtain ⟨u1, u2, u3, hu⟩ := own_slice hku
      rw [hu] at htc hku
      have hui := Ints.ofO hku
      have htc' : A.cell? ⟨tb, 0 + k, none⟩ = some (.slice u1 u2 u3) := by rw [Nat.zero_add]; exact htc
      (refine Ga ?_)
      rw [hkm, ← hk]
      clear hoc
      (refine Ga ?_)
      (apply Lst_call; (focus rfl); (focus rfl))
      refine (c_TakeE p2 mb2 _ _ _ (y_take ss t k (by omega) hk256) (by have := wrL_one_len _ (yp_ok ss k (by omega) hk256); omega) A T.B hui).mono ?_
      rintro v A1 ⟨rfl, hB1, hc1⟩
      have T1 := T.stepB hB1 hc1
      have hT1 := own_chg hT hc1 (by simp; omega)
      have hTd1 := hTd.map (A' := A1) fun v n l h => own_chg h hc1 (by simp; omega)
      have sA1 := hc1.size
      clear hB1 hc1 T hT hTd hku htc htc' hui
      obtain ⟨q, hq⟩ : ∃ q, max t (k + 1) = q + 1 := ⟨max t (k + 1) - 1, by omega⟩
      have hql : q < ss.length := by omega
      have hmx : max ((t : Int) - 1) (k : Int) = (q : Int) := by omega
      rw [hq] at T1
      have hbb : (decide (t ≤ k) != decide (cmpP .gtr (k : Int) ((t : Int) - 1))) = false := by
        have : decide (t ≤ k) = decide (cmpP .gtr (k : Int) ((t : Int) - 1)) := by
          congr 1
          show (t ≤ k) = ((t : Int) - 1 < (k : Int))
          apply propext
          omega
        rw [this]
        exact bne_self_eq_false _
      (refine Ga ?_)
      apply Lst_pu
      · apply P_cd
        focus rfl
        focus rfl
        focus rfl
      focus rfl
      (refine Ga ?_)
      rw [hbb]
      (refine Ga ?_)
      rw [hmx]
      (apply Lst_call; (focus rfl); (focus rfl))
      refine (c_SeenE p2 mb2 _ (y_seen ss q) (by show 1 ≤ 100000000; omega) A1 T1.B).mono ?_
      rintro v A2 ⟨⟨hs2, x1, x2, rfl⟩, hb2⟩
      have T2 := T1.below hb2
      have hT2 := own_below hT1 hb2 (Nat.le_refl _)
      have hTd2 := hTd1.map (A' := A2) fun v n l h => own_below h hb2 (Nat.le_refl _)
      have sA2 := hb2.size
      have hlen : ((([yp ss q] : List Pr).length : Nat) : Int) = 1 := rfl
      obtain ⟨b', off, rfl, hbl, hcells⟩ := hs2.drew'.at (i := 0) (Nat.succ_pos 0)
      have hc0 : A2.drew.cell? ⟨b', off + 0 * 4 + 0, none⟩ = some (.int .u64 1) := hcells 0 _ rfl
      have hc1 : A2.drew.cell? ⟨b', off + 0 * 4 + 1, none⟩ = some (.int .u64 ((q + 1 : Nat) : Int)) := hcells 1 _ rfl
      have hc2 : A2.drew.cell? ⟨b', off + 0 * 4 + 2, none⟩ = some (.string (ss.getD q ⟨#[]⟩)) := hcells 2 _ rfl
      obtain ⟨sb, soff, rfl, hsc⟩ := (hs.below (b1.trans (T2.bel.mono s1)) (Nat.le_refl _)).drew'.at hql
      have hgd : ss.getD q ⟨#[]⟩ = ss[q] := by simp [List.getD, hql]
      rw [← hgd] at hsc
      clear hT1 hTd1 T1 hb2
      (refine Ga ?_)
      have hw8 : arith .add .i64 (q : Int) 1 = ((q + 1 : Nat) : Int) := by
        show IntKind.i64.wrap ((q : Int) + 1) = _
        rw [wi64 (by omega) (by omega)]
        omega
      have hw9 : IntKind.u64.wrap ((q + 1 : Nat) : Int) = ((q + 1 : Nat) : Int) := wu64 (by omega) (by omega)
      refine W_draws (fun A' => A' = World.drew _) rfl (by kernel_rfl) rfl ?_
      (refine Qf ?_)
      apply Qst_pu
      · apply P_idx
        focus rfl
        focus rfl
        focus rfl
        focus rfl
        focus rfl
        focus omega
        focus (rw [hlen]; omega)
      focus rfl
      (refine Qf ?_)
      apply Qst_loadc
      focus rfl
      focus rfl
      focus rfl
      focus exact fun A9 hA9 => by subst hA9; exact hc0
      focus rfl
      (refine Qf ?_)
      apply Qst_pu
      · apply P_idx
        focus rfl
        focus rfl
        focus rfl
        focus rfl
        focus rfl
        focus omega
        focus (rw [hlen]; omega)
      focus rfl
      (refine Qf ?_)
      apply Qst_loadc
      focus rfl
      focus rfl
      focus rfl
      focus exact fun A9 hA9 => by subst hA9; exact hc1
      focus rfl
      (refine Qf ?_)
      apply Qst_pu
      · apply P_idx
        focus rfl
        focus rfl
        focus rfl
        focus rfl
        focus rfl
        focus omega
        focus (rw [hlen]; omega)
      focus rfl
      (refine Qf ?_)
      apply Qst_loadc
      focus rfl
      focus rfl
      focus rfl
      focus exact fun A9 hA9 => by subst hA9; exact hc2
      focus rfl
      (refine Qf ?_)
      apply Qst_loadc
      focus rfl
      focus rfl
      focus rfl
      focus exact fun A9 hA9 => by subst hA9; exact hsc
      focus rfl
      (refine Qf ?_)
      rintro _ rfl
      (refine Ga ?_)
      refine rndQ_n (α := Nat × Nat) (i + 1, q + 1) ⟨by dsimp only; omega, by dsimp only; omega, ⟨a, T2.below (Below.drew (Below.refl _ _))⟩, own_drew hT2, hTd2.map fun v n l h => own_drew h, by show _ ≤ A2.heap.size; omega⟩ ⟨rfl, rfl, rfl, rfl, ?_, ?_, trivial⟩ (by dsimp only; omega)
      · show Value.int .i64 (q : Int) = Value.int .i64 (((q + 1 : Nat) : Int) - 1)
        congr 1
        omega
      · show Value.int .i64 ((i : Int) + 1) = Value.int .i64 ((i + 1 : Nat) : Int)
        rw [Int.natCast_add]
        rfl
    · by_cases hio : i < os.length
      · have h0 : ss.length = 0 := by omega
        rw [h0] at htl
        (refine Ga ?_)
        (apply Lst_call; (focus rfl); (focus rfl))
        refine (c_Clock p2 mb2 1 _ A T.B).mono ?_
        rintro v w' ⟨rfl, rfl⟩
        rw [y_clock]
        have hw8 : arith .add .i64 ((t : Int) - 1) 1 = (t : Int) := by
          show IntKind.i64.wrap ((t : Int) - 1 + 1) = _
          rw [wi64 (by omega) (by omega)]
          omega
        have hw9 : IntKind.u64.wrap (t : Int) = (t : Int) := wu64 (by omega) (by omega)
        (refine Ga ?_)
        (apply retQ1; (focus rfl))
        exact ⟨rfl, hbA⟩
      · skip
        (refine Ga ?_)
        (apply Lst_call; (focus rfl); (focus rfl))
        refine (c_Clock p2 mb2 1 _ A T.B).mono ?_
        rintro v w' ⟨rfl, rfl⟩
        rw [y_clock]
        have hw8 : arith .add .i64 ((t : Int) - 1) 1 = (t : Int) := by
          show IntKind.i64.wrap ((t : Int) - 1 + 1) = _
          rw [wi64 (by omega) (by omega)]
          omega
        have hw9 : IntKind.u64.wrap (t : Int) = (t : Int) := wu64 (by omega) (by omega)
        (refine Ga ?_)
        (apply retQ1; (focus rfl))
        exact ⟨rfl, hbA⟩
end Aw
end Go.Proofs.Ytoljcnlmockpcaa
