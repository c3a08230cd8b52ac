/- (written by a small program out of the text of the same name, without the Writer) The walks of the document's texts of values: quireref2.Dec, Quote, Text. -/
import Derived.Test.YtglfoofclicfpaaDoorText2
import Derived.Test.YtglfoofclicfpaaDoorJVal6ToVal7
import Derived.Lib.AppendStr
import Derived.Laws.BytesArg
namespace Go.Proofs.YtglfoofclicfpaaDoor
set_option maxRecDepth 100000
namespace Wire
open Go Go.RowKit Sx
/-- A byte as a cell. -/
def bc (x : UInt8) : Value := .int .u8 (x.toNat : Int)
/-- Bytes behind a slice. -/
def nums (l : List UInt8) : List Int := l.map fun x => (x.toNat : Int)
theorem nums_map (l : List UInt8) : (nums l).map (Value.int .u8) = l.map bc := by
  unfold nums bc
  rw [List.map_map]
  rfl
section
variable {P : Program} {rd : Option Nat} {n : Nat} {ops : Array Oper} {Q : Post} {rest : List Oper} {F : Fr} {ds : List Deferred} {w : World} {ty : TypeId} {pos : String} {after : Array Edge}
/-- string(b) of bytes that are only read. -/
theorem Lst_bytesI {d t t' e : Nat} {x : Operand} {v : Value} {l : List UInt8} (hx : ev F x = v) (hv : Ints w .u8 v (nums l)) (ht : P.underlying t = some (.slice e)) (he : P.underlying e = some (.int .u8)) (ht' : P.underlying t' = some .string) (hd : Nat.blt d n = true)
    (h : Lst P rd n ops Q rest (upd F d (.string ⟨l.toArray⟩)) ds w) : Lst P rd n ops Q (⟨some d, .convert t t' x, ty, pos, after, none⟩ :: rest) F ds w := by
  obtain ⟨b, off, cap, h1, h2, h3⟩ := hv
  rcases h1 with rfl | ⟨⟨a0, rfl⟩, hz⟩
  · refine Lst_bytes (l := l) hx (by simp [nums]) ht he ht' (fun j hj => ?_) hd h
    have := h3 j (by simp [nums]; exact hj)
    rw [this]
    simp [nums]
  · have hl : l = [] := by simpa [nums] using hz
    subst hl
    refine Lst_value (v := .string ⟨[].toArray⟩) (w' := w) rfl ?_ hd h
    cases a0 with
    | none =>
      have := run_convert_bytes_nil (P := P) (w := w) t e ht he 0 0 t' ht'
      simp [execOp, hx, this]
      rfl
    | some a0 =>
      have := run_convert_bytes_back (P := P) w t t' e a0 0 [] ht he ht' (fun j hj => absurd hj (Nat.not_lt_zero _))
      rw [List.length_nil] at this
      simp [execOp, hx, this]
end
end Wire
namespace Val
open Go Go.RowKit Sx Fl Hex Wire
def d10 : ByteArray := ⟨#[48, 49, 50, 51, 52, 53, 54, 55, 56, 57]⟩
theorem d10_at (k : Nat) (hk : k < 10) : d10.extract k (k + 1) = ⟨#[UInt8.ofNat (48 + k)]⟩ :=
  (by decide : ∀ k : Fin 10, d10.extract k.1 (k.1 + 1) = ⟨#[UInt8.ofNat (48 + k.1)]⟩) ⟨k, hk⟩
def d16 : ByteArray := ⟨#[48, 49, 50, 51, 52, 53, 54, 55, 56, 57, 97, 98, 99, 100, 101, 102]⟩
theorem d16_at (k : Nat) (hk : k < 16) : d16.extract k (k + 1) = ⟨#[hd k]⟩ :=
  (by decide : ∀ k : Fin 16, d16.extract k.1 (k.1 + 1) = ⟨#[hd k.1]⟩) ⟨k, hk⟩
theorem str_app (a b : List UInt8) : (⟨a.toArray⟩ : ByteArray) ++ ⟨b.toArray⟩ = ⟨(a ++ b).toArray⟩ := by
  apply ByteArray.ext
  rw [ByteArray.data_append]
  simp
theorem str_size (a : List UInt8) : (⟨a.toArray⟩ : ByteArray).size = a.length := by
  show a.toArray.size = _
  simp
theorem dec_len (u : Nat) (h : u < 18446744073709551616) : (Lib.decDigits u).length ≤ 20 := by
  have : ∀ k u : Nat, u < 10 ^ (k + 1) → (Lib.decDigits u).length ≤ k + 1 := by
    intro k
    induction k with
    | zero => intro u h; rw [Lib.decDigits, dif_pos (by simpa using h)]; simp
    | succ k ih =>
      intro u h
      rw [Lib.decDigits]
      split
      · simp
      · rw [List.length_append]
        have := ih (u / 10) (by rw [Nat.pow_succ] at h; omega)
        simp
        omega
  exact this 19 u (by omega)
theorem wrap_neg64 {n : Int} (h0 : n < 0) (h1 : -9223372036854775808 ≤ n) : IntKind.u64.wrap n = n + 18446744073709551616 := by
  simp [IntKind.wrap, IntKind.signed, IntKind.bits]
  omega
theorem wrap_back64 {n : Int} (h0 : n < 0) (h1 : -9223372036854775808 ≤ n) : IntKind.u64.wrap (0 - (n + 18446744073709551616)) = ((n.natAbs : Nat) : Int) := by
  simp [IntKind.wrap, IntKind.signed, IntKind.bits]
  omega
theorem ok_kind' {x : Vl} (h : okV x = true) : x.k = 0 ∨ x.k = 1 ∨ x.k = 2 ∨ x.k = 3 ∨ x.k = 4 ∨ x.k = 5 := by
  unfold okV at h
  by_cases h0 : x.k = 0 ∨ x.k = 5
  · omega
  by_cases h1 : x.k = 1
  · omega
  by_cases h2 : x.k = 2
  · omega
  by_cases h3 : x.k = 3
  · omega
  by_cases h4 : x.k = 4
  · omega
  simp [h0, h1, h2, h3, h4] at h
theorem ok_bool' {x : Vl} (h : okV x = true) (hk : x.k = 1) : x.n = 0 ∨ x.n = 1 := by
  unfold okV at h
  simp [hk] at h
  exact h.1
theorem sz10 : d10.size = 10 := rfl
theorem sz16 : d16.size = 16 := rfl
attribute [local irreducible] W Lst Qst Pu seqQ blkQ rndQ cutQ retQ Does Enters IntKind.wrap bits sb World.alloc World.putObj Blk
theorem r_Dec (n : Int) (h0 : -9223372036854775808 ≤ n) (h1 : n < 9223372036854775808) (w : World) : Does Tryd.prog 34 #[.int .i64 n] w fun v w' => v = .string ⟨(Lib.itoa n).toArray⟩ ∧ w = w' := by
  refine Does_of (args := [.int .i64 n]) Tryd.func34 (by kernel_rfl) rfl rfl rfl rfl rfl ?_
  by_cases hn : n < 0
  · have hw := wrap_neg64 hn h0
    have hw2 := wrap_back64 hn h0
    (refine Ga ?_)
    refine W_loop (α := Nat × List UInt8) (fun x => [(3, .int .u64 (x.1 : Int)), (4, .string ⟨#[45]⟩), (5, .string ⟨x.2.toArray⟩)])
      (fun x A => x.1 < 18446744073709551616 ∧ x.2.length ≤ 20 ∧ Lib.decDigits x.1 ++ x.2 = Lib.decDigits n.natAbs ∧ w = A) (fun x _ => x.1) (n.natAbs, []) ⟨by dsimp only; omega, by simp, by simp, rfl⟩ ⟨rfl, rfl, rfl, trivial⟩ ?_
    rintro J ⟨u, out⟩ A ⟨hu, hlo, hd, rfl⟩
    dsimp only at hu hlo hd ⊢
    have hlen := dec_len n.natAbs (by omega)
    rw [← hd, List.length_append] at hlen
    have hrem : (u : Int).tmod 10 = ((u % 10 : Nat) : Int) := by rw [Int.tmod_eq_emod_of_nonneg (by omega)]; omega
    have hquo : IntKind.u64.wrap ((u : Int).tdiv 10) = ((u / 10 : Nat) : Int) := by rw [Int.tdiv_eq_ediv_of_nonneg (by omega), wu64 (by omega) (by omega)]; omega
    have hm : u % 10 < 10 := Nat.mod_lt _ (by omega)
    have hdig : Value.string (d10.extract ((u % 10 : Nat) : Int).toNat (((u % 10 : Nat) : Int) + 1).toNat) = .string ⟨[UInt8.ofNat (48 + u % 10)].toArray⟩ := by
      rw [show (((u % 10 : Nat) : Int) + 1).toNat = u % 10 + 1 by omega, Int.toNat_natCast, d10_at _ hm]
    have hsz : ((u % 10 : Nat) : Int) + 1 ≤ ((d10.size : Nat) : Int) := by rw [sz10]; omega
    have hs1 : (⟨[UInt8.ofNat (48 + u % 10)].toArray⟩ : ByteArray).size = 1 := rfl
    have hs2 := str_size out
    have happ := str_app [UInt8.ofNat (48 + u % 10)] out
    have hs3 : (⟨#[45]⟩ : ByteArray).size = 1 := rfl
    have hs4 : ((⟨[UInt8.ofNat (48 + u % 10)].toArray⟩ : ByteArray) ++ ⟨out.toArray⟩).size = out.length + 1 := by rw [happ, str_size]; simp
    (refine Gf ?_)
    apply Lst_pu
    · apply P_rem
      focus rfl
      focus rfl
      focus omega
      exact hrem
    focus rfl
    (refine Gf ?_)
    apply Lst_pu
    · apply P_rem
      focus rfl
      focus rfl
      focus omega
      exact hrem
    focus rfl
    (refine Gf ?_)
    apply Lst_pu (v := .string ⟨[UInt8.ofNat (48 + u % 10)].toArray⟩)
    · rw [← hdig]
      apply P_sslice
      focus rfl
      focus rfl
      focus rfl
      focus rfl
      focus omega
      focus omega
      exact hsz
    focus rfl
    (refine Gf ?_)
    apply Lst_pu
    · apply P_quo
      focus rfl
      focus rfl
      focus omega
      exact hquo
    focus rfl
    by_cases hz : u / 10 = 0
    · (refine Gf ?_)
      (apply retQ1; (focus rfl))
      refine ⟨?_, rfl⟩
      have e : Lib.decDigits u = [UInt8.ofNat (48 + u % 10)] := by
        rw [Lib.decDigits, dif_pos (by omega), Nat.mod_eq_of_lt (by omega)]
      rw [e] at hd
      show Value.string ((⟨#[45]⟩ : ByteArray) ++ (⟨[UInt8.ofNat (48 + u % 10)].toArray⟩ ++ ⟨out.toArray⟩)) = _
      rw [happ, show (⟨#[45]⟩ : ByteArray) = ⟨([45] : List UInt8).toArray⟩ from rfl, str_app, hd]
      unfold Lib.itoa
      rw [if_pos hn]
      rfl
    · (refine Gf ?_)
      refine rndQ_n (u / 10, UInt8.ofNat (48 + u % 10) :: out) ⟨by dsimp only; omega, ?_, ?_, rfl⟩ ⟨rfl, rfl, ?_, trivial⟩ (by dsimp only; omega)
      · have h1 := List.length_pos_iff.2 (dec_ne_nil u)
        have h2 : 2 ≤ (Lib.decDigits u).length := by
          rw [Lib.decDigits, dif_neg (by omega), List.length_append]
          have := List.length_pos_iff.2 (dec_ne_nil (u / 10))
          simp
          omega
        dsimp only
        simp
        omega
      · dsimp only
        rw [← hd, Lib.decDigits.eq_1 u, dif_neg (by omega), List.append_assoc]
        rfl
      · show Value.string ((⟨[UInt8.ofNat (48 + u % 10)].toArray⟩ : ByteArray) ++ ⟨out.toArray⟩) = _
        rw [happ]
        rfl
  · have hw : IntKind.u64.wrap n = n := wu64 (by omega) (by omega)
    (refine Ga ?_)
    refine W_loop (α := Nat × List UInt8) (fun x => [(3, .int .u64 (x.1 : Int)), (4, .string ⟨#[]⟩), (5, .string ⟨x.2.toArray⟩)])
      (fun x A => x.1 < 18446744073709551616 ∧ x.2.length ≤ 20 ∧ Lib.decDigits x.1 ++ x.2 = Lib.decDigits n.natAbs ∧ w = A) (fun x _ => x.1) (n.natAbs, []) ⟨by dsimp only; omega, by simp, by simp, rfl⟩ ⟨by show Value.int .u64 _ = _; congr 1; omega, rfl, rfl, trivial⟩ ?_
    rintro J ⟨u, out⟩ A ⟨hu, hlo, hd, rfl⟩
    dsimp only at hu hlo hd ⊢
    have hlen := dec_len n.natAbs (by omega)
    rw [← hd, List.length_append] at hlen
    have hrem : (u : Int).tmod 10 = ((u % 10 : Nat) : Int) := by rw [Int.tmod_eq_emod_of_nonneg (by omega)]; omega
    have hquo : IntKind.u64.wrap ((u : Int).tdiv 10) = ((u / 10 : Nat) : Int) := by rw [Int.tdiv_eq_ediv_of_nonneg (by omega), wu64 (by omega) (by omega)]; omega
    have hm : u % 10 < 10 := Nat.mod_lt _ (by omega)
    have hdig : Value.string (d10.extract ((u % 10 : Nat) : Int).toNat (((u % 10 : Nat) : Int) + 1).toNat) = .string ⟨[UInt8.ofNat (48 + u % 10)].toArray⟩ := by
      rw [show (((u % 10 : Nat) : Int) + 1).toNat = u % 10 + 1 by omega, Int.toNat_natCast, d10_at _ hm]
    have hsz : ((u % 10 : Nat) : Int) + 1 ≤ ((d10.size : Nat) : Int) := by rw [sz10]; omega
    have hs1 : (⟨[UInt8.ofNat (48 + u % 10)].toArray⟩ : ByteArray).size = 1 := rfl
    have hs2 := str_size out
    have happ := str_app [UInt8.ofNat (48 + u % 10)] out
    have hs3 : (⟨#[]⟩ : ByteArray).size = 0 := rfl
    have hs4 : ((⟨[UInt8.ofNat (48 + u % 10)].toArray⟩ : ByteArray) ++ ⟨out.toArray⟩).size = out.length + 1 := by rw [happ, str_size]; simp
    (refine Gf ?_)
    apply Lst_pu
    · apply P_rem
      focus rfl
      focus rfl
      focus omega
      exact hrem
    focus rfl
    (refine Gf ?_)
    apply Lst_pu
    · apply P_rem
      focus rfl
      focus rfl
      focus omega
      exact hrem
    focus rfl
    (refine Gf ?_)
    apply Lst_pu (v := .string ⟨[UInt8.ofNat (48 + u % 10)].toArray⟩)
    · rw [← hdig]
      apply P_sslice
      focus rfl
      focus rfl
      focus rfl
      focus rfl
      focus omega
      focus omega
      exact hsz
    focus rfl
    (refine Gf ?_)
    apply Lst_pu
    · apply P_quo
      focus rfl
      focus rfl
      focus omega
      exact hquo
    focus rfl
    by_cases hz : u / 10 = 0
    · (refine Gf ?_)
      (apply retQ1; (focus rfl))
      refine ⟨?_, rfl⟩
      have e : Lib.decDigits u = [UInt8.ofNat (48 + u % 10)] := by
        rw [Lib.decDigits, dif_pos (by omega), Nat.mod_eq_of_lt (by omega)]
      rw [e] at hd
      show Value.string ((⟨#[]⟩ : ByteArray) ++ (⟨[UInt8.ofNat (48 + u % 10)].toArray⟩ ++ ⟨out.toArray⟩)) = _
      rw [happ, show (⟨#[]⟩ : ByteArray) = ⟨([] : List UInt8).toArray⟩ from rfl, str_app, hd]
      unfold Lib.itoa
      rw [if_neg hn, show n.toNat = n.natAbs by omega]
      rfl
    · (refine Gf ?_)
      refine rndQ_n (u / 10, UInt8.ofNat (48 + u % 10) :: out) ⟨by dsimp only; omega, ?_, ?_, rfl⟩ ⟨rfl, rfl, ?_, trivial⟩ (by dsimp only; omega)
      · have h1 := List.length_pos_iff.2 (dec_ne_nil u)
        have h2 : 2 ≤ (Lib.decDigits u).length := by
          rw [Lib.decDigits, dif_neg (by omega), List.length_append]
          have := List.length_pos_iff.2 (dec_ne_nil (u / 10))
          simp
          omega
        dsimp only
        simp
        omega
      · dsimp only
        rw [← hd, Lib.decDigits.eq_1 u, dif_neg (by omega), List.append_assoc]
        rfl
      · show Value.string ((⟨[UInt8.ofNat (48 + u % 10)].toArray⟩ : ByteArray) ++ ⟨out.toArray⟩) = _
        rw [happ]
        rfl
theorem own_lit {w : World} {e : TypeId} {v : Value} : (w.alloc (.cells [v].toArray e)).ownsRow w.heap.size e 1 (.slice (some ⟨w.heap.size, 0, none⟩) 1 1) 1 [v] := by
  have h : Blk (w.alloc (.cells [v].toArray e)) w.heap.size [v] e := Blk.newE rfl _ _
  unfold Blk at h
  exact ⟨rfl, .inr ⟨w.heap.size, 1, [v].toArray, rfl, Nat.le_refl _, h, Nat.le_refl _, by simp [maxLen], rfl, rfl⟩⟩
theorem r_Quote (s : ByteArray) (hs : s.size < 1000000) (w : World) : Does Tryd.prog 19 #[.string s] w fun v w' => v = .string ⟨(quote s.data.toList).toArray⟩ ∧ Below w.heap.size w w' := by
  refine Does_of (args := [.string s]) Tryd.func19 (by kernel_rfl) rfl rfl rfl rfl rfl ?_
  (refine Ga ?_)
  (apply Lst_lit1; (focus constructor); (focus rfl); (focus rfl); (focus rfl); (focus rfl); (focus rfl); (focus rfl); (focus rfl); (focus rfl); (focus ((try simp only [Sx.sizes]); first | done | rfl)); (focus rfl))
  (refine Ga ?_)
  refine W_loop (α := Nat × Value) (fun x => [(0, .string s), (3, x.2), (4, .int .i64 (x.1 : Int))])
    (fun x A => x.1 ≤ s.size ∧ A.ownsRow w.heap.size 5 1 x.2 (34 :: qbs (s.data.toList.take x.1)).length ((34 :: qbs (s.data.toList.take x.1)).map bc) ∧ Below w.heap.size w A ∧ ∃ a m c, x.2 = .slice a m c) (fun x _ => s.size - x.1)
    (0, .slice (some ⟨w.heap.size, 0, none⟩) 1 1) ⟨Nat.zero_le _, own_lit, Bel, _, _, _, rfl⟩ ⟨rfl, rfl, rfl, trivial⟩ ?_
  rintro J ⟨k, sv⟩ A ⟨hk, hown, hb, a, m, c, rfl⟩
  dsimp only at hk hown ⊢
  have hA := hb.size
  have htk : (qbs (s.data.toList.take k)).length ≤ 2 * k := Nat.le_trans (qbs_length _) (by rw [List.length_take]; omega)
  have hlen1 : (34 :: qbs (s.data.toList.take k)).length ≤ 2 * k + 1 := by simp; omega
  by_cases hlt : k < s.size
  · have hkl : k < s.data.toList.length := hlt
    have hsb : sb s k = (s.data.toList[k].toNat : Int) := by
      unfold sb
      rw [List.getD_eq_getElem?_getD, List.getElem?_eq_getElem hkl]
      rfl
    have hstep : qbs (s.data.toList.take (k + 1)) = qbs (s.data.toList.take k) ++ qb s.data.toList[k] := by
      rw [List.take_succ_eq_append_getElem hkl, qbs_append]
      simp [qbs]
    generalize s.data.toList[k] = x at hsb hstep
    by_cases hq : x.toNat = 34 ∨ x.toNat = 92
    · have hqb : qb x = [92, x] := by
        unfold qb
        rw [if_pos]
        rcases hq with h | h
        · exact .inl (UInt8.toNat_inj.1 h)
        · exact .inr (UInt8.toNat_inj.1 h)
      have hfin : (34 :: qbs (s.data.toList.take (k + 1))).map bc = ((34 :: qbs (s.data.toList.take k)).map bc ++ [.int .u8 92]) ++ [.int .u8 (sb s k)] := by
        rw [hstep, hqb, hsb]
        simp [bc]
      have hfl : (34 :: qbs (s.data.toList.take (k + 1))).length = (34 :: qbs (s.data.toList.take k)).length + 1 + 1 := by
        rw [hstep, hqb]; simp
      generalize 34 :: qbs (s.data.toList.take k) = pre at *
      rcases hq with hq | hq
      · (refine Ga ?_)
        apply Lst_push (hown := hown) (bytes := 1)
        ((focus constructor); (focus rfl); (focus rfl); (focus rfl); (focus rfl); (focus rfl); (focus rfl); (focus rfl); (focus rfl); (focus rfl); (focus rfl); (focus simp [Value.oneCell']); (focus rfl); (focus rfl); (focus rfl); (focus rfl); (focus omega); (focus omega); (focus omega))
        intro v' w2 ho' hg _
        obtain ⟨v1, v2, v3, rfl⟩ := own_slice ho'
        have hb2 := Sx.Below.own hb hown hg (Nat.le_refl _) hA
        have hA2 := hb2.size
        (refine Ga ?_)
        apply Lst_push (hown := ho') (bytes := 1)
        ((focus constructor); (focus rfl); (focus rfl); (focus rfl); (focus rfl); (focus rfl); (focus rfl); (focus rfl); (focus rfl); (focus rfl); (focus rfl); (focus simp [Value.oneCell']); (focus rfl); (focus rfl); (focus rfl); (focus rfl); (focus omega); (focus omega); (focus omega))
        intro v'' w3 ho'' hg' _
        obtain ⟨v4, v5, v6, rfl⟩ := own_slice ho''
        rw [← hfin, ← hfl] at ho''
        (refine Ga ?_)
        exact rndQ_n (k + 1, .slice v4 v5 v6) ⟨by dsimp only; omega, ho'', Sx.Below.own hb2 ho' hg' (Nat.le_refl _) hA2, _, _, _, rfl⟩ ⟨rfl, rfl, rfl, trivial⟩ (by dsimp only; omega)
      · (refine Ga ?_)
        apply Lst_push (hown := hown) (bytes := 1)
        ((focus constructor); (focus rfl); (focus rfl); (focus rfl); (focus rfl); (focus rfl); (focus rfl); (focus rfl); (focus rfl); (focus rfl); (focus rfl); (focus simp [Value.oneCell']); (focus rfl); (focus rfl); (focus rfl); (focus rfl); (focus omega); (focus omega); (focus omega))
        intro v' w2 ho' hg _
        obtain ⟨v1, v2, v3, rfl⟩ := own_slice ho'
        have hb2 := Sx.Below.own hb hown hg (Nat.le_refl _) hA
        have hA2 := hb2.size
        (refine Ga ?_)
        apply Lst_push (hown := ho') (bytes := 1)
        ((focus constructor); (focus rfl); (focus rfl); (focus rfl); (focus rfl); (focus rfl); (focus rfl); (focus rfl); (focus rfl); (focus rfl); (focus rfl); (focus simp [Value.oneCell']); (focus rfl); (focus rfl); (focus rfl); (focus rfl); (focus omega); (focus omega); (focus omega))
        intro v'' w3 ho'' hg' _
        obtain ⟨v4, v5, v6, rfl⟩ := own_slice ho''
        rw [← hfin, ← hfl] at ho''
        (refine Ga ?_)
        exact rndQ_n (k + 1, .slice v4 v5 v6) ⟨by dsimp only; omega, ho'', Sx.Below.own hb2 ho' hg' (Nat.le_refl _) hA2, _, _, _, rfl⟩ ⟨rfl, rfl, rfl, trivial⟩ (by dsimp only; omega)
    · have hqb : qb x = [x] := by
        unfold qb
        rw [if_neg]
        rintro (h | h)
        · exact hq (.inl (by rw [h]; rfl))
        · exact hq (.inr (by rw [h]; rfl))
      have hfin : (34 :: qbs (s.data.toList.take (k + 1))).map bc = (34 :: qbs (s.data.toList.take k)).map bc ++ [.int .u8 (sb s k)] := by
        rw [hstep, hqb, hsb]
        simp [bc]
      have hfl : (34 :: qbs (s.data.toList.take (k + 1))).length = (34 :: qbs (s.data.toList.take k)).length + 1 := by
        rw [hstep, hqb]; simp
      generalize 34 :: qbs (s.data.toList.take k) = pre at *
      have hq1 : ¬ x.toNat = 34 := fun h => hq (.inl h)
      have hq2 : ¬ x.toNat = 92 := fun h => hq (.inr h)
      (refine Ga ?_)
      apply Lst_push (hown := hown) (bytes := 1)
      ((focus constructor); (focus rfl); (focus rfl); (focus rfl); (focus rfl); (focus rfl); (focus rfl); (focus rfl); (focus rfl); (focus rfl); (focus rfl); (focus simp [Value.oneCell']); (focus rfl); (focus rfl); (focus rfl); (focus rfl); (focus omega); (focus omega); (focus omega))
      intro v' w2 ho' hg _
      obtain ⟨v1, v2, v3, rfl⟩ := own_slice ho'
      rw [← hfin, ← hfl] at ho'
      (refine Ga ?_)
      exact rndQ_n (k + 1, .slice v1 v2 v3) ⟨by dsimp only; omega, ho', Sx.Below.own hb hown hg (Nat.le_refl _) hA, _, _, _, rfl⟩ ⟨rfl, rfl, rfl, trivial⟩ (by dsimp only; omega)
  · obtain rfl : k = s.size := by omega
    have htake : s.data.toList.take s.size = s.data.toList := List.take_length
    rw [htake] at hown htk hlen1
    have hfin : (34 :: qbs s.data.toList).map bc ++ [.int .u8 34] = (nums (quote s.data.toList)).map (Value.int .u8) := by
      rw [nums_map, show [Value.int .u8 34] = [(34 : UInt8)].map bc from rfl, ← List.map_append]
      rfl
    generalize 34 :: qbs s.data.toList = pre at *
    (refine Ga ?_)
    apply Lst_push (hown := hown) (bytes := 1)
    ((focus constructor); (focus rfl); (focus rfl); (focus rfl); (focus rfl); (focus rfl); (focus rfl); (focus rfl); (focus rfl); (focus rfl); (focus rfl); (focus simp [Value.oneCell']); (focus rfl); (focus rfl); (focus rfl); (focus rfl); (focus omega); (focus omega); (focus omega))
    intro v' w2 ho' hg _
    obtain ⟨v1, v2, v3, rfl⟩ := own_slice ho'
    rw [hfin] at ho'
    have hi := Ints.of_own ho'
    (refine Ga ?_)
    apply Lst_bytesI (l := quote s.data.toList)
    focus rfl
    focus exact hi
    focus rfl
    focus rfl
    focus rfl
    focus rfl
    (refine Ga ?_)
    (apply retQ1; (focus rfl))
    exact ⟨rfl, Sx.Below.own hb hown hg (Nat.le_refl _) hA⟩
theorem shr4 (n j : Nat) (hj : j < 16) : ((n : Int)).fdiv (2 ^ (min (4 * (j : Int)).toNat IntKind.u64.bits)) = ((n / 16 ^ j : Nat) : Int) := by
  rw [show (4 * (j : Int)).toNat = 4 * j by omega, show min (4 * j) IntKind.u64.bits = 4 * j from Nat.min_eq_left (by show 4 * j ≤ 64; omega), Int.pow_mul, Int.fdiv_eq_ediv_of_nonneg _ (Int.pow_nonneg (by decide))]
  rw [show ((2 : Int) ^ 4) = ((16 : Nat) : Int) by decide, ← Int.natCast_pow]
  exact (Int.natCast_ediv n (16 ^ j)).symm
set_option maxHeartbeats 2000000 in
theorem r_Text (x : Vl) (hok : okV x = true) (hx : x.Fit) (hs : x.s.size < 1000000) (w : World) : Does Tryd.prog 18 #[x.v] w fun v w' => v = .string ⟨(textV x).toArray⟩ ∧ Below w.heap.size w w' := by
  have hkind := ok_kind' hok
  have hbool := ok_bool' hok
  have hn0 := hx.n0
  have hn1 := hx.n1
  have hf := hx.f1
  obtain ⟨k, n, f, s⟩ := x
  dsimp only at hkind hbool hn0 hn1 hf hs
  clear hok hx
  refine Does_of (args := [.agg #[.int .i64 k, .int .i64 n, .float .f64 f, .string s]]) Tryd.func18 (by kernel_rfl) rfl rfl rfl rfl rfl ?_
  rcases hkind with rfl | rfl | rfl | rfl | rfl | rfl
  · (refine Ga ?_)
    (apply retQ1; (focus rfl))
    exact ⟨rfl, Bel⟩
  · rcases hbool rfl with rfl | rfl
    · (refine Ga ?_)
      (apply retQ1; (focus rfl))
      exact ⟨rfl, Bel⟩
    · (refine Ga ?_)
      (apply retQ1; (focus rfl))
      exact ⟨rfl, Bel⟩
  · (refine Ga ?_)
    (apply Lst_call; (focus rfl); (focus rfl))
    refine (r_Dec n hn0 hn1 _).mono ?_
    rintro v w' ⟨rfl, rfl⟩
    (refine Ga ?_)
    (apply retQ1; (focus rfl))
    exact ⟨rfl, Bel⟩
  · have hbl := nbits_lt hf
    have hnb := fun A => r_Bits f A
    show W _ _ _ _ (retQ _ _ (fun v w' => v = .string ⟨(102 :: hexN 16 (nbits f)).toArray⟩ ∧ Below w.heap.size w w')) _ _ _
    generalize nbits f = u at hbl hnb ⊢
    (refine Ga ?_)
    refine W_abs (fun A => Blk A w.heap.size [.int .i64 3, .int .i64 n, .float .f64 f, .string s] 35 ∧ Below w.heap.size w A) ⟨Blk.newE rfl _ _, Bel⟩ ?_
    rintro A0 ⟨hbx0, hb0⟩
    refine W_loop (α := Nat × List UInt8) (fun x => [(1, .pointer (some ⟨w.heap.size, 0, none⟩)), (3, .string ⟨(102 :: x.2).toArray⟩), (4, .int .i64 (4 * (x.1 : Int) - 4))])
      (fun x A => x.1 ≤ 16 ∧ x.2 ++ hexN x.1 u = hexN 16 u ∧ Blk A w.heap.size [.int .i64 3, .int .i64 n, .float .f64 f, .string s] 35 ∧ Below w.heap.size w A) (fun x _ => x.1) (16, []) ⟨by simp, rfl, hbx0, hb0⟩ ⟨rfl, rfl, rfl, trivial⟩ ?_
    clear hbx0 hb0
    rintro J ⟨j, pre⟩ A ⟨hj, hp, hbx, hb⟩
    dsimp only at hj hp ⊢
    have hpl : pre.length + j = 16 := by
      have e := congrArg List.length hp
      rw [List.length_append, hexN_length, hexN_length] at e
      exact e
    match j, hj, hp, hpl with
    | 0, _, hp, _ =>
      (refine Ga ?_)
      (apply retQ1; (focus rfl))
      rw [show hexN 0 u = [] from rfl, List.append_nil] at hp
      exact ⟨by rw [← hp]; rfl, hb⟩
    | i + 1, hj, hp, hpl =>
      have hsh := shr4 u i (by omega)
      rw [show 4 * (i : Int) = 4 * ((i + 1 : Nat) : Int) - 4 by omega] at hsh
      have hx : u / 16 ^ i < 18446744073709551616 := Nat.lt_of_le_of_lt (Nat.div_le_self _ _) hbl
      have hand := and15 (u / 16 ^ i) hx
      have hm : u / 16 ^ i % 16 < 16 := Nat.mod_lt _ (by omega)
      have hst := hexN_succ' i u
      generalize u / 16 ^ i = q at hsh hand hm hst
      generalize q % 16 = d at hand hm hst
      have hdig : Value.string (d16.extract (d : Int).toNat ((d : Int) + 1).toNat) = .string ⟨[hd d].toArray⟩ := by
        rw [show ((d : Int) + 1).toNat = d + 1 by omega, Int.toNat_natCast, d16_at _ hm]
      have hsz : (d : Int) + 1 ≤ ((d16.size : Nat) : Int) := by rw [sz16]; omega
      have hs1 : (⟨[hd d].toArray⟩ : ByteArray).size = 1 := rfl
      have hs2 := str_size (102 :: pre)
      rw [List.length_cons] at hs2
      have happ := str_app (102 :: pre) [hd d]
      (refine Ga ?_)
      (apply Lst_call; (focus rfl); (focus rfl))
      refine (hnb _).mono ?_
      rintro v w' ⟨rfl, rfl⟩
      (refine Ga ?_)
      apply Lst_pu
      · apply P_shr
        focus rfl
        focus rfl
        focus omega
        exact hsh
      focus rfl
      (refine Ga ?_)
      apply Lst_pu (v := .string ⟨[hd d].toArray⟩)
      · rw [← hdig]
        apply P_sslice
        focus rfl
        focus rfl
        focus rfl
        focus rfl
        focus omega
        focus omega
        exact hsz
      focus rfl
      (refine Ga ?_)
      refine rndQ_n (i, pre ++ [hd d]) ⟨by dsimp only; omega, ?_, hbx, hb⟩ ⟨rfl, ?_, ?_, trivial⟩ (by dsimp only; omega)
      · dsimp only
        rw [← hp, hst, List.append_assoc]
        rfl
      · show Value.string ((⟨(102 :: pre).toArray⟩ : ByteArray) ++ ⟨[hd d].toArray⟩) = _
        rw [happ]
        rfl
      · show Value.int .i64 _ = _
        congr 1
        omega
  · (refine Ga ?_)
    (apply Lst_call; (focus rfl); (focus rfl))
    refine (r_Quote s hs _).mono ?_
    rintro v w1 ⟨rfl, hb1⟩
    have b1 := Sx.Below.after (w := w) Bel hb1
    have s1 := hb1.size
    try simp only [Sx.sizes] at s1
    (refine Ga ?_)
    (apply retQ1; (focus rfl))
    exact ⟨rfl, Bel⟩
  · (refine Ga ?_)
    (apply retQ1; (focus rfl))
    exact ⟨rfl, Bel⟩
end Val
end Go.Proofs.YtglfoofclicfpaaDoor
