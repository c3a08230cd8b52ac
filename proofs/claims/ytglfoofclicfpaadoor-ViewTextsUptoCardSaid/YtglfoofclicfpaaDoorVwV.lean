/- The runes of a view alone: WriteString, WriteRune of strings.Builder, Plain. -/
import Derived.Lib.AppendStr
import Derived.Test.YtglfoofclicfpaaDoorVwU
import Derived.Test.YtglfoofclicfpaaDoorJSxEToSxU
namespace Go.Proofs.YtglfoofclicfpaaDoor
set_option maxRecDepth 100000
namespace Vw
open Go Go.RowKit Sx Tl Fl Val Mk
open Utf (rs tl Tabs cutS)
section rules
variable {P : Program} {rd : Option Nat} {n : Nat} {ops : Array Oper} {Q : Post} {rest : List Oper} {F : Fr} {ds : List Deferred} {w : World} {ty : TypeId} {pos : String} {after : Array Edge}
/-- append of a string's bytes. -/
theorem Lst_appendS {d : Nat} {s x : Operand} {t u e B nn : Nat} {i : TypeInfo} {v : Value} {xs : List Value} {y : ByteArray} (hown : w.ownsRow B e 1 v nn xs) (hs : ev F s = v) (hx : ev F x = .string y) (ht : P.underlying t = some (.slice e)) (hu : P.underlying u = some .string) (hi : P.info? e = some i) (hz : i.zero = some (.int .u8 0))
    (hsize : i.size = 1) (hby : i.bytes = 1) (hl : nn + y.size ≤ 140737488355328) (hbase : B ≤ w.heap.size) (hd : Nat.blt d n = true)
    (h : ∀ v' w', w'.ownsRow B e 1 v' (nn + y.size) (xs ++ Lib.strCells y) → w.grownBy w' v.ownBlock → Lst P rd n ops Q rest (upd F d v') ds w') :
    Lst P rd n ops Q (⟨some d, .call { callee := .builtin .append, args := #[s, x], argTypes := #[t, u] }, ty, pos, after, none⟩ :: rest) F ds w := by
  obtain ⟨v', w', hrun, h2, h3, h4⟩ := Lib.run_append_own_string (P := P) w B t u ty e i ht hu hi hz hsize hby v nn xs hown y (by simp only [maxLen]; omega) hl hbase
  refine Lst_value (v := v') (w' := w') rfl ?_ hd (h v' w' h2 h3)
  simp [execOp, resolve, invoke, builtin, hs, hx, hrun]
end rules
theorem blk_keep {w w' : World} {b e : Nat} {l : List Value} (h : Blk w b l e) (hk : w'.heap[b]? = w.heap[b]?) : Blk w' b l e := hk.trans h
theorem cells_str (y : ByteArray) : Lib.strCells y = Lib.byteCells y.data.toList := rfl
theorem cells_add (a b : List UInt8) : Lib.byteCells a ++ Lib.byteCells b = Lib.byteCells (a ++ b) := by simp [Lib.byteCells]
theorem cells_len (a : List UInt8) : (Lib.byteCells a).length = a.length := by simp [Lib.byteCells]
theorem IsB.keep {B b : Nat} {bs : List Value} {w w' : World} (h : IsB B b bs w) (hb : Below w.heap.size w w') : IsB B b bs w' := by
  rcases h with ⟨hB, sv, hk, ho, hn⟩ | ⟨hB, sv, hk, ho, hn⟩
  · exact .inl ⟨hB, sv, (hb.block b (Array.getElem?_eq_some_iff.1 hk).1).trans hk, own_below ho hb (Nat.le_refl _), hn⟩
  · exact .inr ⟨hB, sv, (hb.block b (Array.getElem?_eq_some_iff.1 hk).1).trans hk, own_below ho hb (Nat.le_refl _), hn⟩
/-- A run's bytes alone: U+FFFC for an embed. -/
def plainR (r : Rn) : List UInt8 := if r.em then [239, 191, 188] else r.tx.data.toList
def plainP (L : List Rn) : List UInt8 := L.flatMap plainR
theorem plain_take {L : List Rn} {i : Nat} (h : i < L.length) : plainP (L.take (i + 1)) = plainP (L.take i) ++ plainR L[i] := by
  unfold plainP
  rw [List.take_succ_eq_append_getElem h, List.flatMap_append]
  simp
theorem plain_le (L : List Rn) (i : Nat) : (plainP (L.take i)).length ≤ (plainP L).length := by
  have e : plainP L = plainP (L.take i) ++ plainP (L.drop i) := by
    unfold plainP
    rw [← List.flatMap_append, List.take_append_drop]
  rw [e, List.length_append]
  omega
theorem w1 : IntKind.u32.wrap 65532 = 65532 := by decide
theorem w2 : IntKind.u8.wrap 15 = 15 := by decide
theorem w3 : bits .or .u8 224 15 = 239 := by decide
theorem w4 : IntKind.u8.wrap ((65532 : Int) / 64) = 255 := by decide
theorem w5 : bits .and .u8 255 63 = 63 := by decide
theorem w6 : bits .or .u8 128 63 = 191 := by decide
theorem w7 : IntKind.u8.wrap 65532 = 252 := by decide
theorem w8 : bits .and .u8 252 63 = 60 := by decide
theorem w9 : bits .or .u8 128 60 = 188 := by decide
section
attribute [local irreducible] RnS RnT
attribute [local irreducible] W Lst Qst Pu seqQ blkQ rndQ cutQ retQ Does Enters IntKind.wrap bits sb World.alloc World.putObj Blk
theorem c_ws (B b : Nat) (l : List UInt8) (y : ByteArray) (w : World) (h : IsB B b (Lib.byteCells l) w) (hlen : l.length + y.size ≤ 140737488355328) (hBw : B ≤ w.heap.size) : Does Tryd.prog 25 #[.pointer (some ⟨b, 0, none⟩), .string y] w fun _ w' => IsB B b (Lib.byteCells (l ++ y.data.toList)) w' ∧ Below B w w' := by
  refine Does_of (args := [.pointer (some ⟨b, 0, none⟩), .string y]) Tryd.func25 (by kernel_rfl) rfl rfl rfl rfl rfl ?_
  (refine Ga ?_)
  (apply Lst_call; (focus rfl); (focus rfl))
  refine (c_cc B b _ w h).mono ?_
  rintro v w1 ⟨rfl, ⟨hB, sv, hb, hown, hne⟩, hb1⟩
  have hblk := blk_of hb
  have hs1 := hb1.size
  (refine Ga ?_)
  apply Lst_appendS (hown := hown)
  focus rfl
  focus rfl
  focus rfl
  focus rfl
  focus rfl
  focus rfl
  focus rfl
  focus rfl
  focus (rw [cells_len]; exact hlen)
  focus omega
  focus rfl
  intro v' w2 ho' hg
  rw [cells_str, cells_add] at ho'
  have hblk2 := hblk.grown hg (fun k hk e => hne (by rw [hk, e]))
  obtain ⟨v1, v2, v3, rfl⟩ := own_slice ho'
  (refine Ga ?_)
  (apply retQ2; (focus rfl); (focus rfl))
  refine ⟨.inr ?_, ?_⟩
  · exact put_buf hB hblk2 (by
      have e : (Lib.byteCells l).length + y.size = (Lib.byteCells (l ++ y.data.toList)).length := by
        rw [cells_len, cells_len, List.length_append]
        rfl
      rw [e] at ho'
      exact ho')
  · exact Sx.Below.put (Sx.Below.own hb1 hown hg (Nat.le_refl _) (by omega)) hB _
theorem c_apprune (B : Nat) (sv : Value) (l : List UInt8) (w : World) (hown : w.ownsRow B 5 1 sv l.length (Lib.byteCells l)) (hlen : l.length ≤ 100000000000) (hBw : B ≤ w.heap.size) : Does Tryd.prog 56 #[sv, .int .i32 65532] w fun v w' => w'.ownsRow B 5 1 v (l ++ [239, 191, 188]).length (Lib.byteCells (l ++ [239, 191, 188])) ∧ Below B w w' ∧ ∀ k, k < w.heap.size → some k ≠ sv.ownBlock → w'.heap[k]? = w.heap[k]? := by
  refine Does_of (args := [sv, .int .i32 65532]) Tryd.func56 (by kernel_rfl) rfl rfl rfl rfl rfl ?_
  obtain ⟨s1, s2, s3, rfl⟩ := own_slice hown
  have h1 := w1
  have h2 := w2
  have h3 := w3
  have h4 := w4
  have h5 := w5
  have h6 := w6
  have h7 := w7
  have h8 := w8
  have h9 := w9
  (refine Ga ?_)
  apply Lst_pu
  · apply P_shr (r := 15)
    focus rfl
    focus rfl
    focus decide
    focus rfl
  focus rfl
  (refine Ga ?_)
  (apply Lst_slit; (focus rfl); (focus rfl); (focus rfl); (focus rfl); (focus rfl); (focus rfl); (focus rfl); (focus rfl); (focus rfl); (focus (repeat (first | apply FillO.nil | (apply FillO.cons; (focus constructor); (focus rfl); (focus rfl); (focus (repeat constructor)))))); (focus ((try simp only [Sx.sizes]); first | done | rfl)); (focus rfl))
  refine Lst_abs (fun O => Below w.heap.size w O ∧ Blk O w.heap.size (Lib.byteCells [239, 191, 188]) 5) ⟨Bel, (by (repeat (first | assumption | (apply Blk.below (hb := hb1); rotate_left; (focus ((try simp only [Sx.sizes]); omega)); rotate_right) | (apply Blk.below (hb := hb2); rotate_left; (focus ((try simp only [Sx.sizes]); omega)); rotate_right) | (apply Blk.below (hb := hb3); rotate_left; (focus ((try simp only [Sx.sizes]); omega)); rotate_right) | (apply Blk.below (hb := hb4); rotate_left; (focus ((try simp only [Sx.sizes]); omega)); rotate_right) | (apply Blk.below (hb := hb5); rotate_left; (focus ((try simp only [Sx.sizes]); omega)); rotate_right) | (apply Blk.below (hb := hb6); rotate_left; (focus ((try simp only [Sx.sizes]); omega)); rotate_right) | (apply Blk.below (hb := hb7); rotate_left; (focus ((try simp only [Sx.sizes]); omega)); rotate_right) | (apply Blk.below (hb := hb8); rotate_left; (focus ((try simp only [Sx.sizes]); omega)); rotate_right) | (apply Blk.below (hb := hb9); rotate_left; (focus ((try simp only [Sx.sizes]); omega)); rotate_right) | exact Blk.newE (by first | rfl | ((try simp only [Sx.sizes]); first | done | omega)) _ _ | exact Blk.put_same (by (try simp only [Sx.sizes]); first | done | omega) _ _ | (apply Blk.put_ne; (focus omega)) | apply Blk.alloc | apply Blk.drew)); done)⟩ ?_
  rintro O ⟨hO, kO⟩
  have hoO := own_below hown hO (Nat.le_refl _)
  apply Lst_append (hown := hoO) (news := Lib.byteCells [239, 191, 188]) (bytes := 1)
  focus rfl
  focus rfl
  focus rfl
  focus rfl
  focus rfl
  focus rfl
  focus rfl
  focus rfl
  focus rfl
  focus exact fun j v hv => by rw [kO.cell, Nat.zero_add]; exact hv
  focus rfl
  focus (intro u hu; simp only [Lib.byteCells, List.mem_map] at hu; obtain ⟨_, _, rfl⟩ := hu; rfl)
  focus omega
  focus omega
  focus exact Nat.le_trans hBw hO.size
  focus rfl
  intro v' w2 ho' hg _
  obtain ⟨v1, v2, v3, rfl⟩ := own_slice ho'
  rw [cells_add] at ho'
  (refine Ga ?_)
  (apply retQ1; (focus rfl))
  refine ⟨?_, (hO.mono hBw).trans (Sx.Below.own (Below.refl _ _) hoO hg (Nat.le_refl _) (Nat.le_trans hBw hO.size)), ?_⟩
  · rw [List.length_append]
    exact ho'
  · exact fun k hk hn => (hg.block k (Nat.lt_of_lt_of_le hk hO.size) hn).trans (hO.block k hk)
theorem c_appr (B : Nat) (sv : Value) (l : List UInt8) (w : World) (hown : w.ownsRow B 5 1 sv l.length (Lib.byteCells l)) (hlen : l.length ≤ 100000000000) (hBw : B ≤ w.heap.size) : Does Tryd.prog 42 #[sv, .int .i32 65532] w fun v w' => w'.ownsRow B 5 1 v (l ++ [239, 191, 188]).length (Lib.byteCells (l ++ [239, 191, 188])) ∧ Below B w w' ∧ ∀ k, k < w.heap.size → some k ≠ sv.ownBlock → w'.heap[k]? = w.heap[k]? := by
  refine Does_of (args := [sv, .int .i32 65532]) Tryd.func42 (by kernel_rfl) rfl rfl rfl rfl rfl ?_
  have h1 := w1
  obtain ⟨s1, s2, s3, rfl⟩ := own_slice hown
  (refine Ga ?_)
  (apply Lst_call; (focus rfl); (focus rfl))
  refine (c_apprune B _ l w hown hlen hBw).mono ?_
  rintro v w2 ⟨ho, hb, hg⟩
  obtain ⟨v1, v2, v3, rfl⟩ := own_slice ho
  (refine Ga ?_)
  (apply retQ1; (focus rfl))
  exact ⟨ho, hb, hg⟩
theorem c_wr (B b : Nat) (l : List UInt8) (w : World) (h : IsB B b (Lib.byteCells l) w) (hlen : l.length ≤ 100000000000) (hBw : B ≤ w.heap.size) : Does Tryd.prog 24 #[.pointer (some ⟨b, 0, none⟩), .int .i32 65532] w fun _ w' => IsB B b (Lib.byteCells (l ++ [239, 191, 188])) w' ∧ Below B w w' := by
  refine Does_of (args := [.pointer (some ⟨b, 0, none⟩), .int .i32 65532]) Tryd.func24 (by kernel_rfl) rfl rfl rfl rfl rfl ?_
  (refine Ga ?_)
  (apply Lst_call; (focus rfl); (focus rfl))
  refine (c_cc B b _ w h).mono ?_
  rintro v w1 ⟨rfl, ⟨hB, sv, hb, hown, hne⟩, hb1⟩
  have hblk := blk_of hb
  have hs1 := hb1.size
  rw [cells_len] at hown
  have hll : l.length ≤ 100000000000 := hlen
  obtain ⟨s1, s2, s3, rfl⟩ := own_slice hown
  (refine Ga ?_)
  (apply Lst_call; (focus rfl); (focus rfl))
  refine (c_appr B _ l w1 hown hlen (Nat.le_trans hBw hs1)).mono ?_
  rintro v w2 ⟨ho, hb2, hg⟩
  have hblk2 : Blk w2 b [.pointer (some ⟨b, 0, none⟩), .slice s1 s2 s3] 57 := blk_keep hblk (hg b hblk.lt (fun e => hne e.symm))
  obtain ⟨v1, v2, v3, rfl⟩ := own_slice ho
  (refine Ga ?_)
  refine Lst_abs (fun Y => Blk Y b [.pointer (some ⟨b, 0, none⟩), .slice v1 v2 v3] 57 ∧ IsB B b (Lib.byteCells (l ++ [239, 191, 188])) Y ∧ Below B w Y) ⟨Blk.put_same hblk2.lt _ _, .inr (put_buf hB hblk2 (by rw [cells_len]; exact ho)), Sx.Below.put (hb1.trans hb2) hB _⟩ ?_
  rintro Y ⟨kY, hI, bY⟩
  have hn := ho.1
  rw [List.length_append] at ho
  (refine Ga ?_)
  (apply retQ2; (focus rfl); (focus rfl))
  exact ⟨hI, bY⟩
theorem c_Plain (P : List Rv) (A : Nat) (a b : Option Addr) (c m d : Nat) (w : World) (h : RunS A w (.slice a P.length c) P) (hn : P.length ≤ 1000000) (hl : (plainP (P.map Prod.fst)).length ≤ 1000000) : Does Tryd.prog 10 #[.agg #[.slice a P.length c, .slice b m d]] w fun v w' => v = .string (bs (plainP (P.map Prod.fst))) ∧ Below w.heap.size w w' := by
  refine Does_of (args := [.agg #[.slice a P.length c, .slice b m d]]) Tryd.func10 (by kernel_rfl) rfl rfl rfl rfl rfl ?_
  (refine Ga ?_)
  refine W_abs (fun E => Below w.heap.size w E ∧ Blk E w.heap.size [.slice a P.length c, .slice b m d] 25 ∧ IsB (w.heap.size + 1) (w.heap.size + 1) (Lib.byteCells []) E) ⟨Bel, (by (repeat (first | assumption | (apply Blk.below (hb := hb1); rotate_left; (focus ((try simp only [Sx.sizes]); omega)); rotate_right) | (apply Blk.below (hb := hb2); rotate_left; (focus ((try simp only [Sx.sizes]); omega)); rotate_right) | (apply Blk.below (hb := hb3); rotate_left; (focus ((try simp only [Sx.sizes]); omega)); rotate_right) | (apply Blk.below (hb := hb4); rotate_left; (focus ((try simp only [Sx.sizes]); omega)); rotate_right) | (apply Blk.below (hb := hb5); rotate_left; (focus ((try simp only [Sx.sizes]); omega)); rotate_right) | (apply Blk.below (hb := hb6); rotate_left; (focus ((try simp only [Sx.sizes]); omega)); rotate_right) | (apply Blk.below (hb := hb7); rotate_left; (focus ((try simp only [Sx.sizes]); omega)); rotate_right) | (apply Blk.below (hb := hb8); rotate_left; (focus ((try simp only [Sx.sizes]); omega)); rotate_right) | (apply Blk.below (hb := hb9); rotate_left; (focus ((try simp only [Sx.sizes]); omega)); rotate_right) | exact Blk.newE (by first | rfl | ((try simp only [Sx.sizes]); first | done | omega)) _ _ | exact Blk.put_same (by (try simp only [Sx.sizes]); first | done | omega) _ _ | (apply Blk.put_ne; (focus omega)) | apply Blk.alloc | apply Blk.drew)); done), ?_⟩ ?_
  · have := new_builder (w := w.alloc (.cells #[.slice a P.length c, .slice b m d] 25))
    rw [World.size_alloc] at this
    exact this
  rintro W0 ⟨bW0, k0, hI0⟩
  obtain ⟨b1, hb1⟩ : ∃ n, w.heap.size + 1 = n := ⟨_, rfl⟩
  obtain ⟨b0, hb0⟩ : ∃ n, w.heap.size = n := ⟨_, rfl⟩
  have hle : b0 ≤ b1 := by omega
  rw [hb1] at hI0 ⊢
  rw [hb0] at k0 ⊢
  have hR : ∀ Y, Below b0 w Y → RunS A Y (.slice a P.length c) P := by
    rw [← hb0]
    exact fun Y hY => h.below hY
  refine W_loop (α := Nat) (fun i => [(3, .pointer (some ⟨b1, 0, none⟩)), (7, .slice a P.length c), (8, .int .i64 (P.length : Int)), (9, .int .i64 (i : Int))])
    (fun i X => i ≤ P.length ∧ IsB b1 b1 (Lib.byteCells (plainP ((P.map Prod.fst).take i))) X ∧ b1 ≤ X.heap.size ∧ Below b0 w X) (fun i _ => P.length - i) 0 ⟨Nat.zero_le _, hI0, ?_, by rw [← hb0]; exact bW0⟩ ⟨rfl, rfl, rfl, rfl, trivial⟩ ?_
  · rcases hI0 with ⟨_, _, hk, _⟩ | ⟨_, _, hk, _⟩
    · exact Nat.le_of_lt (Array.getElem?_eq_some_iff.1 hk).1
    · exact Nat.le_of_lt (Array.getElem?_eq_some_iff.1 hk).1
  clear hI0 k0 bW0 h
  rintro J i X ⟨hi, hI, hsX, bX⟩
  have hX := hR X bX
  by_cases hil : i < P.length
  · obtain ⟨g, off, rfl, _, hc⟩ := hX.at hil
    have hmk := hX.mks _ (List.getElem_mem hil)
    have htk := plain_take (L := P.map Prod.fst) (i := i) (by rw [List.length_map]; exact hil)
    have hle1 := plain_le (P.map Prod.fst) (i + 1)
    rw [List.getElem_map] at htk
    generalize P[i] = p at hc hmk htk
    obtain ⟨⟨tx, em, v, ms⟩, mv⟩ := p
    obtain ⟨ma, mc, hme⟩ := hmk.form
    dsimp only at hme htk
    subst hme
    rw [htk, List.length_append] at hle1
    have hlp := plain_le (P.map Prod.fst) i
    (refine Ga ?_)
    apply Lst_pu
    · apply P_idxm (j := i) (sz := 7)
      focus rfl
      focus rfl
      focus rfl
      focus rfl
      focus rfl
      focus omega
    focus rfl
    (refine Ga ?_)
    apply Lst_loadS' (cs := pcs (⟨tx, em, v, ms⟩, .slice ma ms.length mc))
    focus rfl
    focus rfl
    focus rfl
    focus rfl
    focus rfl
    focus exact hc
    focus rfl
    unfold pcs rcs
    dsimp only
    (refine Ga ?_)
    refine W_abs (fun E => Below X.heap.size X E ∧ Blk E X.heap.size (pcs (⟨tx, em, v, ms⟩, .slice ma ms.length mc)) 40) ⟨Bel, by unfold pcs rcs; dsimp only; exact (by (repeat (first | assumption | (apply Blk.below (hb := hb1); rotate_left; (focus ((try simp only [Sx.sizes]); omega)); rotate_right) | (apply Blk.below (hb := hb2); rotate_left; (focus ((try simp only [Sx.sizes]); omega)); rotate_right) | (apply Blk.below (hb := hb3); rotate_left; (focus ((try simp only [Sx.sizes]); omega)); rotate_right) | (apply Blk.below (hb := hb4); rotate_left; (focus ((try simp only [Sx.sizes]); omega)); rotate_right) | (apply Blk.below (hb := hb5); rotate_left; (focus ((try simp only [Sx.sizes]); omega)); rotate_right) | (apply Blk.below (hb := hb6); rotate_left; (focus ((try simp only [Sx.sizes]); omega)); rotate_right) | (apply Blk.below (hb := hb7); rotate_left; (focus ((try simp only [Sx.sizes]); omega)); rotate_right) | (apply Blk.below (hb := hb8); rotate_left; (focus ((try simp only [Sx.sizes]); omega)); rotate_right) | (apply Blk.below (hb := hb9); rotate_left; (focus ((try simp only [Sx.sizes]); omega)); rotate_right) | exact Blk.newE (by first | rfl | ((try simp only [Sx.sizes]); first | done | omega)) _ _ | exact Blk.put_same (by (try simp only [Sx.sizes]); first | done | omega) _ _ | (apply Blk.put_ne; (focus omega)) | apply Blk.alloc | apply Blk.drew)); done)⟩ ?_
    rintro E ⟨hE, kE⟩
    unfold pcs rcs at kE
    dsimp only at kE
    have hIE := IsB.keep hI hE
    have bE := bX.trans (hE.mono (Nat.le_trans hle hsX))
    have hsE := Nat.le_trans hsX hE.size
    cases em with
    | true =>
      (refine Ga ?_)
      (apply Lst_call; (focus rfl); (focus rfl))
      refine (c_wr b1 b1 _ E hIE (by omega) hsE).mono ?_
      rintro u U ⟨hIU, hU⟩
      (refine Ga ?_)
      refine rndQ_n (α := Nat) (i + 1) ⟨hil, by rw [htk]; exact hIU, Nat.le_trans hsE hU.size, bE.trans (hU.mono hle)⟩ ⟨rfl, rfl, rfl, ?_, trivial⟩ (by omega)
      exact congrArg (Value.int .i64) (by omega)
    | false =>
      have hpt : (plainR ⟨tx, false, v, ms⟩).length = tx.size := rfl
      (refine Ga ?_)
      (apply Lst_call; (focus rfl); (focus rfl))
      refine (c_ws b1 b1 _ tx E hIE (by omega) hsE).mono ?_
      rintro u U ⟨hIU, hU⟩
      (refine Ga ?_)
      refine rndQ_n (α := Nat) (i + 1) ⟨hil, by rw [htk]; exact hIU, Nat.le_trans hsE hU.size, bE.trans (hU.mono hle)⟩ ⟨rfl, rfl, rfl, ?_, trivial⟩ (by omega)
      exact congrArg (Value.int .i64) (by omega)
  · obtain rfl : i = P.length := by omega
    rw [List.take_of_length_le (by rw [List.length_map]; exact Nat.le_refl _)] at hI
    (refine Ga ?_)
    (apply Lst_call; (focus rfl); (focus rfl))
    refine (c_bstr b1 b1 _ X hI hsX).mono ?_
    rintro v U ⟨rfl, hU⟩
    (refine Ga ?_)
    (apply retQ1; (focus rfl))
    exact ⟨rfl, bX.trans (hU.mono hle)⟩
end
end Vw
end Go.Proofs.YtglfoofclicfpaaDoor
