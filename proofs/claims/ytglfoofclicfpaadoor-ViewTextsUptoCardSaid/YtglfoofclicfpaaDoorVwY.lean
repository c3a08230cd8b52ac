/- The reference's text of a view; the law ViewTexts. -/
import Derived.Test.YtglfoofclicfpaaDoorVwW
import Derived.Test.YtglfoofclicfpaaDoorSxV
import Derived.Test.YtglfoofclicfpaaDoorVwRef
import Derived.Lib.ItoaLen
namespace Go.Proofs.YtglfoofclicfpaaDoor
set_option maxRecDepth 100000
namespace Vw
open Go Go.RowKit Sx Tl Fl Val Mk
open Utf (rs tl Tabs cutS)
theorem P_saddB {P : Program} {F : Fr} {t t' ty : TypeId} {x y : Operand} {p q : List UInt8} (hx : ev F x = .string (bs p)) (hy : ev F y = .string (bs q)) (h : p.length + q.length ≤ 9223372036854775807) : Pu P F (.binOp .add t x y t') ty (.string (bs (p ++ q))) := by
  rw [← bs_add]
  exact P_sadd hx hy (by rw [bs_size, bs_size]; exact h)
theorem vl_ne {x : Vl} : (#[.int .i64 x.k, .int .i64 x.n, .float .f64 x.f, .string x.s] : Array Value) = (vcs x).toArray := rfl
theorem mark_end (o : List UInt8) (q : Mk) : (((o ++ [32]) ++ Hex.quote q.1.data.toList) ++ [61]) ++ textV q.2 = o ++ (markP q).flatten := by simp [markP]
theorem marks_take {l : List Mk} {j : Nat} (h : j < l.length) : ((l.take (j + 1)).flatMap markP).flatten = ((l.take j).flatMap markP).flatten ++ (markP l[j]).flatten := by
  rw [List.take_succ_eq_append_getElem h, List.flatMap_append, List.flatten_append]
  simp
theorem marks_le (l : List Mk) (j : Nat) : ((l.take j).flatMap markP).flatten.length ≤ (l.flatMap markP).flatten.length := by
  have e : (l.flatMap markP).flatten = ((l.take j).flatMap markP).flatten ++ ((l.drop j).flatMap markP).flatten := by rw [← List.flatten_append, ← List.flatMap_append, List.take_append_drop]
  rw [e, List.length_append]
  omega
theorem quote_len (l : List UInt8) : (Hex.quote l).length ≤ 2 * l.length + 2 := by
  unfold Hex.quote
  have := Hex.qbs_length l
  rw [List.length_cons, List.length_append, List.length_singleton]
  omega
theorem text_len {x : Vl} (hx : x.Fit) : (textV x).length ≤ 2 * x.s.size + 40 := by
  have h1 := quote_len x.s.data.toList
  have h2 : x.s.data.toList.length = x.s.size := rfl
  have h3 := Lib.itoa_length_le x.n hx.n0 (by have := hx.n1; omega)
  have h4 : (Hex.hexN 16 (nbits x.f)).length = 16 := Hex.hexN_length _ _
  unfold textV
  split
  · simp only [List.length_cons, List.length_nil]; omega
  split
  · split <;> simp only [List.length_cons, List.length_nil] <;> omega
  split
  · omega
  split
  · rw [List.length_cons, h4]; omega
  split
  · omega
  split <;> simp only [List.length_cons, List.length_nil] <;> omega
namespace Ef
/-- How many, as the law counts. -/
def cnt : Ef → Nat
  | nil => 0
  | cons key v k r => 1 + key.size / 50 + v.s.size / 50 + k.cnt + r.cnt
/-- All values are right. -/
def Ok : Ef → Prop
  | nil => True
  | cons _ v k r => okV v = true ∧ k.Ok ∧ r.Ok
/-- What any argument is. -/
def Raw : Ef → Prop
  | nil => True
  | cons key v k r => key.size ≤ 2000000 ∧ v.Fit ∧ v.s.size ≤ 2000000 ∧ k.len ≤ 2000000 ∧ k.Raw ∧ r.Raw
theorem sz_cnt : ∀ f : Ef, f.sz ≤ f.cnt
  | nil => Nat.le_refl _
  | cons key v k r => by
    have h1 := sz_cnt k
    have h2 := sz_cnt r
    unfold sz cnt
    omega
theorem len_sz : ∀ f : Ef, f.len ≤ f.sz
  | nil => Nat.le_refl _
  | cons key v k r => by
    have h2 := len_sz r
    unfold len sz
    omega
theorem fit : ∀ {f : Ef}, f.Raw → f.cnt ≤ 300 → f.Fit
  | nil, _, _ => trivial
  | cons key v k r, ⟨_, h2, _, _, h4, h5⟩, hc => by
    unfold cnt at hc
    refine ⟨?_, h2, ?_, fit h4 (by omega), fit h5 (by omega)⟩
    · omega
    · omega
theorem lines_le : ∀ (f : Ef) (a : List UInt8), f.Raw → (linesE a f).flatten.length ≤ f.sz * (a.length + 2 * f.sz + 300) + 100 * f.cnt
  | nil, a, _ => by
    unfold linesE
    exact Nat.zero_le _
  | cons key v k r, a, ⟨_, h2, _, _, h4, h5⟩ => by
    have h6 := lines_le k (a ++ [32, 32]) h4
    have h7 := lines_le r a h5
    have h8 := quote_len key.data.toList
    have h9 := text_len h2
    have hk : key.data.toList.length = key.size := rfl
    rw [List.length_append, List.length_cons, List.length_cons, List.length_nil] at h6
    have hl : (lineE a key.data.toList v).length = a.length + (2 + ((Hex.quote key.data.toList).length + (1 + ((textV v).length + 0)))) + 1 := by
      unfold lineE
      simp only [List.flatten_cons, List.flatten_nil, List.length_append, List.length_cons, List.length_nil]
    have e : (linesE a (cons key v k r)).flatten.length = (lineE a key.data.toList v).length + ((linesE (a ++ [32, 32]) k).flatten.length + (linesE a r).flatten.length) := by
      rw [linesE, List.flatten_cons, List.length_append, List.flatten_append, List.length_append]
    rw [e, hl]
    unfold sz cnt
    have g1 : k.sz * (a.length + (0 + 1 + 1) + 2 * k.sz + 300) ≤ k.sz * (a.length + 2 * (k.sz + r.sz + 1) + 300) := Nat.mul_le_mul_left _ (by omega)
    have g2 : r.sz * (a.length + 2 * r.sz + 300) ≤ r.sz * (a.length + 2 * (k.sz + r.sz + 1) + 300) := Nat.mul_le_mul_left _ (by omega)
    have g3 : (k.sz + r.sz + 1) * (a.length + 2 * (k.sz + r.sz + 1) + 300) = k.sz * (a.length + 2 * (k.sz + r.sz + 1) + 300) + r.sz * (a.length + 2 * (k.sz + r.sz + 1) + 300) + (a.length + 2 * (k.sz + r.sz + 1) + 300) := by
      rw [Nat.add_mul, Nat.add_mul, Nat.one_mul]
    generalize k.sz * (a.length + (0 + 1 + 1) + 2 * k.sz + 300) = m1 at *
    generalize r.sz * (a.length + 2 * r.sz + 300) = m2 at *
    generalize k.sz * (a.length + 2 * (k.sz + r.sz + 1) + 300) = m3 at *
    generalize r.sz * (a.length + 2 * (k.sz + r.sz + 1) + 300) = m4 at *
    generalize (k.sz + r.sz + 1) * (a.length + 2 * (k.sz + r.sz + 1) + 300) = m5 at *
    omega
end Ef
theorem line_end (o a k t : List UInt8) (s : List UInt8) : ((((((o ++ a) ++ [109, 32]) ++ k) ++ [61]) ++ t) ++ [10]) ++ s = o ++ (([a, [109, 32], k, [61], t] : List (List UInt8)).flatten ++ [10] ++ s) := by simp
theorem flat_ge : ∀ (a : List UInt8) (f : Ef), (linesE a f).length ≤ (linesE a f).flatten.length
  | a, .nil => Nat.le_refl _
  | a, .cons key v k r => by
    have h1 := flat_ge (a ++ [32, 32]) k
    have h2 := flat_ge a r
    rw [linesE, List.length_cons, List.length_append, List.flatten_cons, List.length_append, List.flatten_append, List.length_append]
    have h3 : 1 ≤ (lineE a key.data.toList v).length := by
      unfold lineE
      rw [List.length_append, List.length_singleton]
      omega
    omega
/-- Bounds within which the reference tells a run. -/
structure FitL (r : Rn) : Prop where
  fit : FitT r
  ok : okV r.v = true
  ms : ∀ q ∈ r.ms, okV q.2 = true
theorem fitL_ms {r : Rn} (h : FitL r) : ∀ q ∈ r.ms, okV q.2 = true ∧ q.1.size < 1000000 ∧ q.2.Fit ∧ q.2.s.size < 1000000 := fun q hq => ⟨h.ms q hq, h.fit.ms q hq⟩
def linesP (L : List Rn) : List UInt8 := (L.map lineR).flatten
theorem linesP_take {L : List Rn} {i : Nat} (h : i < L.length) : linesP (L.take (i + 1)) = linesP (L.take i) ++ lineR L[i] := by
  unfold linesP
  rw [List.take_succ_eq_append_getElem h, List.map_append, List.flatten_append]
  simp
theorem linesP_le (L : List Rn) (i : Nat) : (linesP (L.take i)).length ≤ (linesP L).length := by
  have e : linesP L = linesP (L.take i) ++ linesP (L.drop i) := by unfold linesP; rw [← List.flatten_append, ← List.map_append, List.take_append_drop]
  rw [e, List.length_append]
  omega
theorem lineR_emb (tx : ByteArray) (v : Vl) (ms : List Mk) : lineR ⟨tx, true, v, ms⟩ = [101, 32] ++ textV v ++ (ms.flatMap markP).flatten ++ [10] := by
  unfold lineR headP
  simp
theorem lineR_txt (tx : ByteArray) (v : Vl) (ms : List Mk) : lineR ⟨tx, false, v, ms⟩ = [116, 32] ++ Hex.quote tx.data.toList ++ (ms.flatMap markP).flatten ++ [10] := by
  unfold lineR headP
  simp
theorem wtMs_mem : ∀ {l : List Mk} {q : Mk}, q ∈ l → wtM q ≤ wtMs l
  | [], _, h => absurd h List.not_mem_nil
  | x :: l, q, h => by
    unfold wtMs
    rw [List.map_cons, List.sum_cons]
    rcases List.mem_cons.1 h with rfl | h
    · omega
    · have := wtMs_mem h
      unfold wtMs at this
      omega
theorem wts_cons' (r : Rn) (L : List Rn) : wts (r :: L) = wtR r + wts L := by unfold wts; rw [List.map_cons, List.sum_cons]
theorem wts_mem' : ∀ {L : List Rn} {r : Rn}, r ∈ L → wtR r ≤ wts L
  | [], _, h => absurd h List.not_mem_nil
  | x :: L, r, h => by
    rw [wts_cons']
    rcases List.mem_cons.1 h with rfl | h
    · omega
    · have := wts_mem' h
      omega
theorem light_fit {L : List Rn} (h : Light L) : ∀ r ∈ L, FitL r := fun r hr => by
  have h1 := wts_mem' hr
  have h2 := h.wt
  have h3 := h.ok r hr
  unfold wtR at h1
  refine ⟨⟨h3.fit, by omega, by omega, fun q hq => ?_, by omega⟩, h3.ok, fun q hq => (h3.ms q hq).1⟩
  have h4 := wtMs_mem hq
  unfold wtM at h4
  exact ⟨by omega, (h3.ms q hq).2, by omega⟩
theorem marks_flat : ∀ {l : List Mk}, (∀ q ∈ l, q.2.Fit) → (l.flatMap markP).flatten.length ≤ 50 * l.length + 2 * wtMs l
  | [], _ => Nat.zero_le _
  | q :: l, h => by
    have h1 := marks_flat fun x hx => h x (List.mem_cons_of_mem _ hx)
    have h2 := quote_len q.1.data.toList
    have h3 := text_len (h q List.mem_cons_self)
    have h4 : q.1.data.toList.length = q.1.size := rfl
    have h5 : (markP q).flatten.length = 1 + ((Hex.quote q.1.data.toList).length + (1 + ((textV q.2).length + 0))) := by
      unfold markP
      simp only [List.flatten_cons, List.flatten_nil, List.length_append, List.length_cons, List.length_nil]
    rw [List.flatMap_cons, List.flatten_append, List.length_append, h5, List.length_cons]
    unfold wtMs at h1 ⊢
    rw [List.map_cons, List.sum_cons]
    unfold wtM at *
    omega
theorem lineR_le {r : Rn} (h : FitL r) : (lineR r).length ≤ 60 * wtR r := by
  have h1 := marks_flat fun q hq => (h.fit.ms q hq).2.1
  have h2 := quote_len r.tx.data.toList
  have h3 := text_len h.fit.v
  have h4 : r.tx.data.toList.length = r.tx.size := rfl
  have h5 : (headP r).flatten.length ≤ 2 * r.tx.size + 2 * r.v.s.size + 50 := by
    unfold headP
    split
    · simp only [List.flatten_cons, List.flatten_nil, List.length_append, List.length_cons, List.length_nil]
      omega
    · simp only [List.flatten_cons, List.flatten_nil, List.length_append, List.length_cons, List.length_nil]
      omega
  unfold lineR wtR
  rw [List.flatten_append, List.length_append, List.length_append, List.length_singleton]
  omega
theorem linesP_wt : ∀ {L : List Rn}, (∀ r ∈ L, FitL r) → (linesP L).length ≤ 60 * wts L
  | [], _ => Nat.zero_le _
  | r :: L, h => by
    have h1 := linesP_wt fun x hx => h x (List.mem_cons_of_mem _ hx)
    have h2 := lineR_le (h r List.mem_cons_self)
    unfold linesP at h1 ⊢
    rw [List.map_cons, List.flatten_cons, List.length_append, wts_cons']
    omega
theorem plain_wt : ∀ L : List Rn, (plainP L).length ≤ 3 * wts L
  | [] => Nat.zero_le _
  | r :: L => by
    have h1 := plain_wt L
    have h2 : (plainR r).length ≤ 3 * wtR r := by
      have h4 : r.tx.data.toList.length = r.tx.size := rfl
      unfold plainR wtR
      split
      · simp only [List.length_cons, List.length_nil]
        omega
      · omega
    unfold plainP at h1 ⊢
    rw [List.flatMap_cons, List.length_append, wts_cons']
    omega
theorem view_len {L : List Rn} {f : Ef} (hL : Light L) (hr : f.Raw) (hc : f.cnt ≤ 300) : (linesV L f).flatten.length ≤ 1000000 := by
  have h1 := linesP_wt (light_fit hL)
  have h2 := hL.wt
  have h3 := Ef.lines_le f [] hr
  have h4 := Ef.sz_cnt f
  have h5 : f.sz * (([] : List UInt8).length + 2 * f.sz + 300) ≤ 300 * 900 := Nat.mul_le_mul (by omega) (by rw [List.length_nil]; omega)
  unfold linesP at h1
  unfold linesV
  rw [List.flatten_append, List.length_append]
  omega
theorem lines_cnt : ∀ (f : Ef) (a : List UInt8), (linesE a f).length ≤ f.sz
  | .nil, _ => Nat.le_refl _
  | .cons key v k r, a => by
    have h1 := lines_cnt k (a ++ [32, 32])
    have h2 := lines_cnt r a
    rw [linesE, List.length_cons, List.length_append]
    unfold Ef.sz
    omega
theorem tot_wt (P : List Rv) : tot P ≤ wts (P.map Prod.fst) := by
  induction P with
  | nil => exact Nat.le_refl _
  | cons p P ih =>
    rw [List.map_cons, wts_cons']
    unfold tot at ih ⊢
    rw [List.map_cons, List.sum_cons]
    unfold wtR
    omega
theorem lenP_wt (P : List Rv) : lenP P ≤ wts (P.map Prod.fst) := by
  induction P with
  | nil => exact Nat.le_refl _
  | cons p P ih =>
    rw [List.map_cons, wts_cons', lenP_cons]
    have h1 : lenR p.1 ≤ 1 + p.1.tx.size := by
      unfold lenR
      split
      · omega
      · have := Utf.rs_length (tl p.1.tx)
        have e : (tl p.1.tx).length = p.1.tx.size := rfl
        omega
    unfold wtR
    omega
section
attribute [local irreducible] RnS RnT
attribute [local irreducible] W Lst Qst Pu seqQ blkQ rndQ cutQ retQ Does Enters IntKind.wrap bits sb World.alloc World.putObj Blk
set_option maxHeartbeats 8000000 in
theorem r_marks (ms : List Mk) (A : Nat) (a : Option Addr) (c : Nat) (w : World) (h : MkO A w (.slice a ms.length c) ms) (hok : ∀ q ∈ ms, okV q.2 = true ∧ q.1.size < 1000000 ∧ q.2.Fit ∧ q.2.s.size < 1000000) (hl : ms.length ≤ 1000000) (hflat : (ms.flatMap markP).flatten.length ≤ 1000000) :
    Does Tryd.prog 20 #[.slice a ms.length c] w fun v w' => v = .string (bs (ms.flatMap markP).flatten) ∧ Below w.heap.size w w' := by
  refine Does_of (args := [.slice a ms.length c]) Tryd.func20 (by kernel_rfl) rfl rfl rfl rfl rfl ?_
  (refine Ga ?_)
  refine W_loop (α := Nat) (fun j => [(0, .slice a ms.length c), (3, .string (bs ((ms.take j).flatMap markP).flatten)), (4, .int .i64 (j : Int))]) (fun j Z => j ≤ ms.length ∧ Below w.heap.size w Z) (fun j _ => ms.length - j) 0 ⟨Nat.zero_le _, Below.refl _ _⟩ ⟨rfl, rfl, rfl, trivial⟩ ?_
  rintro J j Z ⟨hj, bZ⟩
  by_cases hjl : j < ms.length
  · obtain ⟨g, off, rfl, _, hc⟩ := (h.below bZ).at hjl
    have hm1 := marks_take hjl
    have hm2 := marks_le ms (j + 1)
    obtain ⟨hq0, hq1, hq2, hq3⟩ := hok _ (List.getElem_mem hjl)
    generalize ms[j] = q at hc hm1 hq0 hq1 hq2 hq3
    have hc0 : Z.cell? ⟨g, off + j * 5 + 0, none⟩ = some (.string q.1) := hc 0 _ rfl
    have hc1v : ∀ i u, (vcs q.2)[i]? = some u → Z.cell? ⟨g, off + j * 5 + 1 + i, none⟩ = some u := fun i u hu => by
      rw [Nat.add_assoc]
      exact hc (1 + i) u (by rw [Nat.add_comm]; exact hu)
    have hme := mark_end (((ms.take j).flatMap markP).flatten) q
    rw [hm1, ← hme] at hm2
    simp only [List.length_append, List.length_cons, List.length_nil] at hm2
    rw [← hme] at hm1
    clear hme
    generalize ((ms.take j).flatMap markP).flatten = o at *
    (refine Ga ?_)
    refine W_drawT 18 (fun Y => Below Z.heap.size Z Y) rfl rfl ?_
    have hS : Below Z.heap.size Z Z.drew := Below.drew (Below.refl _ _)
    generalize Z.drew = Z1 at *
    refine T_takeV 0 1 17 rfl (by kernel_rfl) (by repeat (first | exact retQ_p | apply seqQ_p | apply blkQ_p | apply rndQ_p | apply cutQ_p)) hS ?_
    (refine Qb ?_)
    refine T_takeV 1 8 16 rfl (by kernel_rfl) (by repeat (first | exact retQ_p | apply seqQ_p | apply blkQ_p | apply rndQ_p | apply cutQ_p)) hS ?_
    apply Qst_pu
    · apply P_saddB (p := o) (q := [32])
      focus rfl
      focus rfl
      focus (simp only [List.length_cons, List.length_nil]; omega)
    focus rfl
    (refine Qb ?_)
    refine T_takeV 2 4 15 rfl (by kernel_rfl) (by repeat (first | exact retQ_p | apply seqQ_p | apply blkQ_p | apply rndQ_p | apply cutQ_p)) hS ?_
    (refine Qb ?_)
    refine T_takeV 3 4 14 rfl (by kernel_rfl) (by repeat (first | exact retQ_p | apply seqQ_p | apply blkQ_p | apply rndQ_p | apply cutQ_p)) hS ?_
    (refine Qb ?_)
    refine T_takeV 4 5 13 rfl (by kernel_rfl) (by repeat (first | exact retQ_p | apply seqQ_p | apply blkQ_p | apply rndQ_p | apply cutQ_p)) hS ?_
    apply Qst_pu
    · apply P_idxm (j := j) (sz := 5)
      focus rfl
      focus rfl
      focus rfl
      focus rfl
      focus rfl
      focus omega
    focus rfl
    (refine Qb ?_)
    refine T_takeV 5 6 12 rfl (by kernel_rfl) (by repeat (first | exact retQ_p | apply seqQ_p | apply blkQ_p | apply rndQ_p | apply cutQ_p)) hS ?_
    (refine Qb ?_)
    refine T_takeV 6 7 11 rfl (by kernel_rfl) (by repeat (first | exact retQ_p | apply seqQ_p | apply blkQ_p | apply rndQ_p | apply cutQ_p)) hS ?_
    apply Qst_loadc
    focus rfl
    focus rfl
    focus rfl
    focus exact fun A9 hA9 => cell_below hA9 hc0
    focus rfl
    (refine Qb ?_)
    refine T_takeV 10 12 10 rfl (by kernel_rfl) (by repeat (first | exact retQ_p | apply seqQ_p | apply blkQ_p | apply rndQ_p | apply cutQ_p)) hS ?_
    (refine Qb ?_)
    refine T_takeV 11 12 9 rfl (by kernel_rfl) (by repeat (first | exact retQ_p | apply seqQ_p | apply blkQ_p | apply rndQ_p | apply cutQ_p)) hS ?_
    (refine Qb ?_)
    refine T_takeV 12 13 8 rfl (by kernel_rfl) (by repeat (first | exact retQ_p | apply seqQ_p | apply blkQ_p | apply rndQ_p | apply cutQ_p)) hS ?_
    apply Qst_pu
    · apply P_idxm (j := j) (sz := 5)
      focus rfl
      focus rfl
      focus rfl
      focus rfl
      focus rfl
      focus omega
    focus rfl
    (refine Qb ?_)
    refine T_takeV 13 14 7 rfl (by kernel_rfl) (by repeat (first | exact retQ_p | apply seqQ_p | apply blkQ_p | apply rndQ_p | apply cutQ_p)) hS ?_
    (refine Qb ?_)
    refine T_takeV 14 15 6 rfl (by kernel_rfl) (by repeat (first | exact retQ_p | apply seqQ_p | apply blkQ_p | apply rndQ_p | apply cutQ_p)) hS ?_
    apply Qst_loadS (cs := vcs q.2)
    focus rfl
    focus rfl
    focus rfl
    focus rfl
    focus rfl
    focus exact fun A9 hA9 j v hj => cell_below hA9 (hc1v j v hj)
    focus rfl
    (refine Qb ?_)
    refine T_any [7] 5 rfl (by kernel_rfl) (all1 ?_)
    (apply Lst_call; (focus rfl); (focus rfl))
    refine (r_Quote q.1 hq1 Z1).mono ?_
    rintro v Z2 ⟨rfl, hZ2⟩
    have hS2 := hS.trans (hZ2.mono hS.size)
    apply Lst_nil
    apply rnQ_n
    refine ⟨hS2, ?_⟩
    clear hS
    have hS := hS2
    clear hS2
    refine T_takeV 8 9 4 rfl (by kernel_rfl) (by repeat (first | exact retQ_p | apply seqQ_p | apply blkQ_p | apply rndQ_p | apply cutQ_p)) hS ?_
    apply Qst_pu
    · apply P_saddB (p := (o ++ [32])) (q := Hex.quote q.1.data.toList)
      focus rfl
      focus rfl
      focus (simp only [List.length_append, List.length_cons, List.length_nil]; omega)
    focus rfl
    (refine Qb ?_)
    refine T_takeV 9 16 3 rfl (by kernel_rfl) (by repeat (first | exact retQ_p | apply seqQ_p | apply blkQ_p | apply rndQ_p | apply cutQ_p)) hS ?_
    apply Qst_pu
    · apply P_saddB (p := ((o ++ [32]) ++ Hex.quote q.1.data.toList)) (q := [61])
      focus rfl
      focus rfl
      focus (simp only [List.length_append, List.length_cons, List.length_nil]; omega)
    focus rfl
    (refine Qb ?_)
    refine T_any [15] 2 rfl (by kernel_rfl) (all1 ?_)
    (apply Lst_call; (focus rfl); (focus rfl))
    refine (r_Text q.2 hq0 hq2 hq3 Z2).mono ?_
    rintro v Z3 ⟨rfl, hZ3⟩
    have hS2 := hS.trans (hZ3.mono hS.size)
    apply Lst_nil
    apply rnQ_n
    refine ⟨hS2, ?_⟩
    clear hS
    have hS := hS2
    clear hS2
    refine T_takeV 16 17 1 rfl (by kernel_rfl) (by repeat (first | exact retQ_p | apply seqQ_p | apply blkQ_p | apply rndQ_p | apply cutQ_p)) hS ?_
    apply Qst_pu
    · apply P_saddB (p := (((o ++ [32]) ++ Hex.quote q.1.data.toList) ++ [61])) (q := textV q.2)
      focus rfl
      focus rfl
      focus (simp only [List.length_append, List.length_cons, List.length_nil]; omega)
    focus rfl
    (refine Qb ?_)
    refine T_last 17 (by kernel_rfl) ?_
    (refine Ga ?_)
    refine rndQ_n (α := Nat) (j + 1) ⟨hjl, bZ.trans (hS.mono bZ.size)⟩ ⟨rfl, ?_, ?_, trivial⟩ (by omega)
    · exact congrArg (fun x => Value.string (bs x)) hm1.symm
    · exact congrArg (Value.int .i64) (by omega)
  · obtain rfl : j = ms.length := by omega
    rw [List.take_length]
    (refine Ga ?_)
    (apply retQ1; (focus rfl))
    exact ⟨rfl, bZ⟩
set_option maxHeartbeats 16000000 in
theorem r_entries : ∀ (n : Nat) (f : Ef), f.sz ≤ n → ∀ (a : List UInt8) (A : Nat) (b : Option Addr) (c : Nat) (w : World), EntAt A w b 0 f → A ≤ w.heap.size → f.Fit → f.Ok → (linesE a f).flatten.length ≤ 1000000 →
    Does Tryd.prog 21 #[.slice b f.len c, .string (bs a)] w fun v w' => v = .string (bs (linesE a f).flatten) ∧ Below w.heap.size w w' := by
  intro n
  induction n with
  | zero =>
    rintro f hf a A b c w he hA hfit hok hflat
    cases f with
    | cons key vl k r => exact absurd hf (by unfold Ef.sz; omega)
    | nil =>
      refine Does_of (args := [.slice b 0 c, .string (bs a)]) Tryd.func21 (by kernel_rfl) rfl rfl rfl rfl rfl ?_
      (refine Ga ?_)
      refine W_loop (α := Unit) (fun _ => [(0, .slice b 0 c), (5, .string ⟨#[]⟩), (6, .int .i64 ((0 : Nat) : Int))]) (fun _ X => X = w) (fun _ _ => 0) () rfl ⟨rfl, rfl, rfl, trivial⟩ ?_
      rintro J _ X rfl
      (refine Ga ?_)
      (apply retQ1; (focus rfl))
      exact ⟨rfl, Below.refl _ _⟩
  | succ n ih =>
    rintro f hf a A b c w he hA hfit hok hflat
    obtain ⟨m, hm⟩ : ∃ m, f.len = m := ⟨_, rfl⟩
    have hml : m ≤ 1000000 := by
      have h1 := Ef.len_sz f
      have h2 := linesE_len a f
      have h3 := flat_ge a f
      omega
    refine Does_of (args := [.slice b f.len c, .string (bs a)]) Tryd.func21 (by kernel_rfl) rfl rfl rfl rfl rfl ?_
    rw [hm]
    (refine Ga ?_)
    refine W_loop (α := Ef × Nat × List UInt8) (fun x => [(0, .slice b m c), (1, .string (bs a)), (5, .string (bs x.2.2)), (6, .int .i64 (x.2.1 : Int))])
      (fun x X => x.2.1 + x.1.len = m ∧ EntAt A w b x.2.1 x.1 ∧ x.1.Fit ∧ x.1.Ok ∧ x.1.sz ≤ n + 1 ∧ x.2.2 ++ (linesE a x.1).flatten = (linesE a f).flatten ∧ Below w.heap.size w X) (fun x _ => x.1.len) (f, 0, []) ⟨by dsimp only; omega, he, hfit, hok, hf, rfl, Below.refl _ _⟩ ⟨rfl, rfl, rfl, rfl, trivial⟩ ?_
    clear he hf hfit hok hm
    rintro J ⟨f', i, o⟩ X ⟨him, he, hfit, hok, hf, hlines, bX⟩
    dsimp only at him he hfit hok hf hlines bX ⊢
    have sX := bX.size
    have hlf := congrArg List.length hlines
    rw [List.length_append] at hlf
    cases f' with
    | nil =>
      have him' : i = m := him
      subst him'
      (refine Ga ?_)
      (apply retQ1; (focus rfl))
      refine ⟨?_, bX⟩
      show Value.string (bs o) = _
      rw [← hlines]
      unfold linesE
      rw [List.flatten_nil, List.append_nil]
    | cons key vl kids rest =>
      obtain ⟨⟨g, off, a1, c1, rfl, hgA, hcw, he4⟩, hrest⟩ := he
      have hc : ∀ j u, (ecs key vl (.slice a1 kids.len c1))[j]? = some u → X.cell? ⟨g, off + i * 6 + j, none⟩ = some u := fun j u hu => (World.cell?_of_block (a := ⟨g, _, none⟩) (bX.block g (Nat.lt_of_lt_of_le hgA hA))).trans (hcw j u hu)
      have hc0 : X.cell? ⟨g, off + i * 6 + 0, none⟩ = some (.string key) := hc 0 _ rfl
      have hc5 : X.cell? ⟨g, off + i * 6 + 5, none⟩ = some (.slice a1 kids.len c1) := hc 5 _ rfl
      have hc1v : ∀ j u, (vcs vl)[j]? = some u → X.cell? ⟨g, off + i * 6 + 1 + j, none⟩ = some u := fun j u hu => by
        have hj : j < 4 := (List.getElem?_eq_some_iff.1 hu).1
        rw [Nat.add_assoc]
        refine hc (1 + j) u ?_
        rw [← hu]
        rcases j with _ | _ | _ | _ | j
        · rfl
        · rfl
        · rfl
        · rfl
        · omega
      obtain ⟨hfk, hfv, hfs, hfit4, hfit5⟩ := hfit
      obtain ⟨hok1, hok2, hok3⟩ := hok
      have hlenc : (Ef.cons key vl kids rest).len = rest.len + 1 := rfl
      have hszc : (Ef.cons key vl kids rest).sz = kids.sz + rest.sz + 1 := rfl
      rw [hlenc] at him
      rw [hszc] at hf
      have him2 : i < m := by omega
      have hksz : kids.sz ≤ n := by omega
      have hl : (lineE a key.data.toList vl).length = a.length + (2 + ((Hex.quote key.data.toList).length + (1 + ((textV vl).length + 0)))) + 1 := by
        unfold lineE
        simp only [List.flatten_cons, List.flatten_nil, List.length_append, List.length_cons, List.length_nil]
      have hf1 : (linesE a (.cons key vl kids rest)).flatten.length = (lineE a key.data.toList vl).length + ((linesE (a ++ [32, 32]) kids).flatten.length + (linesE a rest).flatten.length) := by
        rw [linesE, List.flatten_cons, List.length_append, List.flatten_append, List.length_append]
      rw [hf1, hl] at hlf
      (refine Ga ?_)
      refine W_drawT 30 (fun Y => Below X.heap.size X Y) rfl rfl ?_
      have hS : Below X.heap.size X X.drew := Below.drew (Below.refl _ _)
      generalize X.drew = Z1 at *
      refine T_takeV 0 2 29 rfl (by kernel_rfl) (by repeat (first | exact retQ_p | apply seqQ_p | apply blkQ_p | apply rndQ_p | apply cutQ_p)) hS ?_
      (refine Qb ?_)
      refine T_takeV 1 2 28 rfl (by kernel_rfl) (by repeat (first | exact retQ_p | apply seqQ_p | apply blkQ_p | apply rndQ_p | apply cutQ_p)) hS ?_
      (refine Qb ?_)
      refine T_takeV 2 3 27 rfl (by kernel_rfl) (by repeat (first | exact retQ_p | apply seqQ_p | apply blkQ_p | apply rndQ_p | apply cutQ_p)) hS ?_
      apply Qst_pu
      · apply P_saddB (p := o) (q := a)
        focus rfl
        focus rfl
        focus (omega)
      focus rfl
      (refine Qb ?_)
      refine T_takeV 3 10 26 rfl (by kernel_rfl) (by repeat (first | exact retQ_p | apply seqQ_p | apply blkQ_p | apply rndQ_p | apply cutQ_p)) hS ?_
      apply Qst_pu
      · apply P_saddB (p := (o ++ a)) (q := [109, 32])
        focus rfl
        focus rfl
        focus (simp only [List.length_append, List.length_cons, List.length_nil]; omega)
      focus rfl
      (refine Qb ?_)
      refine T_takeV 4 6 25 rfl (by kernel_rfl) (by repeat (first | exact retQ_p | apply seqQ_p | apply blkQ_p | apply rndQ_p | apply cutQ_p)) hS ?_
      (refine Qb ?_)
      refine T_takeV 5 6 24 rfl (by kernel_rfl) (by repeat (first | exact retQ_p | apply seqQ_p | apply blkQ_p | apply rndQ_p | apply cutQ_p)) hS ?_
      (refine Qb ?_)
      refine T_takeV 6 7 23 rfl (by kernel_rfl) (by repeat (first | exact retQ_p | apply seqQ_p | apply blkQ_p | apply rndQ_p | apply cutQ_p)) hS ?_
      apply Qst_pu
      · apply P_idxm (j := i) (sz := 6)
        focus rfl
        focus rfl
        focus rfl
        focus rfl
        focus rfl
        focus omega
      focus rfl
      (refine Qb ?_)
      refine T_takeV 7 8 22 rfl (by kernel_rfl) (by repeat (first | exact retQ_p | apply seqQ_p | apply blkQ_p | apply rndQ_p | apply cutQ_p)) hS ?_
      (refine Qb ?_)
      refine T_takeV 8 9 21 rfl (by kernel_rfl) (by repeat (first | exact retQ_p | apply seqQ_p | apply blkQ_p | apply rndQ_p | apply cutQ_p)) hS ?_
      apply Qst_loadc
      focus rfl
      focus rfl
      focus rfl
      focus exact fun A9 hA9 => cell_below hA9 hc0
      focus rfl
      (refine Qb ?_)
      refine T_takeV 12 14 20 rfl (by kernel_rfl) (by repeat (first | exact retQ_p | apply seqQ_p | apply blkQ_p | apply rndQ_p | apply cutQ_p)) hS ?_
      (refine Qb ?_)
      refine T_takeV 13 14 19 rfl (by kernel_rfl) (by repeat (first | exact retQ_p | apply seqQ_p | apply blkQ_p | apply rndQ_p | apply cutQ_p)) hS ?_
      (refine Qb ?_)
      refine T_takeV 14 15 18 rfl (by kernel_rfl) (by repeat (first | exact retQ_p | apply seqQ_p | apply blkQ_p | apply rndQ_p | apply cutQ_p)) hS ?_
      apply Qst_pu
      · apply P_idxm (j := i) (sz := 6)
        focus rfl
        focus rfl
        focus rfl
        focus rfl
        focus rfl
        focus omega
      focus rfl
      (refine Qb ?_)
      refine T_takeV 15 16 17 rfl (by kernel_rfl) (by repeat (first | exact retQ_p | apply seqQ_p | apply blkQ_p | apply rndQ_p | apply cutQ_p)) hS ?_
      (refine Qb ?_)
      refine T_takeV 16 17 16 rfl (by kernel_rfl) (by repeat (first | exact retQ_p | apply seqQ_p | apply blkQ_p | apply rndQ_p | apply cutQ_p)) hS ?_
      apply Qst_loadS (cs := vcs vl)
      focus rfl
      focus rfl
      focus rfl
      focus rfl
      focus rfl
      focus exact fun A9 hA9 j v hj => cell_below hA9 (hc1v j v hj)
      focus rfl
      (refine Qb ?_)
      refine T_takeV 20 22 15 rfl (by kernel_rfl) (by repeat (first | exact retQ_p | apply seqQ_p | apply blkQ_p | apply rndQ_p | apply cutQ_p)) hS ?_
      (refine Qb ?_)
      refine T_takeV 21 22 14 rfl (by kernel_rfl) (by repeat (first | exact retQ_p | apply seqQ_p | apply blkQ_p | apply rndQ_p | apply cutQ_p)) hS ?_
      (refine Qb ?_)
      refine T_takeV 22 23 13 rfl (by kernel_rfl) (by repeat (first | exact retQ_p | apply seqQ_p | apply blkQ_p | apply rndQ_p | apply cutQ_p)) hS ?_
      apply Qst_pu
      · apply P_idxm (j := i) (sz := 6)
        focus rfl
        focus rfl
        focus rfl
        focus rfl
        focus rfl
        focus omega
      focus rfl
      (refine Qb ?_)
      refine T_takeV 23 24 12 rfl (by kernel_rfl) (by repeat (first | exact retQ_p | apply seqQ_p | apply blkQ_p | apply rndQ_p | apply cutQ_p)) hS ?_
      (refine Qb ?_)
      refine T_takeV 24 27 11 rfl (by kernel_rfl) (by repeat (first | exact retQ_p | apply seqQ_p | apply blkQ_p | apply rndQ_p | apply cutQ_p)) hS ?_
      apply Qst_loadc
      focus rfl
      focus rfl
      focus rfl
      focus exact fun A9 hA9 => cell_below hA9 hc5
      focus rfl
      (refine Qb ?_)
      refine T_takeV 25 26 10 rfl (by kernel_rfl) (by repeat (first | exact retQ_p | apply seqQ_p | apply blkQ_p | apply rndQ_p | apply cutQ_p)) hS ?_
      (refine Qb ?_)
      refine T_takeV 26 27 9 rfl (by kernel_rfl) (by repeat (first | exact retQ_p | apply seqQ_p | apply blkQ_p | apply rndQ_p | apply cutQ_p)) hS ?_
      apply Qst_pu
      · apply P_saddB (p := a) (q := [32, 32])
        focus rfl
        focus rfl
        focus (simp only [List.length_cons, List.length_nil]; omega)
      focus rfl
      (refine Qb ?_)
      refine T_any [9] 8 rfl (by kernel_rfl) (all1 ?_)
      (apply Lst_call; (focus rfl); (focus rfl))
      refine (r_Quote key hfk Z1).mono ?_
      rintro v Z2 ⟨rfl, hZ2⟩
      have hS2 := hS.trans (hZ2.mono hS.size)
      apply Lst_nil
      apply rnQ_n
      refine ⟨hS2, ?_⟩
      clear hS
      have hS := hS2
      clear hS2
      refine T_takeV 10 11 7 rfl (by kernel_rfl) (by repeat (first | exact retQ_p | apply seqQ_p | apply blkQ_p | apply rndQ_p | apply cutQ_p)) hS ?_
      apply Qst_pu
      · apply P_saddB (p := ((o ++ a) ++ [109, 32])) (q := Hex.quote key.data.toList)
        focus rfl
        focus rfl
        focus (simp only [List.length_append, List.length_cons, List.length_nil]; omega)
      focus rfl
      (refine Qb ?_)
      refine T_takeV 11 18 6 rfl (by kernel_rfl) (by repeat (first | exact retQ_p | apply seqQ_p | apply blkQ_p | apply rndQ_p | apply cutQ_p)) hS ?_
      apply Qst_pu
      · apply P_saddB (p := (((o ++ a) ++ [109, 32]) ++ Hex.quote key.data.toList)) (q := [61])
        focus rfl
        focus rfl
        focus (simp only [List.length_append, List.length_cons, List.length_nil]; omega)
      focus rfl
      (refine Qb ?_)
      refine T_any [17] 5 rfl (by kernel_rfl) (all1 ?_)
      (apply Lst_call; (focus rfl); (focus rfl))
      refine (r_Text vl hok1 hfv hfs Z2).mono ?_
      rintro v Z3 ⟨rfl, hZ3⟩
      have hS2 := hS.trans (hZ3.mono hS.size)
      apply Lst_nil
      apply rnQ_n
      refine ⟨hS2, ?_⟩
      clear hS
      have hS := hS2
      clear hS2
      refine T_takeV 18 19 4 rfl (by kernel_rfl) (by repeat (first | exact retQ_p | apply seqQ_p | apply blkQ_p | apply rndQ_p | apply cutQ_p)) hS ?_
      apply Qst_pu
      · apply P_saddB (p := ((((o ++ a) ++ [109, 32]) ++ Hex.quote key.data.toList) ++ [61])) (q := textV vl)
        focus rfl
        focus rfl
        focus (simp only [List.length_append, List.length_cons, List.length_nil]; omega)
      focus rfl
      (refine Qb ?_)
      refine T_takeV 19 28 3 rfl (by kernel_rfl) (by repeat (first | exact retQ_p | apply seqQ_p | apply blkQ_p | apply rndQ_p | apply cutQ_p)) hS ?_
      apply Qst_pu
      · apply P_saddB (p := (((((o ++ a) ++ [109, 32]) ++ Hex.quote key.data.toList) ++ [61]) ++ textV vl)) (q := [10])
        focus rfl
        focus rfl
        focus (simp only [List.length_append, List.length_cons, List.length_nil]; omega)
      focus rfl
      (refine Qb ?_)
      refine T_any [27] 2 rfl (by kernel_rfl) (all1 ?_)
      (apply Lst_call; (focus rfl); (focus rfl))
      refine (ih kids hksz (a ++ [32, 32]) A a1 c1 Z3 (he4.below (bX.trans (hS.mono sX) |>.mono hA)) (Nat.le_trans hA (bX.trans (hS.mono sX)).size) hfit4 hok2 (by omega)).mono ?_
      rintro v Z4 ⟨rfl, hZ4⟩
      have hS2 := hS.trans (hZ4.mono hS.size)
      apply Lst_nil
      apply rnQ_n
      refine ⟨hS2, ?_⟩
      clear hS
      have hS := hS2
      clear hS2
      refine T_takeV 28 29 1 rfl (by kernel_rfl) (by repeat (first | exact retQ_p | apply seqQ_p | apply blkQ_p | apply rndQ_p | apply cutQ_p)) hS ?_
      apply Qst_pu
      · apply P_saddB (p := ((((((o ++ a) ++ [109, 32]) ++ Hex.quote key.data.toList) ++ [61]) ++ textV vl) ++ [10])) (q := (linesE (a ++ [32, 32]) kids).flatten)
        focus rfl
        focus rfl
        focus (simp only [List.length_append, List.length_cons, List.length_nil]; omega)
      focus rfl
      (refine Qb ?_)
      refine T_last 29 (by kernel_rfl) ?_
      (refine Ga ?_)
      refine rndQ_n (α := Ef × Nat × List UInt8) (rest, i + 1, (((((((o ++ a) ++ [109, 32]) ++ Hex.quote key.data.toList) ++ [61]) ++ textV vl) ++ [10]) ++ (linesE (a ++ [32, 32]) kids).flatten)) ⟨by dsimp only; omega, hrest, hfit5, hok3, by dsimp only; omega, ?_, bX.trans (hS.mono sX)⟩ ⟨rfl, rfl, rfl, ?_, trivial⟩ (by dsimp only; rw [hlenc]; omega)
      · have e : (linesE a (.cons key vl kids rest)).flatten = lineE a key.data.toList vl ++ ((linesE (a ++ [32, 32]) kids).flatten ++ (linesE a rest).flatten) := by rw [linesE, List.flatten_cons, List.flatten_append]
        dsimp only
        rw [← hlines, e, line_end]
        unfold lineE
        simp only [List.append_assoc]
      · exact congrArg (Value.int .i64) (by dsimp only; omega)
set_option maxHeartbeats 16000000 in
theorem c_ents : ∀ (n : Nat) (f : Ef), f.sz ≤ n → ∀ (dp A : Nat) (b : Option Addr) (c : Nat) (w : World), dp ≤ 21 → EntAt A w b 0 f → A ≤ w.heap.size → f.Raw → f.len ≤ 2000000 →
    Does Tryd.prog 6 #[.slice b f.len c, .int .i64 (dp : Int)] w fun v w' => (∃ N : Nat, v = .int .i64 (N : Int) ∧ N ≤ 1000 + (22 - dp) * 100000 ∧ (N ≤ 300 → f.Ok ∧ f.cnt = N)) ∧ Below w.heap.size w w' := by
  intro n
  induction n with
  | zero =>
    rintro f hf dp A b c w hdp he hA hraw hfl
    cases f with
    | cons key vl k r => exact absurd hf (by unfold Ef.sz; omega)
    | nil =>
      refine Does_of (args := [.slice b 0 c, .int .i64 (dp : Int)]) Tryd.func6 (by kernel_rfl) rfl rfl rfl rfl rfl ?_
      by_cases hd : dp > 20
      · (refine Ga ?_)
        (apply retQ1; (focus rfl))
        exact ⟨⟨1000, rfl, by omega, fun h => absurd h (by decide)⟩, Below.refl _ _⟩
      · (refine Ga ?_)
        refine W_loop (α := Unit) (fun _ => [(0, .slice b 0 c), (5, .int .i64 0), (6, .int .i64 ((0 : Nat) : Int))]) (fun _ X => X = w) (fun _ _ => 0) () rfl ⟨rfl, rfl, rfl, trivial⟩ ?_
        rintro J _ X rfl
        (refine Ga ?_)
        (apply retQ1; (focus rfl))
        exact ⟨⟨0, rfl, Nat.zero_le _, fun _ => ⟨trivial, rfl⟩⟩, Below.refl _ _⟩
  | succ n ih =>
    rintro f hf dp A b c w hdp he hA hraw hfl
    refine Does_of (args := [.slice b f.len c, .int .i64 (dp : Int)]) Tryd.func6 (by kernel_rfl) rfl rfl rfl rfl rfl ?_
    obtain ⟨m, hm⟩ : ∃ m, f.len = m := ⟨_, rfl⟩
    rw [hm] at hfl ⊢
    by_cases hd : dp > 20
    · (refine Ga ?_)
      (apply retQ1; (focus rfl))
      exact ⟨⟨1000, rfl, by omega, fun h => absurd h (by decide)⟩, Below.refl _ _⟩
    have hB : (22 - dp) * 100000 = (22 - (dp + 1)) * 100000 + 100000 := by omega
    (refine Ga ?_)
    refine W_loop (α := Ef × Nat × Nat) (fun x => [(0, .slice b m c), (1, .int .i64 (dp : Int)), (5, .int .i64 (x.2.2 : Int)), (6, .int .i64 (x.2.1 : Int))])
      (fun x X => x.2.1 + x.1.len = m ∧ EntAt A w b x.2.1 x.1 ∧ x.1.Raw ∧ x.1.sz ≤ n + 1 ∧ x.2.2 ≤ 1000 + (22 - dp) * 100000 ∧ (x.2.2 ≤ 300 → (x.1.Ok → f.Ok) ∧ f.cnt = x.2.2 + x.1.cnt) ∧ Below w.heap.size w X) (fun x _ => x.1.len) (f, 0, 0) ⟨by dsimp only; omega, he, hraw, hf, Nat.zero_le _, fun _ => ⟨fun h => h, by dsimp only; omega⟩, Below.refl _ _⟩ ⟨rfl, rfl, rfl, rfl, trivial⟩ ?_
    clear he hf hraw hm
    rintro J ⟨f', i, k⟩ X ⟨him, he, hraw, hf, hkb, hgood, bX⟩
    dsimp only at him he hraw hf hkb hgood bX ⊢
    have sX := bX.size
    cases f' with
    | nil =>
      have him' : i = m := him
      subst him'
      (refine Ga ?_)
      (apply retQ1; (focus rfl))
      exact ⟨⟨k, rfl, hkb, fun h => ⟨(hgood h).1 trivial, (hgood h).2⟩⟩, bX⟩
    | cons key vl kids rest =>
      have hlenc : (Ef.cons key vl kids rest).len = rest.len + 1 := rfl
      have hszc : (Ef.cons key vl kids rest).sz = kids.sz + rest.sz + 1 := rfl
      have hcntc : (Ef.cons key vl kids rest).cnt = 1 + key.size / 50 + vl.s.size / 50 + kids.cnt + rest.cnt := rfl
      rw [hlenc] at him
      rw [hszc] at hf
      have him2 : i < m := by omega
      by_cases hk3 : k ≤ 300
      · obtain ⟨⟨g, off, a1, c1, rfl, hgA, hcw, he4⟩, hrest⟩ := he
        have hc : ∀ j u, (ecs key vl (.slice a1 kids.len c1))[j]? = some u → X.cell? ⟨g, off + i * 6 + j, none⟩ = some u := fun j u hu => (World.cell?_of_block (a := ⟨g, _, none⟩) (bX.block g (Nat.lt_of_lt_of_le hgA hA))).trans (hcw j u hu)
        have hc1v : ∀ j u, (vcs vl)[j]? = some u → X.cell? ⟨g, off + i * 6 + 1 + j, none⟩ = some u := fun j u hu => by
          have hj : j < 4 := (List.getElem?_eq_some_iff.1 hu).1
          rw [Nat.add_assoc]
          refine hc (1 + j) u ?_
          rw [← hu]
          rcases j with _ | _ | _ | _ | j
          · rfl
          · rfl
          · rfl
          · rfl
          · omega
        obtain ⟨hrk, hfv, hrs, hkl, hraw4, hraw5⟩ := hraw
        have hksz : kids.sz ≤ n := by omega
        obtain ⟨hg1, hg2⟩ := hgood hk3
        rw [hcntc] at hg2
        (refine Ga ?_)
        apply Lst_pu
        · apply P_idxm (j := i) (sz := 6)
          focus rfl
          focus rfl
          focus rfl
          focus rfl
          focus rfl
          focus omega
        focus rfl
        (refine Ga ?_)
        apply Lst_loadS' (cs := vcs vl)
        focus rfl
        focus rfl
        focus rfl
        focus rfl
        focus rfl
        focus exact hc1v
        focus rfl
        unfold vcs
        (refine Ga ?_)
        (apply Lst_call; (focus rfl); (focus rfl))
        refine (Val.r_Check vl X).mono ?_
        rintro u V ⟨rfl, hV⟩
        have bV := bX.trans (hV.mono sX)
        by_cases hvo : okV vl = true
        · rw [if_pos hvo]
          have hvA : ∀ j u, (ecs key vl (.slice a1 kids.len c1))[j]? = some u → V.cell? ⟨g, off + i * 6 + j, none⟩ = some u := fun j u hu => cell_below hV (hc j u hu)
          have hv0 : V.cell? ⟨g, off + i * 6 + 0, none⟩ = some (.string key) := hvA 0 _ rfl
          have hv4 : V.cell? ⟨g, off + i * 6 + 4, none⟩ = some (.string vl.s) := hvA 4 _ rfl
          have hv5 : V.cell? ⟨g, off + i * 6 + 5, none⟩ = some (.slice a1 kids.len c1) := hvA 5 _ rfl
          have hq1 : IntKind.i64.wrap (((key.size : Nat) : Int).tdiv 50) = ((key.size / 50 : Nat) : Int) := by
            rw [show ((key.size : Nat) : Int).tdiv 50 = ((key.size / 50 : Nat) : Int) from rfl]
            exact wi64 (by omega) (by omega)
          have hq2 : IntKind.i64.wrap (((vl.s.size : Nat) : Int).tdiv 50) = ((vl.s.size / 50 : Nat) : Int) := by
            rw [show ((vl.s.size : Nat) : Int).tdiv 50 = ((vl.s.size / 50 : Nat) : Int) from rfl]
            exact wi64 (by omega) (by omega)
          have hq3 : key.size / 50 ≤ 40000 := by omega
          have hq4 : vl.s.size / 50 ≤ 40000 := by omega
          generalize key.size / 50 = y1 at *
          generalize vl.s.size / 50 = y2 at *
          (refine Ga ?_)
          refine W_drawT 29 (fun Y => Below V.heap.size V Y) rfl rfl ?_
          have hS : Below V.heap.size V V.drew := Below.drew (Below.refl _ _)
          generalize V.drew = Z1 at *
          refine T_takeV 0 1 28 rfl (by kernel_rfl) (by repeat (first | exact retQ_p | apply seqQ_p | apply blkQ_p | apply rndQ_p | apply cutQ_p)) hS ?_
          (refine Qb ?_)
          refine T_takeV 1 9 27 rfl (by kernel_rfl) (by repeat (first | exact retQ_p | apply seqQ_p | apply blkQ_p | apply rndQ_p | apply cutQ_p)) hS ?_
          (refine Qb ?_)
          refine T_takeV 2 4 26 rfl (by kernel_rfl) (by repeat (first | exact retQ_p | apply seqQ_p | apply blkQ_p | apply rndQ_p | apply cutQ_p)) hS ?_
          (refine Qb ?_)
          refine T_takeV 3 4 25 rfl (by kernel_rfl) (by repeat (first | exact retQ_p | apply seqQ_p | apply blkQ_p | apply rndQ_p | apply cutQ_p)) hS ?_
          (refine Qb ?_)
          refine T_takeV 4 5 24 rfl (by kernel_rfl) (by repeat (first | exact retQ_p | apply seqQ_p | apply blkQ_p | apply rndQ_p | apply cutQ_p)) hS ?_
          apply Qst_pu
          · apply P_idxm (j := i) (sz := 6)
            focus rfl
            focus rfl
            focus rfl
            focus rfl
            focus rfl
            focus omega
          focus rfl
          (refine Qb ?_)
          refine T_takeV 5 6 23 rfl (by kernel_rfl) (by repeat (first | exact retQ_p | apply seqQ_p | apply blkQ_p | apply rndQ_p | apply cutQ_p)) hS ?_
          (refine Qb ?_)
          refine T_takeV 6 7 22 rfl (by kernel_rfl) (by repeat (first | exact retQ_p | apply seqQ_p | apply blkQ_p | apply rndQ_p | apply cutQ_p)) hS ?_
          apply Qst_loadc
          focus rfl
          focus rfl
          focus rfl
          focus exact fun A9 hA9 => cell_below hA9 hv0
          focus rfl
          (refine Qb ?_)
          refine T_takeL 7 8 21 rfl (by kernel_rfl) (by repeat (first | exact retQ_p | apply seqQ_p | apply blkQ_p | apply rndQ_p | apply cutQ_p)) hS ?_
          (refine Qb ?_)
          refine T_takeV 8 9 20 rfl (by kernel_rfl) (by repeat (first | exact retQ_p | apply seqQ_p | apply blkQ_p | apply rndQ_p | apply cutQ_p)) hS ?_
          apply Qst_pu
          · apply P_quo
            focus rfl
            focus rfl
            focus decide
            focus exact hq1
          focus rfl
          (refine Qb ?_)
          refine T_takeV 9 18 19 rfl (by kernel_rfl) (by repeat (first | exact retQ_p | apply seqQ_p | apply blkQ_p | apply rndQ_p | apply cutQ_p)) hS ?_
          (refine Qb ?_)
          refine T_takeV 10 12 18 rfl (by kernel_rfl) (by repeat (first | exact retQ_p | apply seqQ_p | apply blkQ_p | apply rndQ_p | apply cutQ_p)) hS ?_
          (refine Qb ?_)
          refine T_takeV 11 12 17 rfl (by kernel_rfl) (by repeat (first | exact retQ_p | apply seqQ_p | apply blkQ_p | apply rndQ_p | apply cutQ_p)) hS ?_
          (refine Qb ?_)
          refine T_takeV 12 13 16 rfl (by kernel_rfl) (by repeat (first | exact retQ_p | apply seqQ_p | apply blkQ_p | apply rndQ_p | apply cutQ_p)) hS ?_
          apply Qst_pu
          · apply P_idxm (j := i) (sz := 6)
            focus rfl
            focus rfl
            focus rfl
            focus rfl
            focus rfl
            focus omega
          focus rfl
          (refine Qb ?_)
          refine T_takeV 13 14 15 rfl (by kernel_rfl) (by repeat (first | exact retQ_p | apply seqQ_p | apply blkQ_p | apply rndQ_p | apply cutQ_p)) hS ?_
          (refine Qb ?_)
          refine T_takeV 14 15 14 rfl (by kernel_rfl) (by repeat (first | exact retQ_p | apply seqQ_p | apply blkQ_p | apply rndQ_p | apply cutQ_p)) hS ?_
          (refine Qb ?_)
          refine T_takeV 15 16 13 rfl (by kernel_rfl) (by repeat (first | exact retQ_p | apply seqQ_p | apply blkQ_p | apply rndQ_p | apply cutQ_p)) hS ?_
          apply Qst_loadc
          focus rfl
          focus rfl
          focus rfl
          focus exact fun A9 hA9 => cell_below hA9 hv4
          focus rfl
          (refine Qb ?_)
          refine T_takeL 16 17 12 rfl (by kernel_rfl) (by repeat (first | exact retQ_p | apply seqQ_p | apply blkQ_p | apply rndQ_p | apply cutQ_p)) hS ?_
          (refine Qb ?_)
          refine T_takeV 17 18 11 rfl (by kernel_rfl) (by repeat (first | exact retQ_p | apply seqQ_p | apply blkQ_p | apply rndQ_p | apply cutQ_p)) hS ?_
          apply Qst_pu
          · apply P_quo
            focus rfl
            focus rfl
            focus decide
            focus exact hq2
          focus rfl
          (refine Qb ?_)
          refine T_takeV 18 27 10 rfl (by kernel_rfl) (by repeat (first | exact retQ_p | apply seqQ_p | apply blkQ_p | apply rndQ_p | apply cutQ_p)) hS ?_
          (refine Qb ?_)
          refine T_takeV 19 21 9 rfl (by kernel_rfl) (by repeat (first | exact retQ_p | apply seqQ_p | apply blkQ_p | apply rndQ_p | apply cutQ_p)) hS ?_
          (refine Qb ?_)
          refine T_takeV 20 21 8 rfl (by kernel_rfl) (by repeat (first | exact retQ_p | apply seqQ_p | apply blkQ_p | apply rndQ_p | apply cutQ_p)) hS ?_
          (refine Qb ?_)
          refine T_takeV 21 22 7 rfl (by kernel_rfl) (by repeat (first | exact retQ_p | apply seqQ_p | apply blkQ_p | apply rndQ_p | apply cutQ_p)) hS ?_
          apply Qst_pu
          · apply P_idxm (j := i) (sz := 6)
            focus rfl
            focus rfl
            focus rfl
            focus rfl
            focus rfl
            focus omega
          focus rfl
          (refine Qb ?_)
          refine T_takeV 22 23 6 rfl (by kernel_rfl) (by repeat (first | exact retQ_p | apply seqQ_p | apply blkQ_p | apply rndQ_p | apply cutQ_p)) hS ?_
          (refine Qb ?_)
          refine T_takeV 23 26 5 rfl (by kernel_rfl) (by repeat (first | exact retQ_p | apply seqQ_p | apply blkQ_p | apply rndQ_p | apply cutQ_p)) hS ?_
          apply Qst_loadc
          focus rfl
          focus rfl
          focus rfl
          focus exact fun A9 hA9 => cell_below hA9 hv5
          focus rfl
          (refine Qb ?_)
          refine T_takeV 24 25 4 rfl (by kernel_rfl) (by repeat (first | exact retQ_p | apply seqQ_p | apply blkQ_p | apply rndQ_p | apply cutQ_p)) hS ?_
          (refine Qb ?_)
          refine T_takeV 25 26 3 rfl (by kernel_rfl) (by repeat (first | exact retQ_p | apply seqQ_p | apply blkQ_p | apply rndQ_p | apply cutQ_p)) hS ?_
          (refine Qb ?_)
          refine T_any [26] 2 rfl (by kernel_rfl) (all1 ?_)
          (apply Lst_call; (focus rfl); (focus rfl))
          refine (ih kids hksz (dp + 1) A a1 c1 Z1 (by omega) (he4.below ((bV.trans (hS.mono bV.size)).mono hA)) (Nat.le_trans hA (bV.trans (hS.mono bV.size)).size) hraw4 hkl).mono ?_
          rintro v Z2 ⟨⟨N, rfl, hNb, hN⟩, hZ2⟩
          have hS2 := hS.trans (hZ2.mono hS.size)
          apply Lst_nil
          apply rnQ_n
          refine ⟨hS2, ?_⟩
          clear hS
          have hS := hS2
          clear hS2
          refine T_takeV 27 28 1 rfl (by kernel_rfl) (by repeat (first | exact retQ_p | apply seqQ_p | apply blkQ_p | apply rndQ_p | apply cutQ_p)) hS ?_
          (refine Qb ?_)
          refine T_last 28 (by kernel_rfl) ?_
          (refine Ga ?_)
          refine rndQ_n (α := Ef × Nat × Nat) (rest, i + 1, k + 1 + y1 + y2 + N) ⟨by dsimp only; omega, hrest, hraw5, by dsimp only; omega, by dsimp only; omega, fun h => ?_, bV.trans (hS.mono bV.size)⟩ ⟨rfl, rfl, ?_, ?_, trivial⟩ (by dsimp only; rw [hlenc]; omega)
          · dsimp only at h
            obtain ⟨hN1, hN2⟩ := hN (by omega)
            exact ⟨fun hr => hg1 ⟨hvo, hN1, hr⟩, by dsimp only; omega⟩
          · exact congrArg (Value.int .i64) (by dsimp only; omega)
          · exact congrArg (Value.int .i64) (by dsimp only; omega)
        · rw [if_neg hvo]
          (refine Ga ?_)
          (apply retQ1; (focus rfl))
          exact ⟨⟨1000, rfl, by omega, fun h => absurd h (by decide)⟩, bV⟩
      · (refine Ga ?_)
        (apply retQ1; (focus rfl))
        exact ⟨⟨k, rfl, hkb, fun h => absurd h hk3⟩, bX⟩
set_option maxHeartbeats 16000000 in
theorem r_TextV (P : List Rv) (f : Ef) (A : Nat) (a b : Option Addr) (c d : Nat) (w : World) (hA : A ≤ w.heap.size) (h : RunS A w (.slice a P.length c) P) (he : EntAt A w b 0 f) (ok : ∀ p ∈ P, FitL p.1) (hfit : f.Fit) (hfo : f.Ok) (hn : P.length ≤ 1000000) (hflat : (linesV (P.map Prod.fst) f).flatten.length ≤ 1000000) : Does Tryd.prog 7 #[.agg #[.slice a P.length c, .slice b f.len d]] w fun v w' => v = .string (bs (linesV (P.map Prod.fst) f).flatten) ∧ Below w.heap.size w w' := by
  refine Does_of (args := [.agg #[.slice a P.length c, .slice b f.len d]]) Tryd.func7 (by kernel_rfl) rfl rfl rfl rfl rfl ?_
  have hlv : (linesV (P.map Prod.fst) f).flatten = linesP (P.map Prod.fst) ++ (linesE [] f).flatten := by unfold linesV linesP; rw [List.flatten_append]
  rw [hlv, List.length_append] at hflat
  (refine Ga ?_)
  refine W_abs (fun E => Below w.heap.size w E ∧ Blk E w.heap.size [.slice a P.length c, .slice b f.len d] 25) ⟨Bel, (by (repeat (first | assumption | (apply Blk.below (hb := hb1); rotate_left; (focus ((try simp only [Sx.sizes]); omega)); rotate_right) | (apply Blk.below (hb := hb2); rotate_left; (focus ((try simp only [Sx.sizes]); omega)); rotate_right) | (apply Blk.below (hb := hb3); rotate_left; (focus ((try simp only [Sx.sizes]); omega)); rotate_right) | (apply Blk.below (hb := hb4); rotate_left; (focus ((try simp only [Sx.sizes]); omega)); rotate_right) | (apply Blk.below (hb := hb5); rotate_left; (focus ((try simp only [Sx.sizes]); omega)); rotate_right) | (apply Blk.below (hb := hb6); rotate_left; (focus ((try simp only [Sx.sizes]); omega)); rotate_right) | (apply Blk.below (hb := hb7); rotate_left; (focus ((try simp only [Sx.sizes]); omega)); rotate_right) | (apply Blk.below (hb := hb8); rotate_left; (focus ((try simp only [Sx.sizes]); omega)); rotate_right) | (apply Blk.below (hb := hb9); rotate_left; (focus ((try simp only [Sx.sizes]); omega)); rotate_right) | exact Blk.newE (by first | rfl | ((try simp only [Sx.sizes]); first | done | omega)) _ _ | exact Blk.put_same (by (try simp only [Sx.sizes]); first | done | omega) _ _ | (apply Blk.put_ne; (focus omega)) | apply Blk.alloc | apply Blk.drew)); done)⟩ ?_
  rintro W0 ⟨bW0, k0⟩
  have l0 := k0.lt
  have sW0 := bW0.size
  obtain ⟨b0, hb0⟩ : ∃ n, w.heap.size = n := ⟨_, rfl⟩
  rw [hb0] at k0 l0
  have hR : ∀ Y, Below W0.heap.size W0 Y → RunS A Y (.slice a P.length c) P ∧ Blk Y b0 [.slice a P.length c, .slice b f.len d] 25 ∧ EntAt A Y b 0 f ∧ Below w.heap.size w Y := fun Y hY =>
    ⟨h.below (bW0.trans (hY.mono sW0)), k0.below hY l0, he.below ((bW0.trans (hY.mono sW0)).mono hA), bW0.trans (hY.mono sW0)⟩
  rw [hb0]
  refine W_loop (α := Nat) (fun i => [(1, .pointer (some ⟨b0, 0, none⟩)), (3, .string (bs (linesP ((P.map Prod.fst).take i)))), (4, .int .i64 (i : Int))]) (fun i X => i ≤ P.length ∧ Below W0.heap.size W0 X) (fun i _ => P.length - i) 0 ⟨Nat.zero_le _, Below.refl _ _⟩ ⟨rfl, rfl, rfl, trivial⟩ ?_
  rintro J i X ⟨hi, bX⟩
  obtain ⟨hX, kX, heX, bwX⟩ := hR X bX
  by_cases hil : i < P.length
  · obtain ⟨g, off, rfl, _, hc⟩ := hX.at hil
    have hmk := hX.mks _ (List.getElem_mem hil)
    have hok := ok _ (List.getElem_mem hil)
    have htk := linesP_take (L := P.map Prod.fst) (i := i) (by rw [List.length_map]; exact hil)
    have hle1 := linesP_le (P.map Prod.fst) (i + 1)
    rw [List.getElem_map] at htk
    rw [htk, List.length_append] at hle1
    generalize P[i] = p at hc hmk htk hok hle1
    obtain ⟨⟨tx, em, v, ms⟩, mv⟩ := p
    obtain ⟨ma, mc, hme⟩ := hmk.form
    dsimp only at hme htk hok hle1 hmk
    subst hme
    generalize linesP ((P.map Prod.fst).take i) = o at htk hle1 ⊢
    (refine Ga ?_)
    apply Lst_pu
    · apply P_idxm (j := i) (sz := 7)
      focus rfl
      focus rfl
      focus rfl
      focus rfl
      focus rfl
      focus omega
    focus rfl
    cases em with
    | true =>
      have hc1 : X.cell? ⟨g, off + i * 7 + 1, none⟩ = some (.bool true) := hc 1 _ rfl
      have hc0 : X.cell? ⟨g, off + i * 7 + 0, none⟩ = some (.string tx) := hc 0 _ rfl
      rw [lineR_emb] at htk hle1
      simp only [List.length_append, List.length_cons, List.length_nil] at hle1
      (refine Ga ?_)
      apply Lst_pu
      · apply P_saddB (p := o) (q := [101, 32])
        focus rfl
        focus rfl
        focus (simp only [List.length_cons, List.length_nil]; omega)
      focus rfl
      (refine Ga ?_)
      apply Lst_pu
      · apply P_idxm (j := i) (sz := 7)
        focus rfl
        focus rfl
        focus rfl
        focus rfl
        focus rfl
        focus omega
      focus rfl
      (refine Ga ?_)
      apply Lst_loadS' (cs := vcs v)
      focus rfl
      focus rfl
      focus rfl
      focus rfl
      focus rfl
      focus exact fun j u hu => by rw [Nat.add_assoc]; exact hc (2 + j) u (by have hj : j < 4 := (List.getElem?_eq_some_iff.1 hu).1; rw [← hu]; rcases j with _ | _ | _ | _ | j <;> first | rfl | omega)
      focus rfl
      unfold vcs
      (refine Ga ?_)
      (apply Lst_call; (focus rfl); (focus rfl))
      refine (r_Text v hok.ok hok.fit.v hok.fit.vs X).mono ?_
      rintro u V ⟨rfl, hV⟩
      apply Lst_pu
      · apply P_saddB (p := (o ++ [101, 32])) (q := textV v)
        focus rfl
        focus rfl
        focus (simp only [List.length_append, List.length_cons, List.length_nil]; omega)
      focus rfl
      have bV := bX.trans (hV.mono bX.size)
      obtain ⟨hRV, kV, _, bwV⟩ := hR V bV
      have hmV := hmk.below hV
      have hc6 : V.cell? ⟨g, off + i * 7 + 6, none⟩ = some (.slice ma ms.length mc) := cell_below hV (hc 6 _ rfl)
      (refine Ga ?_)
      apply Lst_pu
      · apply P_idxm (j := i) (sz := 7)
        focus rfl
        focus rfl
        focus rfl
        focus rfl
        focus rfl
        focus omega
      focus rfl
      (refine Ga ?_)
      (apply Lst_call; (focus rfl); (focus rfl))
      refine (r_marks ms A ma mc V hmV (fitL_ms hok) (by have := hok.fit.ml; dsimp only at this; omega) (by omega)).mono ?_
      rintro u U ⟨rfl, hU⟩
      (refine Ga ?_)
      apply Lst_pu
      · apply P_saddB (p := ((o ++ [101, 32]) ++ textV v)) (q := (ms.flatMap markP).flatten)
        focus rfl
        focus rfl
        focus (simp only [List.length_append, List.length_cons, List.length_nil]; omega)
      focus rfl
      (refine Ga ?_)
      apply Lst_pu
      · apply P_saddB (p := (((o ++ [101, 32]) ++ textV v) ++ (ms.flatMap markP).flatten)) (q := [10])
        focus rfl
        focus rfl
        focus (simp only [List.length_append, List.length_cons, List.length_nil]; omega)
      focus rfl
      (refine Ga ?_)
      refine rndQ_n (α := Nat) (i + 1) ⟨hil, bV.trans (hU.mono bV.size)⟩ ⟨rfl, ?_, ?_, trivial⟩ (by omega)
      · refine congrArg (fun x => Value.string (bs x)) ?_
        rw [htk]
        simp only [List.append_assoc]
      · exact congrArg (Value.int .i64) (by omega)
    | false =>
      have hc1 : X.cell? ⟨g, off + i * 7 + 1, none⟩ = some (.bool false) := hc 1 _ rfl
      have hc0 : X.cell? ⟨g, off + i * 7 + 0, none⟩ = some (.string tx) := hc 0 _ rfl
      rw [lineR_txt] at htk hle1
      simp only [List.length_append, List.length_cons, List.length_nil] at hle1
      (refine Ga ?_)
      apply Lst_pu
      · apply P_saddB (p := o) (q := [116, 32])
        focus rfl
        focus rfl
        focus (simp only [List.length_cons, List.length_nil]; omega)
      focus rfl
      (refine Ga ?_)
      apply Lst_pu
      · apply P_idxm (j := i) (sz := 7)
        focus rfl
        focus rfl
        focus rfl
        focus rfl
        focus rfl
        focus omega
      focus rfl
      (refine Ga ?_)
      (apply Lst_call; (focus rfl); (focus rfl))
      refine (r_Quote tx hok.fit.tx X).mono ?_
      rintro u V ⟨rfl, hV⟩
      apply Lst_pu
      · apply P_saddB (p := (o ++ [116, 32])) (q := Hex.quote tx.data.toList)
        focus rfl
        focus rfl
        focus (simp only [List.length_append, List.length_cons, List.length_nil]; omega)
      focus rfl
      have bV := bX.trans (hV.mono bX.size)
      obtain ⟨hRV, kV, _, bwV⟩ := hR V bV
      have hmV := hmk.below hV
      have hc6 : V.cell? ⟨g, off + i * 7 + 6, none⟩ = some (.slice ma ms.length mc) := cell_below hV (hc 6 _ rfl)
      (refine Ga ?_)
      apply Lst_pu
      · apply P_idxm (j := i) (sz := 7)
        focus rfl
        focus rfl
        focus rfl
        focus rfl
        focus rfl
        focus omega
      focus rfl
      (refine Ga ?_)
      (apply Lst_call; (focus rfl); (focus rfl))
      refine (r_marks ms A ma mc V hmV (fitL_ms hok) (by have := hok.fit.ml; dsimp only at this; omega) (by omega)).mono ?_
      rintro u U ⟨rfl, hU⟩
      (refine Ga ?_)
      apply Lst_pu
      · apply P_saddB (p := ((o ++ [116, 32]) ++ Hex.quote tx.data.toList)) (q := (ms.flatMap markP).flatten)
        focus rfl
        focus rfl
        focus (simp only [List.length_append, List.length_cons, List.length_nil]; omega)
      focus rfl
      (refine Ga ?_)
      apply Lst_pu
      · apply P_saddB (p := (((o ++ [116, 32]) ++ Hex.quote tx.data.toList) ++ (ms.flatMap markP).flatten)) (q := [10])
        focus rfl
        focus rfl
        focus (simp only [List.length_append, List.length_cons, List.length_nil]; omega)
      focus rfl
      (refine Ga ?_)
      refine rndQ_n (α := Nat) (i + 1) ⟨hil, bV.trans (hU.mono bV.size)⟩ ⟨rfl, ?_, ?_, trivial⟩ (by omega)
      · refine congrArg (fun x => Value.string (bs x)) ?_
        rw [htk]
        simp only [List.append_assoc]
      · exact congrArg (Value.int .i64) (by omega)
  · obtain rfl : i = P.length := by omega
    rw [List.take_of_length_le (by rw [List.length_map]; exact Nat.le_refl _)]
    (refine Ga ?_)
    (apply Lst_call; (focus rfl); (focus rfl))
    refine (r_entries f.sz f (Nat.le_refl _) [] A b d X heX (Nat.le_trans hA bwX.size) hfit hfo (by omega)).mono ?_
    rintro u U ⟨rfl, hU⟩
    (refine Ga ?_)
    apply Lst_pu
    · apply P_saddB (p := (linesP (P.map Prod.fst))) (q := (linesE [] f).flatten)
      focus rfl
      focus rfl
      focus (omega)
    focus rfl
    (refine Ga ?_)
    (apply retQ1; (focus rfl))
    have hfin := bwX.trans (hU.mono bwX.size)
    rw [hb0] at hfin
    refine ⟨?_, hfin⟩
    rw [hlv]
    rfl
set_option maxHeartbeats 8000000 in
theorem r_PlainV (P : List Rv) (f : Ef) (A : Nat) (a b : Option Addr) (c d : Nat) (w : World) (hA : A ≤ w.heap.size) (h : RunS A w (.slice a P.length c) P) (he : EntAt A w b 0 f) (hn : P.length ≤ 1000000) (hl : (plainP (P.map Prod.fst)).length ≤ 1000000) : Does Tryd.prog 11 #[.agg #[.slice a P.length c, .slice b f.len d]] w fun v w' => v = .string (bs (plainP (P.map Prod.fst))) ∧ Below w.heap.size w w' := by
  refine Does_of (args := [.agg #[.slice a P.length c, .slice b f.len d]]) Tryd.func11 (by kernel_rfl) rfl rfl rfl rfl rfl ?_
  (refine Ga ?_)
  refine W_abs (fun E => Below w.heap.size w E ∧ Blk E w.heap.size [.slice a P.length c, .slice b f.len d] 25) ⟨Bel, (by (repeat (first | assumption | (apply Blk.below (hb := hb1); rotate_left; (focus ((try simp only [Sx.sizes]); omega)); rotate_right) | (apply Blk.below (hb := hb2); rotate_left; (focus ((try simp only [Sx.sizes]); omega)); rotate_right) | (apply Blk.below (hb := hb3); rotate_left; (focus ((try simp only [Sx.sizes]); omega)); rotate_right) | (apply Blk.below (hb := hb4); rotate_left; (focus ((try simp only [Sx.sizes]); omega)); rotate_right) | (apply Blk.below (hb := hb5); rotate_left; (focus ((try simp only [Sx.sizes]); omega)); rotate_right) | (apply Blk.below (hb := hb6); rotate_left; (focus ((try simp only [Sx.sizes]); omega)); rotate_right) | (apply Blk.below (hb := hb7); rotate_left; (focus ((try simp only [Sx.sizes]); omega)); rotate_right) | (apply Blk.below (hb := hb8); rotate_left; (focus ((try simp only [Sx.sizes]); omega)); rotate_right) | (apply Blk.below (hb := hb9); rotate_left; (focus ((try simp only [Sx.sizes]); omega)); rotate_right) | exact Blk.newE (by first | rfl | ((try simp only [Sx.sizes]); first | done | omega)) _ _ | exact Blk.put_same (by (try simp only [Sx.sizes]); first | done | omega) _ _ | (apply Blk.put_ne; (focus omega)) | apply Blk.alloc | apply Blk.drew)); done)⟩ ?_
  rintro W0 ⟨bW0, k0⟩
  have l0 := k0.lt
  have sW0 := bW0.size
  obtain ⟨b0, hb0⟩ : ∃ n, w.heap.size = n := ⟨_, rfl⟩
  rw [hb0] at k0 l0
  have hR : ∀ Y, Below W0.heap.size W0 Y → RunS A Y (.slice a P.length c) P ∧ Blk Y b0 [.slice a P.length c, .slice b f.len d] 25 ∧ EntAt A Y b 0 f ∧ Below w.heap.size w Y := fun Y hY =>
    ⟨h.below (bW0.trans (hY.mono sW0)), k0.below hY l0, he.below ((bW0.trans (hY.mono sW0)).mono hA), bW0.trans (hY.mono sW0)⟩
  rw [hb0]
  refine W_loop (α := Nat) (fun i => [(1, .pointer (some ⟨b0, 0, none⟩)), (3, .string (bs (plainP ((P.map Prod.fst).take i)))), (4, .int .i64 (i : Int))]) (fun i X => i ≤ P.length ∧ Below W0.heap.size W0 X) (fun i _ => P.length - i) 0 ⟨Nat.zero_le _, Below.refl _ _⟩ ⟨rfl, rfl, rfl, trivial⟩ ?_
  rintro J i X ⟨hi, bX⟩
  obtain ⟨hX, kX, heX, bwX⟩ := hR X bX
  by_cases hil : i < P.length
  · obtain ⟨g, off, rfl, _, hc⟩ := hX.at hil
    have hmk := hX.mks _ (List.getElem_mem hil)
    have htk := plain_take (L := P.map Prod.fst) (i := i) (by rw [List.length_map]; exact hil)
    have hle1 := plain_le (P.map Prod.fst) (i + 1)
    rw [List.getElem_map] at htk
    rw [htk, List.length_append] at hle1
    generalize P[i] = p at hc hmk htk hle1
    obtain ⟨⟨tx, em, v, ms⟩, mv⟩ := p
    obtain ⟨ma, mc, hme⟩ := hmk.form
    dsimp only at hme htk hle1 hmk
    subst hme
    generalize plainP ((P.map Prod.fst).take i) = o at htk hle1 ⊢
    (refine Ga ?_)
    apply Lst_pu
    · apply P_idxm (j := i) (sz := 7)
      focus rfl
      focus rfl
      focus rfl
      focus rfl
      focus rfl
      focus omega
    focus rfl
    cases em with
    | true =>
      have hc1 : X.cell? ⟨g, off + i * 7 + 1, none⟩ = some (.bool true) := hc 1 _ rfl
      have hpt : (plainR ⟨tx, true, v, ms⟩).length = 3 := rfl
      (refine Ga ?_)
      apply Lst_pu
      · apply P_saddB (p := o) (q := [239, 191, 188])
        focus rfl
        focus rfl
        focus (simp only [List.length_cons, List.length_nil]; omega)
      focus rfl
      (refine Ga ?_)
      refine rndQ_n (α := Nat) (i + 1) ⟨hil, bX⟩ ⟨rfl, ?_, ?_, trivial⟩ (by omega)
      · exact congrArg (fun x => Value.string (bs x)) htk.symm
      · exact congrArg (Value.int .i64) (by omega)
    | false =>
      have hc1 : X.cell? ⟨g, off + i * 7 + 1, none⟩ = some (.bool false) := hc 1 _ rfl
      have hc0 : X.cell? ⟨g, off + i * 7 + 0, none⟩ = some (.string tx) := hc 0 _ rfl
      have hpt : (plainR ⟨tx, false, v, ms⟩).length = tx.size := rfl
      have hpl : tx.data.toList.length = tx.size := rfl
      (refine Ga ?_)
      apply Lst_pu
      · apply P_idxm (j := i) (sz := 7)
        focus rfl
        focus rfl
        focus rfl
        focus rfl
        focus rfl
        focus omega
      focus rfl
      (refine Ga ?_)
      apply Lst_pu
      · apply P_saddB (p := o) (q := tx.data.toList)
        focus rfl
        focus rfl
        focus (omega)
      focus rfl
      (refine Ga ?_)
      refine rndQ_n (α := Nat) (i + 1) ⟨hil, bX⟩ ⟨rfl, ?_, ?_, trivial⟩ (by omega)
      · exact congrArg (fun x => Value.string (bs x)) htk.symm
      · exact congrArg (Value.int .i64) (by omega)
  · obtain rfl : i = P.length := by omega
    rw [List.take_of_length_le (by rw [List.length_map]; exact Nat.le_refl _)]
    (refine Ga ?_)
    (apply retQ1; (focus rfl))
    rw [hb0] at bwX
    exact ⟨rfl, bwX⟩
set_option maxHeartbeats 16000000 in
theorem law_ViewTexts (P : List Rv) (f : Ef) (a b : Option Addr) (c d : Nat) (lP : P.length ≤ 2000000) (rawP : ∀ p ∈ P, Raw p.1) (rawf : f.Raw) (lf : f.len ≤ 2000000) (L : List Rv) (g : Ef) (a' b' : Option Addr) (c' d' : Nat) (lL : L.length ≤ 2000000) (rawL : ∀ p ∈ L, Raw p.1) (rawg : g.Raw) (lg : g.len ≤ 2000000)
    (W0 : World) (hV : VTabs W0) (hT : Tabs W0) (hP : RunS W0.heap.size W0 (.slice a P.length c) P) (hf : EntAt W0.heap.size W0 b 0 f) (hL : RunS W0.heap.size W0 (.slice a' L.length c') L) (hg : EntAt W0.heap.size W0 b' 0 g) :
    Does Tryd.prog 3 #[.agg #[.slice a P.length c, .slice b f.len d], .agg #[.slice a' L.length c', .slice b' g.len d']] W0 fun v w' => v = .bool true ∧ Below W0.heap.size W0 w' := by
  refine Does_of (args := [.agg #[.slice a P.length c, .slice b f.len d], .agg #[.slice a' L.length c', .slice b' g.len d']]) Tryd.func3 (by kernel_rfl) rfl rfl rfl rfl rfl ?_
  (refine Ga ?_)
  refine Lst_abs (fun E => Below W0.heap.size W0 E ∧ Blk E W0.heap.size [.slice a P.length c, .slice b f.len d] 25 ∧ Blk E (W0.heap.size + 1) [.slice a' L.length c', .slice b' g.len d'] 25) ⟨Bel, (by (repeat (first | assumption | (apply Blk.below (hb := hb1); rotate_left; (focus ((try simp only [Sx.sizes]); omega)); rotate_right) | (apply Blk.below (hb := hb2); rotate_left; (focus ((try simp only [Sx.sizes]); omega)); rotate_right) | (apply Blk.below (hb := hb3); rotate_left; (focus ((try simp only [Sx.sizes]); omega)); rotate_right) | (apply Blk.below (hb := hb4); rotate_left; (focus ((try simp only [Sx.sizes]); omega)); rotate_right) | (apply Blk.below (hb := hb5); rotate_left; (focus ((try simp only [Sx.sizes]); omega)); rotate_right) | (apply Blk.below (hb := hb6); rotate_left; (focus ((try simp only [Sx.sizes]); omega)); rotate_right) | (apply Blk.below (hb := hb7); rotate_left; (focus ((try simp only [Sx.sizes]); omega)); rotate_right) | (apply Blk.below (hb := hb8); rotate_left; (focus ((try simp only [Sx.sizes]); omega)); rotate_right) | (apply Blk.below (hb := hb9); rotate_left; (focus ((try simp only [Sx.sizes]); omega)); rotate_right) | exact Blk.newE (by first | rfl | ((try simp only [Sx.sizes]); first | done | omega)) _ _ | exact Blk.put_same (by (try simp only [Sx.sizes]); first | done | omega) _ _ | (apply Blk.put_ne; (focus omega)) | apply Blk.alloc | apply Blk.drew)); done), (by (repeat (first | assumption | (apply Blk.below (hb := hb1); rotate_left; (focus ((try simp only [Sx.sizes]); omega)); rotate_right) | (apply Blk.below (hb := hb2); rotate_left; (focus ((try simp only [Sx.sizes]); omega)); rotate_right) | (apply Blk.below (hb := hb3); rotate_left; (focus ((try simp only [Sx.sizes]); omega)); rotate_right) | (apply Blk.below (hb := hb4); rotate_left; (focus ((try simp only [Sx.sizes]); omega)); rotate_right) | (apply Blk.below (hb := hb5); rotate_left; (focus ((try simp only [Sx.sizes]); omega)); rotate_right) | (apply Blk.below (hb := hb6); rotate_left; (focus ((try simp only [Sx.sizes]); omega)); rotate_right) | (apply Blk.below (hb := hb7); rotate_left; (focus ((try simp only [Sx.sizes]); omega)); rotate_right) | (apply Blk.below (hb := hb8); rotate_left; (focus ((try simp only [Sx.sizes]); omega)); rotate_right) | (apply Blk.below (hb := hb9); rotate_left; (focus ((try simp only [Sx.sizes]); omega)); rotate_right) | exact Blk.newE (by first | rfl | ((try simp only [Sx.sizes]); first | done | omega)) _ _ | exact Blk.put_same (by (try simp only [Sx.sizes]); first | done | omega) _ _ | (apply Blk.put_ne; (focus omega)) | apply Blk.alloc | apply Blk.drew)); done)⟩ ?_
  rintro W1 ⟨bW, k0, k1⟩
  have sW := bW.size
  obtain ⟨b1, hb1⟩ : ∃ n, W0.heap.size + 1 = n := ⟨_, rfl⟩
  obtain ⟨b0, hb0⟩ : ∃ n, W0.heap.size = n := ⟨_, rfl⟩
  have l0 := k0.lt
  have l1 := k1.lt
  have hQ : ∀ Y, Below W1.heap.size W1 Y → RunS W0.heap.size Y (.slice a P.length c) P ∧ EntAt W0.heap.size Y b 0 f ∧ RunS W0.heap.size Y (.slice a' L.length c') L ∧ EntAt W0.heap.size Y b' 0 g ∧ VTabs Y ∧ Tabs Y ∧ W0.heap.size ≤ Y.heap.size := fun Y hY => by
    have h := bW.trans (hY.mono sW)
    exact ⟨hP.below h, hf.below h, hL.below h, hg.below h, hV.below h, hT.below h, h.size⟩
  rw [hb1] at k1 l1
  rw [hb1]
  have hBl : ∀ Y, Below W1.heap.size W1 Y → Blk Y W0.heap.size [.slice a P.length c, .slice b f.len d] 25 ∧ Blk Y b1 [.slice a' L.length c', .slice b' g.len d'] 25 ∧ Below W0.heap.size W0 Y := fun Y hY => ⟨k0.below hY l0, k1.below hY l1, bW.trans (hY.mono sW)⟩
  (apply Lst_call; (focus rfl); (focus rfl))
  refine (c_known14 W1 (hV.below bW) (hT.below bW)).mono ?_
  rintro v W2 ⟨rfl, b2⟩
  obtain ⟨kA, kB, w2⟩ := hBl W2 b2
  obtain ⟨pP, pf, pL, pg, pV, pT, pw⟩ := hQ W2 b2
  (refine Ga ?_)
  (apply Lst_call; (focus rfl); (focus rfl))
  refine (c_light14 P W0.heap.size a c W2 pP lP rawP).mono ?_
  rintro v W3 ⟨⟨t, rfl, liP⟩, h3⟩
  have b3 := b2.trans (h3.mono b2.size)
  obtain ⟨kA, kB, w3⟩ := hBl W3 b3
  obtain ⟨pP, pf, pL, pg, pV, pT, pw⟩ := hQ W3 b3
  cases t with
  | false =>
    (refine Ga ?_)
    (apply retQ1; (focus rfl))
    exact ⟨rfl, w3⟩
  | true =>
    have liP := liP rfl
    (refine Ga ?_)
    (apply Lst_call; (focus rfl); (focus rfl))
    refine (c_light14 L W0.heap.size a' c' W3 pL lL rawL).mono ?_
    rintro v W4 ⟨⟨t, rfl, liL⟩, h4⟩
    have b4 := b3.trans (h4.mono b3.size)
    obtain ⟨kA, kB, w4⟩ := hBl W4 b4
    obtain ⟨pP, pf, pL, pg, pV, pT, pw⟩ := hQ W4 b4
    cases t with
    | false =>
      (refine Ga ?_)
      (apply retQ1; (focus rfl))
      exact ⟨rfl, w4⟩
    | true =>
      have liL := liL rfl
      (refine Ga ?_)
      (apply Lst_call; (focus rfl); (focus rfl))
      refine (c_ents f.sz f (Nat.le_refl _) 0 W0.heap.size b d W4 (by decide) pf pw rawf lf).mono ?_
      rintro v W5 ⟨⟨N, rfl, hNb, hN⟩, h5⟩
      have b5 := b4.trans (h5.mono b4.size)
      obtain ⟨kA, kB, w5⟩ := hBl W5 b5
      obtain ⟨pP, pf, pL, pg, pV, pT, pw⟩ := hQ W5 b5
      by_cases hN3 : N ≤ 300
      · obtain ⟨hokf, hcf⟩ := hN hN3
        (refine Ga ?_)
        (apply Lst_call; (focus rfl); (focus rfl))
        refine (c_ents g.sz g (Nat.le_refl _) 0 W0.heap.size b' d' W5 (by decide) pg pw rawg lg).mono ?_
        rintro v X ⟨⟨M, rfl, hMb, hM⟩, h6⟩
        have bX := b5.trans (h6.mono b5.size)
        obtain ⟨kA, kB, wX⟩ := hBl X bX
        have lA := kA.lt
        have lB := kB.lt
        by_cases hM3 : M ≤ 300
        · obtain ⟨hokg, hcg⟩ := hM hM3
          have fitf := Ef.fit rawf (by omega)
          have fitg := Ef.fit rawg (by omega)
          have hfP := view_len liP rawf (by omega)
          have hfL := view_len liL rawg (by omega)
          have fiP := light_fit liP
          have fiL := light_fit liL
          have ftP : ∀ p ∈ P, FitL p.1 := fun p hp => fiP _ (List.mem_map_of_mem hp)
          have ftL : ∀ p ∈ L, FitL p.1 := fun p hp => fiL _ (List.mem_map_of_mem hp)
          have ftP1 : ∀ p ∈ P, FitT p.1 := fun p hp => (ftP p hp).fit
          have ftL1 : ∀ p ∈ L, FitT p.1 := fun p hp => (ftL p hp).fit
          have okP : ∀ p ∈ P, OkR p.1 := fun p hp => liP.ok _ (List.mem_map_of_mem hp)
          have nP := liP.len
          have nL := liL.len
          rw [List.length_map] at nP nL
          have lnP : P.length ≤ 1000000 := by omega
          have lnL : L.length ≤ 1000000 := by omega
          have lcP : P.length + (linesE [] f).length ≤ 100000 := by
            have h1 := lines_cnt f []
            have h2 := Ef.sz_cnt f
            omega
          have lcL : L.length + (linesE [] g).length ≤ 100000 := by
            have h1 := lines_cnt g []
            have h2 := Ef.sz_cnt g
            omega
          have hpP : (plainP (P.map Prod.fst)).length ≤ 1000000 := by
            have h1 := plain_wt (P.map Prod.fst)
            have h2 := liP.wt
            omega
          have toP := tot_wt P
          have wtP := liP.wt
          have leP := lenP_wt P
          (refine Ga ?_)
          refine W_drawS 6 (fun Y => Below X.heap.size X Y) rfl rfl ?_
          have hS : Below X.heap.size X X.drew := Below.drew (Below.refl _ _)
          generalize X.drew = Z1 at *
          refine S_takeV 0 5 rfl (by kernel_rfl) (by repeat (first | exact retQ_p | apply seqQ_p | apply blkQ_p | apply rndQ_p | apply cutQ_p)) hS ?_
          apply Qst_loadA
          focus rfl
          focus rfl
          focus rfl
          focus rfl
          focus rfl
          focus exact fun A9 hA9 => kA.below hA9 lA
          focus (repeat constructor)
          focus rfl
          (refine Qb ?_)
          refine S_takeV 2 4 rfl (by kernel_rfl) (by repeat (first | exact retQ_p | apply seqQ_p | apply blkQ_p | apply rndQ_p | apply cutQ_p)) hS ?_
          apply Qst_loadA
          focus rfl
          focus rfl
          focus rfl
          focus rfl
          focus rfl
          focus exact fun A9 hA9 => kB.below hA9 lB
          focus (repeat constructor)
          focus rfl
          (refine Qb ?_)
          refine S_any [1] 3 rfl (by kernel_rfl) (all1 ?_)
          obtain ⟨pPZ1, pfZ1, pLZ1, pgZ1, pVZ1, pTZ1, pwZ1⟩ := hQ Z1 (bX.trans (hS.mono bX.size))
          (apply Lst_call; (focus rfl); (focus rfl))
          refine (r_TextV P f W0.heap.size a b c d Z1 pwZ1 pPZ1 pfZ1 ftP fitf hokf lnP hfP).mono ?_
          rintro v Z2 ⟨rfl, hZ2⟩
          have hS2 := hS.trans (hZ2.mono hS.size)
          apply Lst_nil
          apply rnQ_n
          refine ⟨hS2, ?_⟩
          clear hS
          have hS := hS2
          clear hS2
          refine S_any [3] 2 rfl (by kernel_rfl) (all1 ?_)
          obtain ⟨pPZ2, pfZ2, pLZ2, pgZ2, pVZ2, pTZ2, pwZ2⟩ := hQ Z2 (bX.trans (hS.mono bX.size))
          (apply Lst_call; (focus rfl); (focus rfl))
          refine (r_TextV L g W0.heap.size a' b' c' d' Z2 pwZ2 pLZ2 pgZ2 ftL fitg hokg lnL hfL).mono ?_
          rintro v Z3 ⟨rfl, hZ3⟩
          have hS2 := hS.trans (hZ3.mono hS.size)
          apply Lst_nil
          apply rnQ_n
          refine ⟨hS2, ?_⟩
          clear hS
          have hS := hS2
          clear hS2
          refine S_takeV 4 1 rfl (by kernel_rfl) (by repeat (first | exact retQ_p | apply seqQ_p | apply blkQ_p | apply rndQ_p | apply cutQ_p)) hS ?_
          (refine Qb ?_)
          refine S_takeV 5 0 rfl (by kernel_rfl) (by repeat (first | exact retQ_p | apply seqQ_p | apply blkQ_p | apply rndQ_p | apply cutQ_p)) hS ?_
          (refine Qb ?_)
          refine S_done (by kernel_rfl) ?_
          (refine Ga ?_)
          have bY := bX.trans (hS.mono bX.size)
          obtain ⟨kC, kD, wY⟩ := hBl Z3 bY
          have lC := kC.lt
          have lD := kD.lt
          clear hS
          obtain ⟨Y0, hY0⟩ : ∃ Y0, Z3 = Y0 := ⟨_, rfl⟩
          rw [hY0] at bY kC kD wY lC lD ⊢
          by_cases heq : (linesV (P.map Prod.fst) f).flatten = (linesV (L.map Prod.fst) g).flatten
          · have hq2 : bs (linesV (P.map Prod.fst) f).flatten = bs (linesV (L.map Prod.fst) g).flatten := by rw [heq]
            refine W_drawS 30 (fun Y => Below Y0.heap.size Y0 Y) rfl rfl ?_
            have hS : Below Y0.heap.size Y0 Y0.drew := Below.drew (Below.refl _ _)
            generalize Y0.drew = Z1 at *
            refine S_takeV 0 29 rfl (by kernel_rfl) (by repeat (first | exact retQ_p | apply seqQ_p | apply blkQ_p | apply rndQ_p | apply cutQ_p)) hS ?_
            apply Qst_loadA
            focus rfl
            focus rfl
            focus rfl
            focus rfl
            focus rfl
            focus exact fun A9 hA9 => kC.below hA9 lC
            focus (repeat constructor)
            focus rfl
            (refine Qb ?_)
            refine S_takeV 2 28 rfl (by kernel_rfl) (by repeat (first | exact retQ_p | apply seqQ_p | apply blkQ_p | apply rndQ_p | apply cutQ_p)) hS ?_
            (refine Qb ?_)
            refine S_any [1] 27 rfl (by kernel_rfl) (all1 ?_)
            obtain ⟨pPZ1, pfZ1, pLZ1, pgZ1, pVZ1, pTZ1, pwZ1⟩ := hQ Z1 (bY.trans (hS.mono bY.size))
            (apply Lst_call; (focus rfl); (focus rfl))
            refine (c_TextV P f W0.heap.size a b c d Z1 pwZ1 pPZ1 pfZ1 ftP1 fitf lcP hfP pVZ1).mono ?_
            rintro v Z2 ⟨rfl, hZ2⟩
            have hS2 := hS.trans (hZ2.mono hS.size)
            apply Lst_nil
            apply rnQ_n
            refine ⟨hS2, ?_⟩
            clear hS
            have hS := hS2
            clear hS2
            refine S_takeV 3 26 rfl (by kernel_rfl) (by repeat (first | exact retQ_p | apply seqQ_p | apply blkQ_p | apply rndQ_p | apply cutQ_p)) hS ?_
            (refine Qb ?_)
            refine S_takeV 4 25 rfl (by kernel_rfl) (by repeat (first | exact retQ_p | apply seqQ_p | apply blkQ_p | apply rndQ_p | apply cutQ_p)) hS ?_
            (refine Qb ?_)
            refine S_takeV 5 24 rfl (by kernel_rfl) (by repeat (first | exact retQ_p | apply seqQ_p | apply blkQ_p | apply rndQ_p | apply cutQ_p)) hS ?_
            apply Qst_guard_t
            focus rfl
            focus rfl
            apply Qst_loadA
            focus rfl
            focus rfl
            focus rfl
            focus rfl
            focus rfl
            focus exact fun A9 hA9 => kC.below hA9 lC
            focus (repeat constructor)
            focus rfl
            (refine Qb ?_)
            refine S_takeV 6 23 rfl (by kernel_rfl) (by repeat (first | exact retQ_p | apply seqQ_p | apply blkQ_p | apply rndQ_p | apply cutQ_p)) hS ?_
            apply Qst_guard_t
            focus rfl
            focus rfl
            apply Qst_loadA
            focus rfl
            focus rfl
            focus rfl
            focus rfl
            focus rfl
            focus exact fun A9 hA9 => kD.below hA9 lD
            focus (repeat constructor)
            focus rfl
            (refine Qb ?_)
            refine S_takeV 8 22 rfl (by kernel_rfl) (by repeat (first | exact retQ_p | apply seqQ_p | apply blkQ_p | apply rndQ_p | apply cutQ_p)) hS ?_
            (refine Qb ?_)
            refine S_takeV 9 21 rfl (by kernel_rfl) (by repeat (first | exact retQ_p | apply seqQ_p | apply blkQ_p | apply rndQ_p | apply cutQ_p)) hS ?_
            (refine Qb ?_)
            refine S_takeV 10 20 rfl (by kernel_rfl) (by repeat (first | exact retQ_p | apply seqQ_p | apply blkQ_p | apply rndQ_p | apply cutQ_p)) hS ?_
            (refine Qb ?_)
            refine S_any [7] 19 rfl (by kernel_rfl) (all1 ?_)
            apply Lst_guard_t
            focus rfl
            focus rfl
            obtain ⟨pPZ2, pfZ2, pLZ2, pgZ2, pVZ2, pTZ2, pwZ2⟩ := hQ Z2 (bY.trans (hS.mono bY.size))
            (apply Lst_call; (focus rfl); (focus rfl))
            refine (c_SameV P L f g W0.heap.size a b a' b' c d c' d' Z2 pwZ2 pPZ2 pfZ2 ftP1 fitf lcP hfP pLZ2 pgZ2 ftL1 fitg lcL hfL pVZ2).mono ?_
            rintro v Z3 ⟨rfl, hZ3⟩
            have hS2 := hS.trans (hZ3.mono hS.size)
            rw [decide_eq_true heq]
            apply Lst_nil
            apply rnQ_n
            refine ⟨hS2, ?_⟩
            clear hS
            have hS := hS2
            clear hS2
            refine S_takeV 11 18 rfl (by kernel_rfl) (by repeat (first | exact retQ_p | apply seqQ_p | apply blkQ_p | apply rndQ_p | apply cutQ_p)) hS ?_
            (refine Qb ?_)
            refine S_takeV 12 17 rfl (by kernel_rfl) (by repeat (first | exact retQ_p | apply seqQ_p | apply blkQ_p | apply rndQ_p | apply cutQ_p)) hS ?_
            (refine Qb ?_)
            refine S_takeV 13 16 rfl (by kernel_rfl) (by repeat (first | exact retQ_p | apply seqQ_p | apply blkQ_p | apply rndQ_p | apply cutQ_p)) hS ?_
            (refine Qb ?_)
            refine S_takeV 14 15 rfl (by kernel_rfl) (by repeat (first | exact retQ_p | apply seqQ_p | apply blkQ_p | apply rndQ_p | apply cutQ_p)) hS ?_
            apply Qst_guard_t
            focus rfl
            focus rfl
            apply Qst_loadA
            focus rfl
            focus rfl
            focus rfl
            focus rfl
            focus rfl
            focus exact fun A9 hA9 => kC.below hA9 lC
            focus (repeat constructor)
            focus rfl
            (refine Qb ?_)
            refine S_takeV 16 14 rfl (by kernel_rfl) (by repeat (first | exact retQ_p | apply seqQ_p | apply blkQ_p | apply rndQ_p | apply cutQ_p)) hS ?_
            apply Qst_guard_t
            focus rfl
            focus rfl
            apply Qst_loadA
            focus rfl
            focus rfl
            focus rfl
            focus rfl
            focus rfl
            focus exact fun A9 hA9 => kC.below hA9 lC
            focus (repeat constructor)
            focus rfl
            (refine Qb ?_)
            refine S_any [15] 13 rfl (by kernel_rfl) (all1 ?_)
            apply Lst_guard_t
            focus rfl
            focus rfl
            obtain ⟨pPZ3, pfZ3, pLZ3, pgZ3, pVZ3, pTZ3, pwZ3⟩ := hQ Z3 (bY.trans (hS.mono bY.size))
            (apply Lst_call; (focus rfl); (focus rfl))
            refine (c_Plain P W0.heap.size a b c f.len d Z3 pPZ3 lnP hpP).mono ?_
            rintro v Z4 ⟨rfl, hZ4⟩
            have hS2 := hS.trans (hZ4.mono hS.size)
            apply Lst_nil
            apply rnQ_n
            refine ⟨hS2, ?_⟩
            clear hS
            have hS := hS2
            clear hS2
            refine S_any [17] 12 rfl (by kernel_rfl) (all1 ?_)
            apply Lst_guard_t
            focus rfl
            focus rfl
            obtain ⟨pPZ4, pfZ4, pLZ4, pgZ4, pVZ4, pTZ4, pwZ4⟩ := hQ Z4 (bY.trans (hS.mono bY.size))
            (apply Lst_call; (focus rfl); (focus rfl))
            refine (r_PlainV P f W0.heap.size a b c d Z4 pwZ4 pPZ4 pfZ4 lnP hpP).mono ?_
            rintro v Z5 ⟨rfl, hZ5⟩
            have hS2 := hS.trans (hZ5.mono hS.size)
            apply Lst_nil
            apply rnQ_n
            refine ⟨hS2, ?_⟩
            clear hS
            have hS := hS2
            clear hS2
            refine S_takeV 18 11 rfl (by kernel_rfl) (by repeat (first | exact retQ_p | apply seqQ_p | apply blkQ_p | apply rndQ_p | apply cutQ_p)) hS ?_
            (refine Qb ?_)
            refine S_takeV 19 10 rfl (by kernel_rfl) (by repeat (first | exact retQ_p | apply seqQ_p | apply blkQ_p | apply rndQ_p | apply cutQ_p)) hS ?_
            (refine Qb ?_)
            refine S_takeV 20 9 rfl (by kernel_rfl) (by repeat (first | exact retQ_p | apply seqQ_p | apply blkQ_p | apply rndQ_p | apply cutQ_p)) hS ?_
            (refine Qb ?_)
            refine S_takeV 21 8 rfl (by kernel_rfl) (by repeat (first | exact retQ_p | apply seqQ_p | apply blkQ_p | apply rndQ_p | apply cutQ_p)) hS ?_
            apply Qst_guard_t
            focus rfl
            focus rfl
            apply Qst_loadA
            focus rfl
            focus rfl
            focus rfl
            focus rfl
            focus rfl
            focus exact fun A9 hA9 => kC.below hA9 lC
            focus (repeat constructor)
            focus rfl
            (refine Qb ?_)
            refine S_takeV 23 7 rfl (by kernel_rfl) (by repeat (first | exact retQ_p | apply seqQ_p | apply blkQ_p | apply rndQ_p | apply cutQ_p)) hS ?_
            (refine Qb ?_)
            refine S_takeV 24 6 rfl (by kernel_rfl) (by repeat (first | exact retQ_p | apply seqQ_p | apply blkQ_p | apply rndQ_p | apply cutQ_p)) hS ?_
            apply Qst_guard_t
            focus rfl
            focus rfl
            apply Qst_load
            focus rfl
            focus rfl
            focus rfl
            focus exact fun A9 hA9 => kC.below hA9 lC
            focus rfl
            focus rfl
            (refine Qb ?_)
            refine S_any [22] 5 rfl (by kernel_rfl) (all1 ?_)
            apply Lst_guard_t
            focus rfl
            focus rfl
            obtain ⟨pPZ5, pfZ5, pLZ5, pgZ5, pVZ5, pTZ5, pwZ5⟩ := hQ Z5 (bY.trans (hS.mono bY.size))
            (apply Lst_call; (focus rfl); (focus rfl))
            refine (c_LenV P W0.heap.size a b c f.len d lnP (fun p hp => Nat.le_trans (tot_mem hp) (by omega)) (by omega) Z5 pTZ5 pPZ5).mono ?_
            rintro v Z6 ⟨rfl, hZ6⟩
            have hS2 := hS.trans (hZ6.mono hS.size)
            apply Lst_nil
            apply rnQ_n
            refine ⟨hS2, ?_⟩
            clear hS
            have hS := hS2
            clear hS2
            refine S_any [25] 4 rfl (by kernel_rfl) (all1 ?_)
            apply Lst_guard_t
            focus rfl
            focus rfl
            obtain ⟨pPZ6, pfZ6, pLZ6, pgZ6, pVZ6, pTZ6, pwZ6⟩ := hQ Z6 (bY.trans (hS.mono bY.size))
            (apply Lst_call; (focus rfl); (focus rfl))
            refine (r_Units P W0.heap.size a c Z6 pwZ6 pPZ6 okP (by omega) (by omega)).mono ?_
            rintro v Z7 ⟨hoU, hZ7⟩
            have hS2 := hS.trans (hZ7.mono hS.size)
            obtain ⟨u1, u3, rfl, _⟩ := hoU.form
            rw [flat_len2]
            apply Lst_nil
            apply rnQ_n
            refine ⟨hS2, ?_⟩
            clear hS
            have hS := hS2
            clear hS2
            refine S_takeL 26 3 rfl (by kernel_rfl) (by repeat (first | exact retQ_p | apply seqQ_p | apply blkQ_p | apply rndQ_p | apply cutQ_p)) hS ?_
            (refine Qb ?_)
            refine S_takeV 27 2 rfl (by kernel_rfl) (by repeat (first | exact retQ_p | apply seqQ_p | apply blkQ_p | apply rndQ_p | apply cutQ_p)) hS ?_
            (refine Qb ?_)
            refine S_takeV 28 1 rfl (by kernel_rfl) (by repeat (first | exact retQ_p | apply seqQ_p | apply blkQ_p | apply rndQ_p | apply cutQ_p)) hS ?_
            (refine Qb ?_)
            refine S_takeV 29 0 rfl (by kernel_rfl) (by repeat (first | exact retQ_p | apply seqQ_p | apply blkQ_p | apply rndQ_p | apply cutQ_p)) hS ?_
            (refine Qb ?_)
            refine S_done (by kernel_rfl) ?_
            (refine Ga ?_)
            (apply retQ1; (focus rfl))
            exact ⟨rfl, bW.trans ((bY.trans (hS.mono bY.size)).mono sW)⟩
          · have hq2 : bs (linesV (P.map Prod.fst) f).flatten ≠ bs (linesV (L.map Prod.fst) g).flatten := fun e => heq (by
              have := congrArg (fun s => s.data.toList) e
              simpa using this)
            refine W_drawS 30 (fun Y => Below Y0.heap.size Y0 Y) rfl rfl ?_
            have hS : Below Y0.heap.size Y0 Y0.drew := Below.drew (Below.refl _ _)
            generalize Y0.drew = Z1 at *
            refine S_takeV 0 29 rfl (by kernel_rfl) (by repeat (first | exact retQ_p | apply seqQ_p | apply blkQ_p | apply rndQ_p | apply cutQ_p)) hS ?_
            apply Qst_loadA
            focus rfl
            focus rfl
            focus rfl
            focus rfl
            focus rfl
            focus exact fun A9 hA9 => kC.below hA9 lC
            focus (repeat constructor)
            focus rfl
            (refine Qb ?_)
            refine S_takeV 2 28 rfl (by kernel_rfl) (by repeat (first | exact retQ_p | apply seqQ_p | apply blkQ_p | apply rndQ_p | apply cutQ_p)) hS ?_
            (refine Qb ?_)
            refine S_any [1] 27 rfl (by kernel_rfl) (all1 ?_)
            obtain ⟨pPZ1, pfZ1, pLZ1, pgZ1, pVZ1, pTZ1, pwZ1⟩ := hQ Z1 (bY.trans (hS.mono bY.size))
            (apply Lst_call; (focus rfl); (focus rfl))
            refine (c_TextV P f W0.heap.size a b c d Z1 pwZ1 pPZ1 pfZ1 ftP1 fitf lcP hfP pVZ1).mono ?_
            rintro v Z2 ⟨rfl, hZ2⟩
            have hS2 := hS.trans (hZ2.mono hS.size)
            apply Lst_nil
            apply rnQ_n
            refine ⟨hS2, ?_⟩
            clear hS
            have hS := hS2
            clear hS2
            refine S_takeV 3 26 rfl (by kernel_rfl) (by repeat (first | exact retQ_p | apply seqQ_p | apply blkQ_p | apply rndQ_p | apply cutQ_p)) hS ?_
            (refine Qb ?_)
            refine S_takeV 4 25 rfl (by kernel_rfl) (by repeat (first | exact retQ_p | apply seqQ_p | apply blkQ_p | apply rndQ_p | apply cutQ_p)) hS ?_
            (refine Qb ?_)
            refine S_takeV 5 24 rfl (by kernel_rfl) (by repeat (first | exact retQ_p | apply seqQ_p | apply blkQ_p | apply rndQ_p | apply cutQ_p)) hS ?_
            apply Qst_guard_t
            focus rfl
            focus rfl
            apply Qst_loadA
            focus rfl
            focus rfl
            focus rfl
            focus rfl
            focus rfl
            focus exact fun A9 hA9 => kC.below hA9 lC
            focus (repeat constructor)
            focus rfl
            (refine Qb ?_)
            refine S_takeV 6 23 rfl (by kernel_rfl) (by repeat (first | exact retQ_p | apply seqQ_p | apply blkQ_p | apply rndQ_p | apply cutQ_p)) hS ?_
            apply Qst_guard_t
            focus rfl
            focus rfl
            apply Qst_loadA
            focus rfl
            focus rfl
            focus rfl
            focus rfl
            focus rfl
            focus exact fun A9 hA9 => kD.below hA9 lD
            focus (repeat constructor)
            focus rfl
            (refine Qb ?_)
            refine S_takeV 8 22 rfl (by kernel_rfl) (by repeat (first | exact retQ_p | apply seqQ_p | apply blkQ_p | apply rndQ_p | apply cutQ_p)) hS ?_
            (refine Qb ?_)
            refine S_takeV 9 21 rfl (by kernel_rfl) (by repeat (first | exact retQ_p | apply seqQ_p | apply blkQ_p | apply rndQ_p | apply cutQ_p)) hS ?_
            (refine Qb ?_)
            refine S_takeV 10 20 rfl (by kernel_rfl) (by repeat (first | exact retQ_p | apply seqQ_p | apply blkQ_p | apply rndQ_p | apply cutQ_p)) hS ?_
            (refine Qb ?_)
            refine S_any [7] 19 rfl (by kernel_rfl) (all1 ?_)
            apply Lst_guard_t
            focus rfl
            focus rfl
            obtain ⟨pPZ2, pfZ2, pLZ2, pgZ2, pVZ2, pTZ2, pwZ2⟩ := hQ Z2 (bY.trans (hS.mono bY.size))
            (apply Lst_call; (focus rfl); (focus rfl))
            refine (c_SameV P L f g W0.heap.size a b a' b' c d c' d' Z2 pwZ2 pPZ2 pfZ2 ftP1 fitf lcP hfP pLZ2 pgZ2 ftL1 fitg lcL hfL pVZ2).mono ?_
            rintro v Z3 ⟨rfl, hZ3⟩
            have hS2 := hS.trans (hZ3.mono hS.size)
            rw [decide_eq_false heq]
            apply Lst_nil
            apply rnQ_n
            refine ⟨hS2, ?_⟩
            clear hS
            have hS := hS2
            clear hS2
            refine S_takeV 11 18 rfl (by kernel_rfl) (by repeat (first | exact retQ_p | apply seqQ_p | apply blkQ_p | apply rndQ_p | apply cutQ_p)) hS ?_
            (refine Qb ?_)
            refine S_takeV 12 17 rfl (by kernel_rfl) (by repeat (first | exact retQ_p | apply seqQ_p | apply blkQ_p | apply rndQ_p | apply cutQ_p)) hS ?_
            (refine Qb ?_)
            refine S_takeV 13 16 rfl (by kernel_rfl) (by repeat (first | exact retQ_p | apply seqQ_p | apply blkQ_p | apply rndQ_p | apply cutQ_p)) hS ?_
            (refine Qb ?_)
            refine S_takeV 14 15 rfl (by kernel_rfl) (by repeat (first | exact retQ_p | apply seqQ_p | apply blkQ_p | apply rndQ_p | apply cutQ_p)) hS ?_
            apply Qst_guard_t
            focus rfl
            focus rfl
            apply Qst_loadA
            focus rfl
            focus rfl
            focus rfl
            focus rfl
            focus rfl
            focus exact fun A9 hA9 => kC.below hA9 lC
            focus (repeat constructor)
            focus rfl
            (refine Qb ?_)
            refine S_takeV 16 14 rfl (by kernel_rfl) (by repeat (first | exact retQ_p | apply seqQ_p | apply blkQ_p | apply rndQ_p | apply cutQ_p)) hS ?_
            apply Qst_guard_t
            focus rfl
            focus rfl
            apply Qst_loadA
            focus rfl
            focus rfl
            focus rfl
            focus rfl
            focus rfl
            focus exact fun A9 hA9 => kC.below hA9 lC
            focus (repeat constructor)
            focus rfl
            (refine Qb ?_)
            refine S_any [15] 13 rfl (by kernel_rfl) (all1 ?_)
            apply Lst_guard_t
            focus rfl
            focus rfl
            obtain ⟨pPZ3, pfZ3, pLZ3, pgZ3, pVZ3, pTZ3, pwZ3⟩ := hQ Z3 (bY.trans (hS.mono bY.size))
            (apply Lst_call; (focus rfl); (focus rfl))
            refine (c_Plain P W0.heap.size a b c f.len d Z3 pPZ3 lnP hpP).mono ?_
            rintro v Z4 ⟨rfl, hZ4⟩
            have hS2 := hS.trans (hZ4.mono hS.size)
            apply Lst_nil
            apply rnQ_n
            refine ⟨hS2, ?_⟩
            clear hS
            have hS := hS2
            clear hS2
            refine S_any [17] 12 rfl (by kernel_rfl) (all1 ?_)
            apply Lst_guard_t
            focus rfl
            focus rfl
            obtain ⟨pPZ4, pfZ4, pLZ4, pgZ4, pVZ4, pTZ4, pwZ4⟩ := hQ Z4 (bY.trans (hS.mono bY.size))
            (apply Lst_call; (focus rfl); (focus rfl))
            refine (r_PlainV P f W0.heap.size a b c d Z4 pwZ4 pPZ4 pfZ4 lnP hpP).mono ?_
            rintro v Z5 ⟨rfl, hZ5⟩
            have hS2 := hS.trans (hZ5.mono hS.size)
            apply Lst_nil
            apply rnQ_n
            refine ⟨hS2, ?_⟩
            clear hS
            have hS := hS2
            clear hS2
            refine S_takeV 18 11 rfl (by kernel_rfl) (by repeat (first | exact retQ_p | apply seqQ_p | apply blkQ_p | apply rndQ_p | apply cutQ_p)) hS ?_
            (refine Qb ?_)
            refine S_takeV 19 10 rfl (by kernel_rfl) (by repeat (first | exact retQ_p | apply seqQ_p | apply blkQ_p | apply rndQ_p | apply cutQ_p)) hS ?_
            (refine Qb ?_)
            refine S_takeV 20 9 rfl (by kernel_rfl) (by repeat (first | exact retQ_p | apply seqQ_p | apply blkQ_p | apply rndQ_p | apply cutQ_p)) hS ?_
            (refine Qb ?_)
            refine S_takeV 21 8 rfl (by kernel_rfl) (by repeat (first | exact retQ_p | apply seqQ_p | apply blkQ_p | apply rndQ_p | apply cutQ_p)) hS ?_
            apply Qst_guard_t
            focus rfl
            focus rfl
            apply Qst_loadA
            focus rfl
            focus rfl
            focus rfl
            focus rfl
            focus rfl
            focus exact fun A9 hA9 => kC.below hA9 lC
            focus (repeat constructor)
            focus rfl
            (refine Qb ?_)
            refine S_takeV 23 7 rfl (by kernel_rfl) (by repeat (first | exact retQ_p | apply seqQ_p | apply blkQ_p | apply rndQ_p | apply cutQ_p)) hS ?_
            (refine Qb ?_)
            refine S_takeV 24 6 rfl (by kernel_rfl) (by repeat (first | exact retQ_p | apply seqQ_p | apply blkQ_p | apply rndQ_p | apply cutQ_p)) hS ?_
            apply Qst_guard_t
            focus rfl
            focus rfl
            apply Qst_load
            focus rfl
            focus rfl
            focus rfl
            focus exact fun A9 hA9 => kC.below hA9 lC
            focus rfl
            focus rfl
            (refine Qb ?_)
            refine S_any [22] 5 rfl (by kernel_rfl) (all1 ?_)
            apply Lst_guard_t
            focus rfl
            focus rfl
            obtain ⟨pPZ5, pfZ5, pLZ5, pgZ5, pVZ5, pTZ5, pwZ5⟩ := hQ Z5 (bY.trans (hS.mono bY.size))
            (apply Lst_call; (focus rfl); (focus rfl))
            refine (c_LenV P W0.heap.size a b c f.len d lnP (fun p hp => Nat.le_trans (tot_mem hp) (by omega)) (by omega) Z5 pTZ5 pPZ5).mono ?_
            rintro v Z6 ⟨rfl, hZ6⟩
            have hS2 := hS.trans (hZ6.mono hS.size)
            apply Lst_nil
            apply rnQ_n
            refine ⟨hS2, ?_⟩
            clear hS
            have hS := hS2
            clear hS2
            refine S_any [25] 4 rfl (by kernel_rfl) (all1 ?_)
            apply Lst_guard_t
            focus rfl
            focus rfl
            obtain ⟨pPZ6, pfZ6, pLZ6, pgZ6, pVZ6, pTZ6, pwZ6⟩ := hQ Z6 (bY.trans (hS.mono bY.size))
            (apply Lst_call; (focus rfl); (focus rfl))
            refine (r_Units P W0.heap.size a c Z6 pwZ6 pPZ6 okP (by omega) (by omega)).mono ?_
            rintro v Z7 ⟨hoU, hZ7⟩
            have hS2 := hS.trans (hZ7.mono hS.size)
            obtain ⟨u1, u3, rfl, _⟩ := hoU.form
            rw [flat_len2]
            apply Lst_nil
            apply rnQ_n
            refine ⟨hS2, ?_⟩
            clear hS
            have hS := hS2
            clear hS2
            refine S_takeL 26 3 rfl (by kernel_rfl) (by repeat (first | exact retQ_p | apply seqQ_p | apply blkQ_p | apply rndQ_p | apply cutQ_p)) hS ?_
            (refine Qb ?_)
            refine S_takeV 27 2 rfl (by kernel_rfl) (by repeat (first | exact retQ_p | apply seqQ_p | apply blkQ_p | apply rndQ_p | apply cutQ_p)) hS ?_
            (refine Qb ?_)
            refine S_takeV 28 1 rfl (by kernel_rfl) (by repeat (first | exact retQ_p | apply seqQ_p | apply blkQ_p | apply rndQ_p | apply cutQ_p)) hS ?_
            (refine Qb ?_)
            refine S_takeV 29 0 rfl (by kernel_rfl) (by repeat (first | exact retQ_p | apply seqQ_p | apply blkQ_p | apply rndQ_p | apply cutQ_p)) hS ?_
            (refine Qb ?_)
            refine S_done (by kernel_rfl) ?_
            (refine Ga ?_)
            (apply retQ1; (focus rfl))
            exact ⟨rfl, bW.trans ((bY.trans (hS.mono bY.size)).mono sW)⟩
        · (refine Ga ?_)
          (apply retQ1; (focus rfl))
          exact ⟨rfl, wX⟩
      · (refine Ga ?_)
        (apply retQ1; (focus rfl))
        exact ⟨rfl, w5⟩
end
end Vw
end Go.Proofs.YtglfoofclicfpaaDoor
