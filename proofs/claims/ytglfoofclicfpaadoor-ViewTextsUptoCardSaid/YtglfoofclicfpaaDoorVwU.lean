/- The text of a view. -/
import Derived.Test.YtglfoofclicfpaaDoorVwT
namespace Go.Proofs.YtglfoofclicfpaaDoor
set_option maxRecDepth 100000
namespace Vw
open Go Go.RowKit Sx Tl Fl Val Mk
open Utf (rs tl Tabs cutS)
/-- Bounds within which a run is told. -/
structure FitT (r : Rn) : Prop where
  v : r.v.Fit
  vs : r.v.s.size < 1000000
  tx : r.tx.size < 1000000
  ms : ∀ q ∈ r.ms, q.1.size < 1000000 ∧ q.2.Fit ∧ q.2.s.size < 1000000
  ml : r.ms.length ≤ 100000
def linesV (L : List Rn) (f : Ef) : List (List UInt8) := L.map lineR ++ linesE [] f
theorem marks_len (l : List Mk) : (l.flatMap markP).length = 4 * l.length := by
  induction l with
  | nil => rfl
  | cons q l ih =>
    rw [List.flatMap_cons, List.length_append, ih, List.length_cons]
    show 4 + _ = _
    omega
theorem MkO.at {A c j : Nat} {w : World} {a : Option Addr} {ms : List Mk} (h : MkO A w (.slice a ms.length c) ms) (hj : j < ms.length) : ∃ g off, a = some ⟨g, off, none⟩ ∧ g < w.heap.size ∧ ∀ k u, (mcs ms[j])[k]? = some u → w.cell? ⟨g, off + j * 5 + k, none⟩ = some u := by
  rcases h with ⟨rfl, _⟩ | ⟨_, h, _⟩
  · exact absurd hj (Nat.not_lt_zero _)
  · obtain ⟨g, off, h1, h2, h3⟩ := h.at (i := j) (by rw [List.length_map]; exact hj)
    exact ⟨g, off, h1, h2, fun k u hu => h3 k u (by rw [List.getElem_map]; exact hu)⟩
theorem headP_len (r : Rn) : (headP r).length = 2 := by unfold headP; split <;> rfl
theorem flat_mem_le {L : List (List UInt8)} {l : List UInt8} (h : l ∈ L) : l.length ≤ L.flatten.length := by
  induction L with
  | nil => exact absurd h List.not_mem_nil
  | cons x L ih =>
    rw [List.flatten_cons, List.length_append]
    rcases List.mem_cons.1 h with rfl | h
    · omega
    · have := ih h
      omega
section
attribute [local irreducible] RnS RnT
attribute [local irreducible] W Lst Qst Pu seqQ blkQ rndQ cutQ retQ Does Enters IntKind.wrap bits sb World.alloc World.putObj Blk
set_option maxHeartbeats 16000000 in
theorem c_Lines (P : List Rv) (f : Ef) (A : Nat) (a b : Option Addr) (c d : Nat) (w : World) (hA : A ≤ w.heap.size) (h : RunS A w (.slice a P.length c) P) (he : EntAt A w b 0 f) (ok : ∀ p ∈ P, FitT p.1) (hfit : f.Fit) (hlen : P.length + (linesE [] f).length ≤ 100000) (hflat : (linesV (P.map Prod.fst) f).flatten.length ≤ 1000000) (hV : VTabs w) : Does Tryd.prog 23 #[.agg #[.slice a P.length c, .slice b f.len d]] w fun v w' => OwnT w.heap.size w' v (linesV (P.map Prod.fst) f) ∧ Below w.heap.size w w' := by
  refine Does_of (args := [.agg #[.slice a P.length c, .slice b f.len d]]) Tryd.func23 (by kernel_rfl) rfl rfl rfl rfl rfl ?_
  (refine Ga ?_)
  refine W_abs (fun E => Below w.heap.size w E ∧ Blk E w.heap.size [.slice a P.length c, .slice b f.len d] 25) ⟨Bel, (by (repeat (first | assumption | (apply Blk.below (hb := hb1); rotate_left; (focus ((try simp only [Sx.sizes]); omega)); rotate_right) | (apply Blk.below (hb := hb2); rotate_left; (focus ((try simp only [Sx.sizes]); omega)); rotate_right) | (apply Blk.below (hb := hb3); rotate_left; (focus ((try simp only [Sx.sizes]); omega)); rotate_right) | (apply Blk.below (hb := hb4); rotate_left; (focus ((try simp only [Sx.sizes]); omega)); rotate_right) | (apply Blk.below (hb := hb5); rotate_left; (focus ((try simp only [Sx.sizes]); omega)); rotate_right) | (apply Blk.below (hb := hb6); rotate_left; (focus ((try simp only [Sx.sizes]); omega)); rotate_right) | (apply Blk.below (hb := hb7); rotate_left; (focus ((try simp only [Sx.sizes]); omega)); rotate_right) | (apply Blk.below (hb := hb8); rotate_left; (focus ((try simp only [Sx.sizes]); omega)); rotate_right) | (apply Blk.below (hb := hb9); rotate_left; (focus ((try simp only [Sx.sizes]); omega)); rotate_right) | exact Blk.newE (by first | rfl | ((try simp only [Sx.sizes]); first | done | omega)) _ _ | exact Blk.put_same (by (try simp only [Sx.sizes]); first | done | omega) _ _ | (apply Blk.put_ne; (focus omega)) | apply Blk.alloc | apply Blk.drew)); done)⟩ ?_
  rintro W0 ⟨bW0, kW0⟩
  have sW0 := bW0.size
  have lW0 := kW0.lt
  have hW := h.below bW0
  have heW := he.below (bW0.mono hA)
  have hVW := hV.below bW0
  obtain ⟨b0, hb0⟩ : ∃ n, w.heap.size = n := ⟨_, rfl⟩
  rw [hb0] at kW0 lW0 ⊢
  have hAW : A ≤ W0.heap.size := Nat.le_trans hA sW0
  have hfl : ((P.map Prod.fst).map lineR).flatten.length + (linesE [] f).flatten.length ≤ 1000000 := by
    unfold linesV at hflat
    rw [List.flatten_append, List.length_append] at hflat
    exact hflat
  have hfi : ∀ i, i < P.length → (((P.take i).map Prod.fst).map lineR).flatten.length ≤ 1000000 := fun i _ => by
    have e : ((P.map Prod.fst).map lineR) = ((P.take i).map Prod.fst).map lineR ++ ((P.drop i).map Prod.fst).map lineR := by rw [← List.map_append, ← List.map_append, List.take_append_drop]
    rw [e, List.flatten_append, List.length_append] at hfl
    omega
  clear h he hV
  refine W_loop (α := Nat × Value) (fun x => [(1, .pointer (some ⟨b0, 0, none⟩)), (3, x.2), (10, .slice a P.length c), (11, .int .i64 (P.length : Int)), (12, .int .i64 (x.1 : Int))])
    (fun x X => x.1 ≤ P.length ∧ OwnT W0.heap.size X x.2 (((P.take x.1).map Prod.fst).map lineR) ∧ Below W0.heap.size W0 X) (fun x _ => P.length - x.1) (0, .slice none 0 0) ⟨Nat.zero_le _, OwnT.nil _ _, Below.refl _ _⟩ ⟨rfl, rfl, rfl, rfl, rfl, trivial⟩ ?_
  rintro J ⟨i, v⟩ X ⟨hi, hoX, bX⟩
  dsimp only at hi hoX bX ⊢
  have sX := bX.size
  have kX := kW0.below bX lW0
  obtain ⟨v1, v2, v3, rfl⟩ := own_slice hoX
  by_cases hil : i < P.length
  · have hX := hW.below bX
    obtain ⟨g, off, rfl, _, hc⟩ := hX.at hil
    have hmk := hX.mks _ (List.getElem_mem hil)
    have hok := ok _ (List.getElem_mem hil)
    have hli : (lineR P[i].1).length ≤ 1000000 := by
      have e : lineR P[i].1 ∈ (P.map Prod.fst).map lineR := List.mem_map_of_mem (List.mem_map_of_mem (List.getElem_mem hil))
      have := flat_mem_le e
      omega
    have hta : ((P.take (i + 1)).map Prod.fst).map lineR = ((P.take i).map Prod.fst).map lineR ++ [lineR P[i].1] := by rw [List.take_succ_eq_append_getElem hil, List.map_append, List.map_append]; rfl
    obtain ⟨p, hp⟩ : ∃ p, P[i] = p := ⟨_, rfl⟩
    rw [hp] at hc hmk hok hli hta
    obtain ⟨r, mv⟩ := p
    obtain ⟨ma, mc, hme⟩ := hmk.form
    dsimp only at hme hok hmk hli hta
    subst hme
    (refine Ga ?_)
    apply Lst_pu
    · apply P_idxm (j := i) (sz := 7)
      focus rfl
      focus rfl
      focus rfl
      focus rfl
      focus rfl
      focus omega
    focus rfl
    (refine Ga ?_)
    apply Lst_loadS' (cs := pcs (r, .slice ma r.ms.length mc))
    focus rfl
    focus rfl
    focus rfl
    focus rfl
    focus rfl
    focus exact hc
    focus rfl
    unfold pcs rcs
    dsimp only
    (refine Ga ?_)
    refine Lst_abs (fun E => Below X.heap.size X E ∧ Blk E X.heap.size (pcs (r, .slice ma r.ms.length mc)) 40) ⟨Bel, by unfold pcs rcs; dsimp only; exact (by (repeat (first | assumption | (apply Blk.below (hb := hb1); rotate_left; (focus ((try simp only [Sx.sizes]); omega)); rotate_right) | (apply Blk.below (hb := hb2); rotate_left; (focus ((try simp only [Sx.sizes]); omega)); rotate_right) | (apply Blk.below (hb := hb3); rotate_left; (focus ((try simp only [Sx.sizes]); omega)); rotate_right) | (apply Blk.below (hb := hb4); rotate_left; (focus ((try simp only [Sx.sizes]); omega)); rotate_right) | (apply Blk.below (hb := hb5); rotate_left; (focus ((try simp only [Sx.sizes]); omega)); rotate_right) | (apply Blk.below (hb := hb6); rotate_left; (focus ((try simp only [Sx.sizes]); omega)); rotate_right) | (apply Blk.below (hb := hb7); rotate_left; (focus ((try simp only [Sx.sizes]); omega)); rotate_right) | (apply Blk.below (hb := hb8); rotate_left; (focus ((try simp only [Sx.sizes]); omega)); rotate_right) | (apply Blk.below (hb := hb9); rotate_left; (focus ((try simp only [Sx.sizes]); omega)); rotate_right) | exact Blk.newE (by first | rfl | ((try simp only [Sx.sizes]); first | done | omega)) _ _ | exact Blk.put_same (by (try simp only [Sx.sizes]); first | done | omega) _ _ | (apply Blk.put_ne; (focus omega)) | apply Blk.alloc | apply Blk.drew)); done)⟩ ?_
    rintro E ⟨hE, kE⟩
    have bE := bX.trans (hE.mono sX)
    have lE := kE.lt
    (apply Lst_call; (focus rfl); (focus rfl))
    refine (c_Quote r.tx hok.tx E).mono ?_
    rintro v V ⟨rfl, hV⟩
    have hXV := hE.trans (hV.mono hE.size)
    have bV := bX.trans (hXV.mono sX)
    have sV := bV.size
    have kV := kE.below hV lE
    have hoV := hoX.below hXV
    have hmV := hmk.below hXV
    have vV := kX.below hXV kX.lt
    have hT2 : ∀ Y, Below V.heap.size V Y → VTabs Y := fun Y hY => hVW.below (bV.trans (hY.mono sV))
    obtain ⟨bo, hbo⟩ : ∃ n, X.heap.size = n := ⟨_, rfl⟩
    rw [hbo] at kV kE ⊢
    have hboV : bo < V.heap.size := kV.lt
    have kV' := kV
    unfold pcs rcs at kV
    dsimp only at kV
    clear hc hX hE hV bE hXV hoX hmk kE lE
    (refine Ga ?_)
    (apply Lst_slit; (focus rfl); (focus rfl); (focus rfl); (focus rfl); (focus rfl); (focus rfl); (focus rfl); (focus rfl); (focus rfl); (focus (repeat (first | apply FillO.nil | (apply FillO.cons; (focus constructor); (focus rfl); (focus rfl); (focus (repeat constructor)))))); (focus ((try simp only [Sx.sizes]); first | done | rfl)); (focus rfl))
    refine Lst_abs (fun O => Below V.heap.size V O ∧ Blk O V.heap.size ((([[116, 32], Hex.quote r.tx.data.toList] : List (List UInt8)).map fun l => .string (bs l))) 9) ⟨Bel, (by (repeat (first | assumption | (apply Blk.below (hb := hb1); rotate_left; (focus ((try simp only [Sx.sizes]); omega)); rotate_right) | (apply Blk.below (hb := hb2); rotate_left; (focus ((try simp only [Sx.sizes]); omega)); rotate_right) | (apply Blk.below (hb := hb3); rotate_left; (focus ((try simp only [Sx.sizes]); omega)); rotate_right) | (apply Blk.below (hb := hb4); rotate_left; (focus ((try simp only [Sx.sizes]); omega)); rotate_right) | (apply Blk.below (hb := hb5); rotate_left; (focus ((try simp only [Sx.sizes]); omega)); rotate_right) | (apply Blk.below (hb := hb6); rotate_left; (focus ((try simp only [Sx.sizes]); omega)); rotate_right) | (apply Blk.below (hb := hb7); rotate_left; (focus ((try simp only [Sx.sizes]); omega)); rotate_right) | (apply Blk.below (hb := hb8); rotate_left; (focus ((try simp only [Sx.sizes]); omega)); rotate_right) | (apply Blk.below (hb := hb9); rotate_left; (focus ((try simp only [Sx.sizes]); omega)); rotate_right) | exact Blk.newE (by first | rfl | ((try simp only [Sx.sizes]); first | done | omega)) _ _ | exact Blk.put_same (by (try simp only [Sx.sizes]); first | done | omega) _ _ | (apply Blk.put_ne; (focus omega)) | apply Blk.alloc | apply Blk.drew)); done)⟩ ?_
    rintro O ⟨hO, kO⟩
    (first | (apply W_seq) | (apply W_region) | (apply W_block) | (apply W_skip) | (apply W_ret) | (apply W_exit) | (apply W_cond_t; (focus rfl)) | (apply W_cond_f; (focus rfl)) | (apply Lst_nil) | (apply seqQ_n) | (apply seqQ_r) | (apply seqQ_e) | (apply blkQ_n) | (apply blkQ_r) | (apply blkQ_e) | (apply blkQ_o; (focus rfl)) | (apply rndQ_r) | (apply rndQ_e) | (apply cutQ_r) | (apply cutQ_e) | (apply Lst_guard_t; (focus rfl); (focus rfl)) | (apply Lst_guard_f; (focus rfl); (focus rfl); (focus rfl); (focus rfl)) | (apply Lst_guard_u; (focus rfl); (focus rfl); (focus rfl)) | (apply Lst_rangeS; (focus rfl); (focus rfl); (focus ((try simp only [Sx.sizes]); first | done | rfl)); (focus rfl)) | (apply Lst_alloc; (focus rfl); (focus rfl); (focus rfl); (focus ((try simp only [Sx.sizes]); first | done | rfl)); (focus rfl)) | (apply Lst_box; (focus constructor); (focus rfl); (focus ((try simp only [Sx.sizes]); first | done | rfl)); (focus rfl)) | (apply Lst_load; (focus rfl); (focus rfl); (focus rfl); (focus ((repeat (first | assumption | (apply Blk.below (hb := hb1); rotate_left; (focus ((try simp only [Sx.sizes]); omega)); rotate_right) | (apply Blk.below (hb := hb2); rotate_left; (focus ((try simp only [Sx.sizes]); omega)); rotate_right) | (apply Blk.below (hb := hb3); rotate_left; (focus ((try simp only [Sx.sizes]); omega)); rotate_right) | (apply Blk.below (hb := hb4); rotate_left; (focus ((try simp only [Sx.sizes]); omega)); rotate_right) | (apply Blk.below (hb := hb5); rotate_left; (focus ((try simp only [Sx.sizes]); omega)); rotate_right) | (apply Blk.below (hb := hb6); rotate_left; (focus ((try simp only [Sx.sizes]); omega)); rotate_right) | (apply Blk.below (hb := hb7); rotate_left; (focus ((try simp only [Sx.sizes]); omega)); rotate_right) | (apply Blk.below (hb := hb8); rotate_left; (focus ((try simp only [Sx.sizes]); omega)); rotate_right) | (apply Blk.below (hb := hb9); rotate_left; (focus ((try simp only [Sx.sizes]); omega)); rotate_right) | exact Blk.newE (by first | rfl | ((try simp only [Sx.sizes]); first | done | omega)) _ _ | exact Blk.put_same (by (try simp only [Sx.sizes]); first | done | omega) _ _ | (apply Blk.put_ne; (focus omega)) | apply Blk.alloc | apply Blk.drew)); done)); (focus rfl); (focus rfl)) | (apply Lst_loadc; (focus rfl); (focus rfl); (focus rfl); (focus assumption); (focus rfl)) | (apply Lst_store; (focus rfl); (focus constructor); (focus rfl); (focus rfl); (focus rfl); (focus rfl); (focus ((repeat (first | assumption | (apply Blk.below (hb := hb1); rotate_left; (focus ((try simp only [Sx.sizes]); omega)); rotate_right) | (apply Blk.below (hb := hb2); rotate_left; (focus ((try simp only [Sx.sizes]); omega)); rotate_right) | (apply Blk.below (hb := hb3); rotate_left; (focus ((try simp only [Sx.sizes]); omega)); rotate_right) | (apply Blk.below (hb := hb4); rotate_left; (focus ((try simp only [Sx.sizes]); omega)); rotate_right) | (apply Blk.below (hb := hb5); rotate_left; (focus ((try simp only [Sx.sizes]); omega)); rotate_right) | (apply Blk.below (hb := hb6); rotate_left; (focus ((try simp only [Sx.sizes]); omega)); rotate_right) | (apply Blk.below (hb := hb7); rotate_left; (focus ((try simp only [Sx.sizes]); omega)); rotate_right) | (apply Blk.below (hb := hb8); rotate_left; (focus ((try simp only [Sx.sizes]); omega)); rotate_right) | (apply Blk.below (hb := hb9); rotate_left; (focus ((try simp only [Sx.sizes]); omega)); rotate_right) | exact Blk.newE (by first | rfl | ((try simp only [Sx.sizes]); first | done | omega)) _ _ | exact Blk.put_same (by (try simp only [Sx.sizes]); first | done | omega) _ _ | (apply Blk.put_ne; (focus omega)) | apply Blk.alloc | apply Blk.drew)); done)); (focus ((repeat constructor); done))) | (apply Lst_pu; (focus (first | (apply P_neg; (focus rfl); (focus (first | assumption | exact wi64 (by omega) (by omega) | exact wu64 (by omega) (by omega) | exact wi32 (by omega) (by omega) | exact wu8 (by omega) (by omega) | rfl))) | (apply P_move; (focus constructor)) | (apply P_assign; (focus constructor)) | (apply P_ar; (focus rfl); (focus rfl); (focus rfl); (focus (first | assumption | exact wi64 (by omega) (by omega) | exact wu64 (by omega) (by omega) | exact wi32 (by omega) (by omega) | exact wu8 (by omega) (by omega) | rfl))) | (apply P_ct; (focus rfl); (focus rfl); (focus rfl); (focus (dsimp only [cmpP]; first | done | omega))) | (apply P_cf; (focus rfl); (focus rfl); (focus rfl); (focus (dsimp only [cmpP]; first | done | omega))) | (apply P_pick_t; (focus rfl); (focus constructor)) | (apply P_pick_f; (focus rfl); (focus constructor)) | (apply P_extract; (focus rfl); (focus rfl)) | (apply P_not; (focus rfl); (focus rfl)) | (apply P_slen; (focus rfl); (focus rfl)) | (apply P_llen; (focus rfl); (focus rfl)) | (apply P_beq; (focus rfl); (focus rfl); (focus rfl); (focus (first | exact beq_self_eq_true _ | rfl))) | (apply P_bne; (focus rfl); (focus rfl); (focus rfl); (focus (first | exact bne_self_eq_false _ | rfl))) | (apply P_sadd; (focus rfl); (focus rfl); (focus omega)) | (apply P_max; (focus rfl); (focus rfl)) | (apply P_min; (focus rfl); (focus rfl)) | (apply P_idx1; (focus rfl); (focus rfl); (focus rfl); (focus rfl); (focus rfl); (focus omega)) | (apply P_nilCheck; (focus rfl)) | (apply P_conv; (focus rfl); (focus rfl); (focus rfl); (focus (first | assumption | exact wi64 (by omega) (by omega) | exact wu64 (by omega) (by omega) | exact wi32 (by omega) (by omega) | exact wu8 (by omega) (by omega) | rfl))) | (apply P_sindex0; (focus rfl); (focus rfl); (focus rfl); (focus omega)) | (apply P_sindexN; (focus rfl); (focus rfl); (focus rfl); (focus omega)) | (apply P_sindex; (focus rfl); (focus rfl); (focus rfl); (focus omega); (focus omega)) | (apply P_makeFunc; (focus (repeat constructor)); (focus (repeat constructor))) | (apply P_seq_t; (focus rfl); (focus rfl); (focus (first | assumption | rfl))) | (apply P_seq_f; (focus rfl); (focus rfl); (focus assumption)) | (apply P_sne_t; (focus rfl); (focus rfl); (focus assumption)) | (apply P_sne_f; (focus rfl); (focus rfl); (focus (first | assumption | rfl))) | (apply P_lslice; (focus rfl); (focus rfl); (focus rfl); (focus rfl); (focus rfl); (focus rfl); (focus omega); (focus omega); (focus omega)) | (apply P_lslice_hi; (focus rfl); (focus rfl); (focus rfl); (focus rfl); (focus rfl); (focus omega); (focus omega)) | (apply P_lslice_lo; (focus rfl); (focus rfl); (focus rfl); (focus rfl); (focus rfl); (focus omega); (focus omega)) | (apply P_sslice_lo; (focus rfl); (focus rfl); (focus rfl); (focus omega); (focus omega)) | (apply P_sslice_hi; (focus rfl); (focus rfl); (focus rfl); (focus omega); (focus omega)) | (apply P_sslice; (focus rfl); (focus rfl); (focus rfl); (focus rfl); (focus omega); (focus omega); (focus omega)) | (apply P_quo; (focus rfl); (focus rfl); (focus omega); (focus rfl)) | (apply P_rem; (focus rfl); (focus rfl); (focus omega); (focus rfl)) | (apply P_and; (focus rfl); (focus rfl); (focus (first | assumption | exact u8_and63 _ (by omega) (by omega) | exact u8_and31 _ (by omega) (by omega) | exact u8_and15 _ (by omega) (by omega) | exact u8_and7 _ (by omega) (by omega) | exact and192 (by omega) (by omega) | rfl))) | (apply P_or; (focus rfl); (focus rfl); (focus (first | assumption | exact i32_or6 _ _ (by omega) (by omega) (by omega) (by omega) (by omega) | rfl))) | (apply P_xor; (focus rfl); (focus rfl); (focus rfl)) | (apply P_shl_1; (focus rfl); (focus rfl); (focus rfl); (focus (first | assumption | exact wi64 (by omega) (by omega) | exact wu64 (by omega) (by omega) | exact wi32 (by omega) (by omega) | exact wu8 (by omega) (by omega) | rfl))) | (apply P_shl_2; (focus rfl); (focus rfl); (focus rfl); (focus (first | assumption | exact wi64 (by omega) (by omega) | exact wu64 (by omega) (by omega) | exact wi32 (by omega) (by omega) | exact wu8 (by omega) (by omega) | rfl))) | (apply P_shl_3; (focus rfl); (focus rfl); (focus rfl); (focus (first | assumption | exact wi64 (by omega) (by omega) | exact wu64 (by omega) (by omega) | exact wi32 (by omega) (by omega) | exact wu8 (by omega) (by omega) | rfl))) | (apply P_shl_4; (focus rfl); (focus rfl); (focus rfl); (focus (first | assumption | exact wi64 (by omega) (by omega) | exact wu64 (by omega) (by omega) | exact wi32 (by omega) (by omega) | exact wu8 (by omega) (by omega) | rfl))) | (apply P_shl_5; (focus rfl); (focus rfl); (focus rfl); (focus (first | assumption | exact wi64 (by omega) (by omega) | exact wu64 (by omega) (by omega) | exact wi32 (by omega) (by omega) | exact wu8 (by omega) (by omega) | rfl))) | (apply P_shl_6; (focus rfl); (focus rfl); (focus rfl); (focus (first | assumption | exact wi64 (by omega) (by omega) | exact wu64 (by omega) (by omega) | exact wi32 (by omega) (by omega) | exact wu8 (by omega) (by omega) | rfl))) | (apply P_shl_7; (focus rfl); (focus rfl); (focus rfl); (focus (first | assumption | exact wi64 (by omega) (by omega) | exact wu64 (by omega) (by omega) | exact wi32 (by omega) (by omega) | exact wu8 (by omega) (by omega) | rfl))) | (apply P_shl_8; (focus rfl); (focus rfl); (focus rfl); (focus (first | assumption | exact wi64 (by omega) (by omega) | exact wu64 (by omega) (by omega) | exact wi32 (by omega) (by omega) | exact wu8 (by omega) (by omega) | rfl))) | (apply P_shl_16; (focus rfl); (focus rfl); (focus rfl); (focus (first | assumption | exact wi64 (by omega) (by omega) | exact wu64 (by omega) (by omega) | exact wi32 (by omega) (by omega) | exact wu8 (by omega) (by omega) | rfl))) | (apply P_shl_24; (focus rfl); (focus rfl); (focus rfl); (focus (first | assumption | exact wi64 (by omega) (by omega) | exact wu64 (by omega) (by omega) | exact wi32 (by omega) (by omega) | exact wu8 (by omega) (by omega) | rfl))) | (apply P_shl_32; (focus rfl); (focus rfl); (focus rfl); (focus (first | assumption | exact wi64 (by omega) (by omega) | exact wu64 (by omega) (by omega) | exact wi32 (by omega) (by omega) | exact wu8 (by omega) (by omega) | rfl))) | (apply P_shl_40; (focus rfl); (focus rfl); (focus rfl); (focus (first | assumption | exact wi64 (by omega) (by omega) | exact wu64 (by omega) (by omega) | exact wi32 (by omega) (by omega) | exact wu8 (by omega) (by omega) | rfl))) | (apply P_shl_48; (focus rfl); (focus rfl); (focus rfl); (focus (first | assumption | exact wi64 (by omega) (by omega) | exact wu64 (by omega) (by omega) | exact wi32 (by omega) (by omega) | exact wu8 (by omega) (by omega) | rfl))) | (apply P_shl_56; (focus rfl); (focus rfl); (focus rfl); (focus (first | assumption | exact wi64 (by omega) (by omega) | exact wu64 (by omega) (by omega) | exact wi32 (by omega) (by omega) | exact wu8 (by omega) (by omega) | rfl))) | (apply P_shr_1; (focus rfl); (focus rfl); (focus rfl)) | (apply P_shr_2; (focus rfl); (focus rfl); (focus rfl)) | (apply P_shr_3; (focus rfl); (focus rfl); (focus rfl)) | (apply P_shr_4; (focus rfl); (focus rfl); (focus rfl)) | (apply P_shr_5; (focus rfl); (focus rfl); (focus rfl)) | (apply P_shr_6; (focus rfl); (focus rfl); (focus rfl)) | (apply P_shr_7; (focus rfl); (focus rfl); (focus rfl)) | (apply P_shr_8; (focus rfl); (focus rfl); (focus rfl)) | (apply P_shr_16; (focus rfl); (focus rfl); (focus rfl)) | (apply P_shr_24; (focus rfl); (focus rfl); (focus rfl)) | (apply P_shr_32; (focus rfl); (focus rfl); (focus rfl)) | (apply P_shr_40; (focus rfl); (focus rfl); (focus rfl)) | (apply P_shr_48; (focus rfl); (focus rfl); (focus rfl)) | (apply P_shr_56; (focus rfl); (focus rfl); (focus rfl)))); (focus rfl)))
    apply Lst_nil
    apply seqQ_n
    apply W_seq
    refine Tl.W_cutS (α := Value) (fun pv => [(1, .pointer (some ⟨b0, 0, none⟩)), (3, .slice v1 v2 v3), (5, .pointer (some ⟨bo, 0, none⟩)), (6, pv), (10, .slice (some ⟨g, off, none⟩) P.length c), (11, .int .i64 (P.length : Int)), (12, .int .i64 (i : Int))]) (fun pv Y => OwnT V.heap.size Y pv (headP r) ∧ Below V.heap.size V Y) ?_ ?_
    · skip
      have kVO := kV.below hO kV.lt
      cases hem : r.em with
      | true =>
        rw [hem] at kVO
        (refine Ga ?_)
        (apply Lst_call; (focus rfl); (focus rfl))
        refine (c_Text r.v hok.v hok.vs O (hT2 O hO)).mono ?_
        rintro v U ⟨rfl, hU⟩
        have hVU := hO.trans (hU.mono hO.size)
        (refine Ga ?_)
        (apply Lst_slit; (focus rfl); (focus rfl); (focus rfl); (focus rfl); (focus rfl); (focus rfl); (focus rfl); (focus rfl); (focus rfl); (focus (repeat (first | apply FillO.nil | (apply FillO.cons; (focus constructor); (focus rfl); (focus rfl); (focus (repeat constructor)))))); (focus ((try simp only [Sx.sizes]); first | done | rfl)); (focus rfl))
        refine Lst_abs (fun O2 => Below U.heap.size U O2 ∧ Blk O2 U.heap.size ((([[101, 32], textV r.v] : List (List UInt8)).map fun l => .string (bs l))) 9) ⟨Bel, (by (repeat (first | assumption | (apply Blk.below (hb := hb1); rotate_left; (focus ((try simp only [Sx.sizes]); omega)); rotate_right) | (apply Blk.below (hb := hb2); rotate_left; (focus ((try simp only [Sx.sizes]); omega)); rotate_right) | (apply Blk.below (hb := hb3); rotate_left; (focus ((try simp only [Sx.sizes]); omega)); rotate_right) | (apply Blk.below (hb := hb4); rotate_left; (focus ((try simp only [Sx.sizes]); omega)); rotate_right) | (apply Blk.below (hb := hb5); rotate_left; (focus ((try simp only [Sx.sizes]); omega)); rotate_right) | (apply Blk.below (hb := hb6); rotate_left; (focus ((try simp only [Sx.sizes]); omega)); rotate_right) | (apply Blk.below (hb := hb7); rotate_left; (focus ((try simp only [Sx.sizes]); omega)); rotate_right) | (apply Blk.below (hb := hb8); rotate_left; (focus ((try simp only [Sx.sizes]); omega)); rotate_right) | (apply Blk.below (hb := hb9); rotate_left; (focus ((try simp only [Sx.sizes]); omega)); rotate_right) | exact Blk.newE (by first | rfl | ((try simp only [Sx.sizes]); first | done | omega)) _ _ | exact Blk.put_same (by (try simp only [Sx.sizes]); first | done | omega) _ _ | (apply Blk.put_ne; (focus omega)) | apply Blk.alloc | apply Blk.drew)); done)⟩ ?_
        rintro O2 ⟨hO2, kO2⟩
        (refine Ga ?_)
        refine cutQ_n (Value.slice (some ⟨U.heap.size, 0, none⟩) 2 2) ⟨?_, hVU.trans (hO2.mono hVU.size)⟩ ⟨rfl, rfl, rfl, rfl, rfl, rfl, rfl, trivial⟩
        unfold headP
        rw [if_pos hem]
        exact OwnT.blk rfl hVU.size kO2 (show 1 ≤ 2 ∧ 2 ≤ 1000000 by decide)
      | false =>
        rw [hem] at kVO
        (refine Ga ?_)
        refine cutQ_n (Value.slice (some ⟨V.heap.size, 0, none⟩) 2 2) ⟨?_, hO⟩ ⟨rfl, rfl, rfl, rfl, rfl, rfl, rfl, trivial⟩
        unfold headP
        rw [if_neg (by rw [hem]; simp)]
        exact OwnT.blk rfl (Nat.le_refl _) kO (show 1 ≤ 2 ∧ 2 ≤ 1000000 by decide)
    clear hO kO O
    rintro J pv Y ⟨hoY, bY⟩
    obtain ⟨p1, p2, p3, rfl⟩ := own_slice hoY
    have kY := kV.below bY kV.lt
    (refine Ga ?_)
    refine W_loop (α := Nat × Value) (fun x => [(1, .pointer (some ⟨b0, 0, none⟩)), (3, .slice v1 v2 v3), (5, .pointer (some ⟨bo, 0, none⟩)), (6, x.2), (10, .slice (some ⟨g, off, none⟩) P.length c), (11, .int .i64 (P.length : Int)), (12, .int .i64 (i : Int)), (27, .slice ma r.ms.length mc), (28, .int .i64 (r.ms.length : Int)), (29, .int .i64 (x.1 : Int))])
      (fun x Z => x.1 ≤ r.ms.length ∧ OwnT V.heap.size Z x.2 (headP r ++ (r.ms.take x.1).flatMap markP) ∧ Below V.heap.size V Z) (fun x _ => r.ms.length - x.1) (0, .slice p1 p2 p3) ⟨Nat.zero_le _, by dsimp only; rw [List.take_zero, List.flatMap_nil, List.append_nil]; exact hoY, bY⟩ ⟨rfl, rfl, rfl, rfl, rfl, rfl, rfl, rfl, rfl, rfl, trivial⟩ ?_
    clear hoY kY bY
    rintro J ⟨j, pv⟩ Z ⟨hj, hoZ, bZ⟩
    dsimp only at hj hoZ bZ ⊢
    have sZ := bZ.size
    have hml := hok.ml
    obtain ⟨p1, p2, p3, rfl⟩ := own_slice hoZ
    by_cases hjl : j < r.ms.length
    · have hmZ := hmV.below bZ
      obtain ⟨g2, off2, rfl, _, hcm⟩ := hmZ.at hjl
      have htm : headP r ++ (r.ms.take (j + 1)).flatMap markP = headP r ++ (r.ms.take j).flatMap markP ++ markP r.ms[j] := by
        rw [List.take_succ_eq_append_getElem hjl, List.flatMap_append, List.append_assoc]
        simp
      obtain ⟨hq1, hq2, hq3⟩ := hok.ms _ (List.getElem_mem hjl)
      generalize r.ms[j] = q at hcm htm hq1 hq2 hq3
      (refine Ga ?_)
      apply Lst_pu
      · apply P_idxm (j := j) (sz := 5)
        focus rfl
        focus rfl
        focus rfl
        focus rfl
        focus rfl
        focus omega
      focus rfl
      (refine Ga ?_)
      apply Lst_loadS' (cs := mcs q)
      focus rfl
      focus rfl
      focus rfl
      focus rfl
      focus rfl
      focus exact hcm
      focus rfl
      unfold mcs
      (refine Ga ?_)
      refine W_abs (fun E => Below Z.heap.size Z E ∧ Blk E Z.heap.size (mcs q) 37) ⟨Bel, by unfold mcs; exact (by (repeat (first | assumption | (apply Blk.below (hb := hb1); rotate_left; (focus ((try simp only [Sx.sizes]); omega)); rotate_right) | (apply Blk.below (hb := hb2); rotate_left; (focus ((try simp only [Sx.sizes]); omega)); rotate_right) | (apply Blk.below (hb := hb3); rotate_left; (focus ((try simp only [Sx.sizes]); omega)); rotate_right) | (apply Blk.below (hb := hb4); rotate_left; (focus ((try simp only [Sx.sizes]); omega)); rotate_right) | (apply Blk.below (hb := hb5); rotate_left; (focus ((try simp only [Sx.sizes]); omega)); rotate_right) | (apply Blk.below (hb := hb6); rotate_left; (focus ((try simp only [Sx.sizes]); omega)); rotate_right) | (apply Blk.below (hb := hb7); rotate_left; (focus ((try simp only [Sx.sizes]); omega)); rotate_right) | (apply Blk.below (hb := hb8); rotate_left; (focus ((try simp only [Sx.sizes]); omega)); rotate_right) | (apply Blk.below (hb := hb9); rotate_left; (focus ((try simp only [Sx.sizes]); omega)); rotate_right) | exact Blk.newE (by first | rfl | ((try simp only [Sx.sizes]); first | done | omega)) _ _ | exact Blk.put_same (by (try simp only [Sx.sizes]); first | done | omega) _ _ | (apply Blk.put_ne; (focus omega)) | apply Blk.alloc | apply Blk.drew)); done)⟩ ?_
      rintro E ⟨hE, kE⟩
      have bE := bZ.trans (hE.mono sZ)
      have hoE := hoZ.below hE
      refine W_drawS 10 (fun Z2 => Below V.heap.size V Z2 ∧ Blk Z2 Z.heap.size (mcs q) 37) rfl rfl ?_
      have hS : Below V.heap.size V E.drew ∧ Blk E.drew Z.heap.size (mcs q) 37 := ⟨Below.drew bE, Blk.drew kE⟩
      have hED := Below.drew (Below.refl E.heap.size E)
      have hoD := hoE.below hED
      clear hoE kE
      generalize E.drew = E1 at *
      refine S_takeV 0 9 rfl (by kernel_rfl) (by repeat (first | exact retQ_p | apply seqQ_p | apply blkQ_p | apply rndQ_p | apply cutQ_p)) hS ?_
      (refine Qb ?_)
      refine S_takeV 1 8 rfl (by kernel_rfl) (by repeat (first | exact retQ_p | apply seqQ_p | apply blkQ_p | apply rndQ_p | apply cutQ_p)) hS ?_
      (refine Qb ?_)
      refine S_takeV 2 7 rfl (by kernel_rfl) (by repeat (first | exact retQ_p | apply seqQ_p | apply blkQ_p | apply rndQ_p | apply cutQ_p)) hS ?_
      apply Qst_load
      focus rfl
      focus rfl
      focus rfl
      focus exact fun A9 hA9 => hA9.2
      focus rfl
      focus rfl
      (refine Qb ?_)
      refine S_takeV 4 6 rfl (by kernel_rfl) (by repeat (first | exact retQ_p | apply seqQ_p | apply blkQ_p | apply rndQ_p | apply cutQ_p)) hS ?_
      (refine Qb ?_)
      refine S_takeV 5 5 rfl (by kernel_rfl) (by repeat (first | exact retQ_p | apply seqQ_p | apply blkQ_p | apply rndQ_p | apply cutQ_p)) hS ?_
      apply Qst_loadA
      focus rfl
      focus rfl
      focus rfl
      focus rfl
      focus rfl
      focus exact fun A9 hA9 => hA9.2
      focus (repeat constructor)
      focus rfl
      (refine Qb ?_)
      refine S_any [3] 4 rfl (by kernel_rfl) (all1 ?_)
      (apply Lst_call; (focus rfl); (focus rfl))
      refine (c_Quote q.1 hq1 E1).mono ?_
      rintro v E2 ⟨rfl, hE2⟩
      have hS2 : Below V.heap.size V E2 ∧ Blk E2 Z.heap.size (mcs q) 37 := ⟨hS.1.trans (hE2.mono hS.1.size), hS.2.below hE2 hS.2.lt⟩
      have ho2 := hoD.below hE2
      apply Lst_nil
      apply rnQ_n
      refine ⟨hS2, ?_⟩
      clear hS
      have hS := hS2
      clear hS2
      refine S_any [6] 3 rfl (by kernel_rfl) (all1 ?_)
      (apply Lst_call; (focus rfl); (focus rfl))
      refine (c_Text q.2 hq2 hq3 E2 (hT2 E2 hS.1)).mono ?_
      rintro v E3 ⟨rfl, hE3⟩
      have hS2 : Below V.heap.size V E3 ∧ Blk E3 Z.heap.size (mcs q) 37 := ⟨hS.1.trans (hE3.mono hS.1.size), hS.2.below hE3 hS.2.lt⟩
      have ho3 := ho2.below hE3
      apply Lst_nil
      apply rnQ_n
      refine ⟨hS2, ?_⟩
      clear hS
      have hS := hS2
      clear hS2
      refine S_any [7] 2 rfl (by kernel_rfl) (all1 ?_)
      (apply Lst_slit; (focus rfl); (focus rfl); (focus rfl); (focus rfl); (focus rfl); (focus rfl); (focus rfl); (focus rfl); (focus rfl); (focus (repeat (first | apply FillO.nil | (apply FillO.cons; (focus constructor); (focus rfl); (focus rfl); (focus (repeat constructor)))))); (focus ((try simp only [Sx.sizes]); first | done | rfl)); (focus rfl))
      refine Lst_abs (fun O => Below E3.heap.size E3 O ∧ Blk O E3.heap.size ((markP q).map fun l => .string (bs l)) 9) ⟨Bel, by unfold markP; exact (by (repeat (first | assumption | (apply Blk.below (hb := hb1); rotate_left; (focus ((try simp only [Sx.sizes]); omega)); rotate_right) | (apply Blk.below (hb := hb2); rotate_left; (focus ((try simp only [Sx.sizes]); omega)); rotate_right) | (apply Blk.below (hb := hb3); rotate_left; (focus ((try simp only [Sx.sizes]); omega)); rotate_right) | (apply Blk.below (hb := hb4); rotate_left; (focus ((try simp only [Sx.sizes]); omega)); rotate_right) | (apply Blk.below (hb := hb5); rotate_left; (focus ((try simp only [Sx.sizes]); omega)); rotate_right) | (apply Blk.below (hb := hb6); rotate_left; (focus ((try simp only [Sx.sizes]); omega)); rotate_right) | (apply Blk.below (hb := hb7); rotate_left; (focus ((try simp only [Sx.sizes]); omega)); rotate_right) | (apply Blk.below (hb := hb8); rotate_left; (focus ((try simp only [Sx.sizes]); omega)); rotate_right) | (apply Blk.below (hb := hb9); rotate_left; (focus ((try simp only [Sx.sizes]); omega)); rotate_right) | exact Blk.newE (by first | rfl | ((try simp only [Sx.sizes]); first | done | omega)) _ _ | exact Blk.put_same (by (try simp only [Sx.sizes]); first | done | omega) _ _ | (apply Blk.put_ne; (focus omega)) | apply Blk.alloc | apply Blk.drew)); done)⟩ ?_
      rintro E4 ⟨hE4, kE4⟩
      have hS2 : Below V.heap.size V E4 ∧ Blk E4 Z.heap.size (mcs q) 37 := ⟨hS.1.trans (hE4.mono hS.1.size), hS.2.below hE4 hS.2.lt⟩
      have ho4 := ho3.below hE4
      apply Lst_nil
      apply rnQ_n
      refine ⟨hS2, ?_⟩
      clear hS
      have hS := hS2
      clear hS2
      refine S_any [8] 1 rfl (by kernel_rfl) (all1 ?_)
      apply Lst_appendT (hown := ho4) (hy := OwnT.blk (B := 0) (n := 4) rfl (Nat.zero_le _) kE4 (show 1 ≤ 4 ∧ 4 ≤ 1000000 by decide))
      focus (rw [List.length_append, headP_len, marks_len, List.length_take]; show _ + 4 ≤ _; omega)
      focus exact hS.1.size
      focus rfl
      focus rfl
      focus rfl
      intro v' U hoU hU hg
      have hS2 : Below V.heap.size V U ∧ Blk U Z.heap.size (mcs q) 37 := ⟨hS.1.trans hU, hS.2.grown hg fun k hk e => Nat.lt_irrefl Z.heap.size (e ▸ own_ltg hoZ hk)⟩
      obtain ⟨u1, u2, u3, rfl⟩ := own_slice hoU
      apply Lst_nil
      apply rnQ_n
      refine ⟨hS2, ?_⟩
      clear hS
      have hS := hS2
      clear hS2
      refine S_any [9] 0 rfl (by kernel_rfl) (all1 ?_)
      (refine Ga ?_)
      apply rnQ_n
      refine ⟨hS, ?_⟩
      refine S_done (by kernel_rfl) ?_
      (refine Ga ?_)
      refine rndQ_n (α := Nat × Value) (j + 1, .slice u1 u2 u3) ⟨hjl, by dsimp only; rw [htm]; exact hoU, hS.1⟩ ⟨rfl, rfl, rfl, rfl, rfl, rfl, rfl, rfl, rfl, ?_, trivial⟩ (by dsimp only; omega)
      exact congrArg (Value.int .i64) (by dsimp only; omega)
    · obtain rfl : j = r.ms.length := by omega
      rw [List.take_length] at hoZ
      have hpl : (headP r ++ r.ms.flatMap markP).length = 2 + 4 * r.ms.length := by rw [List.length_append, headP_len, marks_len]
      have hlr : (lineR r).length = (headP r ++ r.ms.flatMap markP).flatten.length + 1 := by
        unfold lineR
        rw [List.length_append, List.length_singleton]
      (refine Ga ?_)
      (apply Lst_call; (focus rfl); (focus rfl))
      refine (c_line _ V.heap.size (.slice p1 p2 p3) (by omega) (by omega) Z hoZ).mono ?_
      rintro v O ⟨rfl, hO⟩
      have bO := bZ.trans (hO.mono sZ)
      (refine Ga ?_)
      (apply Lst_slit; (focus rfl); (focus rfl); (focus rfl); (focus rfl); (focus rfl); (focus rfl); (focus rfl); (focus rfl); (focus rfl); (focus (repeat (first | apply FillO.nil | (apply FillO.cons; (focus constructor); (focus rfl); (focus rfl); (focus (repeat constructor)))))); (focus ((try simp only [Sx.sizes]); first | done | rfl)); (focus rfl))
      refine Lst_abs (fun O2 => Below O.heap.size O O2 ∧ Blk O2 O.heap.size (([lineR r] : List (List UInt8)).map fun l => .string (bs l)) 9) ⟨Bel, (by (repeat (first | assumption | (apply Blk.below (hb := hb1); rotate_left; (focus ((try simp only [Sx.sizes]); omega)); rotate_right) | (apply Blk.below (hb := hb2); rotate_left; (focus ((try simp only [Sx.sizes]); omega)); rotate_right) | (apply Blk.below (hb := hb3); rotate_left; (focus ((try simp only [Sx.sizes]); omega)); rotate_right) | (apply Blk.below (hb := hb4); rotate_left; (focus ((try simp only [Sx.sizes]); omega)); rotate_right) | (apply Blk.below (hb := hb5); rotate_left; (focus ((try simp only [Sx.sizes]); omega)); rotate_right) | (apply Blk.below (hb := hb6); rotate_left; (focus ((try simp only [Sx.sizes]); omega)); rotate_right) | (apply Blk.below (hb := hb7); rotate_left; (focus ((try simp only [Sx.sizes]); omega)); rotate_right) | (apply Blk.below (hb := hb8); rotate_left; (focus ((try simp only [Sx.sizes]); omega)); rotate_right) | (apply Blk.below (hb := hb9); rotate_left; (focus ((try simp only [Sx.sizes]); omega)); rotate_right) | exact Blk.newE (by first | rfl | ((try simp only [Sx.sizes]); first | done | omega)) _ _ | exact Blk.put_same (by (try simp only [Sx.sizes]); first | done | omega) _ _ | (apply Blk.put_ne; (focus omega)) | apply Blk.alloc | apply Blk.drew)); done)⟩ ?_
      rintro O2 ⟨hO2, kO2⟩
      have bO2 := bO.trans (hO2.mono bO.size)
      have hoO := hoV.below bO2
      have bwO := bV.trans (bO2.mono sV)
      apply Lst_appendT (hown := hoO) (hy := OwnT.blk (B := 0) (n := 1) rfl (Nat.zero_le _) kO2 (show 1 ≤ 1 ∧ 1 ≤ 1000000 by decide))
      focus (rw [List.length_map, List.length_map, List.length_take, List.length_singleton]; omega)
      focus exact bwO.size
      focus rfl
      focus rfl
      focus rfl
      intro v' U hoU hU _
      obtain ⟨u1, u2, u3, rfl⟩ := own_slice hoU
      (refine Ga ?_)
      refine rndQ_n (α := Nat × Value) (i + 1, .slice u1 u2 u3) ⟨hil, by dsimp only; rw [hta]; exact hoU, bwO.trans hU⟩ ⟨rfl, rfl, rfl, rfl, ?_, trivial⟩ (by dsimp only; omega)
      exact congrArg (Value.int .i64) (by dsimp only; omega)
  · obtain rfl : i = P.length := by omega
    rw [List.take_length] at hoX
    (refine Ga ?_)
    (apply Lst_call; (focus rfl); (focus rfl))
    refine (c_entries f.sz f (Nat.le_refl _) ((P.map Prod.fst).map lineR) [] A W0.heap.size (.slice v1 v2 v3) b d X hAW sX hoX (heW.below (bX.mono hAW)) hfit (by rw [List.length_map, List.length_map]; exact hlen) (by omega) fun Y hY => hVW.below (bX.trans hY)).mono ?_
    rintro v U ⟨hoU, hU⟩
    obtain ⟨u1, u2, u3, rfl⟩ := own_slice hoU
    (refine Ga ?_)
    (apply retQ1; (focus rfl))
    have hle : b0 ≤ W0.heap.size := by rw [← hb0]; exact sW0
    have hfin := bW0.trans ((bX.trans hU).mono sW0)
    rw [hb0] at hfin
    exact ⟨hoU.low hle, hfin⟩
theorem c_TextV (P : List Rv) (f : Ef) (A : Nat) (a b : Option Addr) (c d : Nat) (w : World) (hA : A ≤ w.heap.size) (h : RunS A w (.slice a P.length c) P) (he : EntAt A w b 0 f) (ok : ∀ p ∈ P, FitT p.1) (hfit : f.Fit) (hlen : P.length + (linesE [] f).length ≤ 100000) (hflat : (linesV (P.map Prod.fst) f).flatten.length ≤ 1000000) (hV : VTabs w) : Does Tryd.prog 8 #[.agg #[.slice a P.length c, .slice b f.len d]] w fun v w' => v = .string (bs (linesV (P.map Prod.fst) f).flatten) ∧ Below w.heap.size w w' := by
  refine Does_of (args := [.agg #[.slice a P.length c, .slice b f.len d]]) Tryd.func8 (by kernel_rfl) rfl rfl rfl rfl rfl ?_
  (refine Ga ?_)
  refine Lst_abs (fun E => Below w.heap.size w E) Bel ?_
  rintro W0 bW0
  (apply Lst_call; (focus rfl); (focus rfl))
  refine (c_Lines P f A a b c d W0 (Nat.le_trans hA bW0.size) (h.below bW0) (he.below (bW0.mono hA)) ok hfit hlen hflat (hV.below bW0)).mono ?_
  rintro v V ⟨hoV, bV⟩
  obtain ⟨v1, v2, v3, rfl⟩ := own_slice hoV
  (refine Ga ?_)
  (apply Lst_call; (focus rfl); (focus rfl))
  refine (c_CatT _ W0.heap.size (.slice v1 v2 v3) (by unfold linesV; rw [List.length_append, List.length_map, List.length_map]; omega) (by omega) V hoV).mono ?_
  rintro v U ⟨rfl, hU⟩
  (refine Ga ?_)
  (apply retQ1; (focus rfl))
  exact ⟨rfl, bW0.trans ((bV.trans (hU.mono bV.size)).mono bW0.size)⟩
theorem c_LenV (P : List Rv) (A : Nat) (a b : Option Addr) (c m d : Nat) (hl : P.length ≤ 1000000) (hz : ∀ p ∈ P, p.1.tx.size ≤ 1000000) (hL : lenP P ≤ 1000000) (w : World) (hT : Tabs w) (h : RunS A w (.slice a P.length c) P) : Does Tryd.prog 12 #[.agg #[.slice a P.length c, .slice b m d]] w fun v w' => v = .int .i64 (lenP P : Int) ∧ Below w.heap.size w w' := by
  refine Does_of (args := [.agg #[.slice a P.length c, .slice b m d]]) Tryd.func12 (by kernel_rfl) rfl rfl rfl rfl rfl ?_
  (refine Ga ?_)
  refine Lst_abs (fun E => Below w.heap.size w E) Bel ?_
  rintro W0 bW0
  (apply Lst_call; (focus rfl); (focus rfl))
  refine (c_long P A a c hl hz hL W0 (hT.below bW0) (h.below bW0)).mono ?_
  rintro v V ⟨rfl, hV⟩
  (refine Ga ?_)
  (apply retQ1; (focus rfl))
  exact ⟨rfl, bW0.trans (hV.mono bW0.size)⟩
set_option maxHeartbeats 4000000 in
theorem c_SameV (P L : List Rv) (f g : Ef) (A : Nat) (a b a' b' : Option Addr) (c d c' d' : Nat) (w : World) (hA : A ≤ w.heap.size) (h : RunS A w (.slice a P.length c) P) (he : EntAt A w b 0 f) (ok : ∀ p ∈ P, FitT p.1) (hfit : f.Fit) (hlen : P.length + (linesE [] f).length ≤ 100000) (hflat : (linesV (P.map Prod.fst) f).flatten.length ≤ 1000000)
    (h2 : RunS A w (.slice a' L.length c') L) (he2 : EntAt A w b' 0 g) (ok2 : ∀ p ∈ L, FitT p.1) (hfit2 : g.Fit) (hlen2 : L.length + (linesE [] g).length ≤ 100000) (hflat2 : (linesV (L.map Prod.fst) g).flatten.length ≤ 1000000) (hV : VTabs w) :
    Does Tryd.prog 9 #[.agg #[.slice a P.length c, .slice b f.len d], .agg #[.slice a' L.length c', .slice b' g.len d']] w fun v w' => v = .bool (decide ((linesV (P.map Prod.fst) f).flatten = (linesV (L.map Prod.fst) g).flatten)) ∧ Below w.heap.size w w' := by
  refine Does_of (args := [.agg #[.slice a P.length c, .slice b f.len d], .agg #[.slice a' L.length c', .slice b' g.len d']]) Tryd.func9 (by kernel_rfl) rfl rfl rfl rfl rfl ?_
  (refine Ga ?_)
  refine W_abs (fun E => Below w.heap.size w E ∧ Blk E w.heap.size [.slice a P.length c, .slice b f.len d] 25 ∧ Blk E (w.heap.size + 1) [.slice a' L.length c', .slice b' g.len d'] 25) ⟨Bel, (by (repeat (first | assumption | (apply Blk.below (hb := hb1); rotate_left; (focus ((try simp only [Sx.sizes]); omega)); rotate_right) | (apply Blk.below (hb := hb2); rotate_left; (focus ((try simp only [Sx.sizes]); omega)); rotate_right) | (apply Blk.below (hb := hb3); rotate_left; (focus ((try simp only [Sx.sizes]); omega)); rotate_right) | (apply Blk.below (hb := hb4); rotate_left; (focus ((try simp only [Sx.sizes]); omega)); rotate_right) | (apply Blk.below (hb := hb5); rotate_left; (focus ((try simp only [Sx.sizes]); omega)); rotate_right) | (apply Blk.below (hb := hb6); rotate_left; (focus ((try simp only [Sx.sizes]); omega)); rotate_right) | (apply Blk.below (hb := hb7); rotate_left; (focus ((try simp only [Sx.sizes]); omega)); rotate_right) | (apply Blk.below (hb := hb8); rotate_left; (focus ((try simp only [Sx.sizes]); omega)); rotate_right) | (apply Blk.below (hb := hb9); rotate_left; (focus ((try simp only [Sx.sizes]); omega)); rotate_right) | exact Blk.newE (by first | rfl | ((try simp only [Sx.sizes]); first | done | omega)) _ _ | exact Blk.put_same (by (try simp only [Sx.sizes]); first | done | omega) _ _ | (apply Blk.put_ne; (focus omega)) | apply Blk.alloc | apply Blk.drew)); done), (by (repeat (first | assumption | (apply Blk.below (hb := hb1); rotate_left; (focus ((try simp only [Sx.sizes]); omega)); rotate_right) | (apply Blk.below (hb := hb2); rotate_left; (focus ((try simp only [Sx.sizes]); omega)); rotate_right) | (apply Blk.below (hb := hb3); rotate_left; (focus ((try simp only [Sx.sizes]); omega)); rotate_right) | (apply Blk.below (hb := hb4); rotate_left; (focus ((try simp only [Sx.sizes]); omega)); rotate_right) | (apply Blk.below (hb := hb5); rotate_left; (focus ((try simp only [Sx.sizes]); omega)); rotate_right) | (apply Blk.below (hb := hb6); rotate_left; (focus ((try simp only [Sx.sizes]); omega)); rotate_right) | (apply Blk.below (hb := hb7); rotate_left; (focus ((try simp only [Sx.sizes]); omega)); rotate_right) | (apply Blk.below (hb := hb8); rotate_left; (focus ((try simp only [Sx.sizes]); omega)); rotate_right) | (apply Blk.below (hb := hb9); rotate_left; (focus ((try simp only [Sx.sizes]); omega)); rotate_right) | exact Blk.newE (by first | rfl | ((try simp only [Sx.sizes]); first | done | omega)) _ _ | exact Blk.put_same (by (try simp only [Sx.sizes]); first | done | omega) _ _ | (apply Blk.put_ne; (focus omega)) | apply Blk.alloc | apply Blk.drew)); done)⟩ ?_
  rintro W0 ⟨bW0, k0, k1⟩
  obtain ⟨b1, hb1⟩ : ∃ n, w.heap.size + 1 = n := ⟨_, rfl⟩
  obtain ⟨b0, hb0⟩ : ∃ n, w.heap.size = n := ⟨_, rfl⟩
  rw [hb1] at k1 ⊢
  rw [hb0] at k0 ⊢
  have l0 := k0.lt
  have l1 := k1.lt
  refine W_drawS 6 (fun Z => Below W0.heap.size W0 Z) rfl rfl ?_
  have hS := Below.drew (Below.refl W0.heap.size W0)
  generalize W0.drew = Z at *
  refine S_takeV 0 5 rfl (by kernel_rfl) (by repeat (first | exact retQ_p | apply seqQ_p | apply blkQ_p | apply rndQ_p | apply cutQ_p)) hS ?_
  apply Qst_loadA
  focus rfl
  focus rfl
  focus rfl
  focus rfl
  focus rfl
  focus exact fun A9 hA9 => k0.below hA9 l0
  focus (repeat constructor)
  focus rfl
  (refine Qb ?_)
  refine S_takeV 2 4 rfl (by kernel_rfl) (by repeat (first | exact retQ_p | apply seqQ_p | apply blkQ_p | apply rndQ_p | apply cutQ_p)) hS ?_
  apply Qst_loadA
  focus rfl
  focus rfl
  focus rfl
  focus rfl
  focus rfl
  focus exact fun A9 hA9 => k1.below hA9 l1
  focus (repeat constructor)
  focus rfl
  (refine Qb ?_)
  refine S_any [1] 3 rfl (by kernel_rfl) (all1 ?_)
  (apply Lst_call; (focus rfl); (focus rfl))
  have bZ := bW0.trans (hS.mono bW0.size)
  refine (c_TextV P f A a b c d Z (Nat.le_trans hA bZ.size) (h.below bZ) (he.below (bZ.mono hA)) ok hfit hlen hflat (hV.below bZ)).mono ?_
  rintro v V ⟨rfl, hV2⟩
  have hS2 := hS.trans (hV2.mono hS.size)
  apply Lst_nil
  apply rnQ_n
  refine ⟨hS2, ?_⟩
  clear hS
  have hS := hS2
  clear hS2
  refine S_any [3] 2 rfl (by kernel_rfl) (all1 ?_)
  (apply Lst_call; (focus rfl); (focus rfl))
  have bV := bW0.trans (hS.mono bW0.size)
  refine (c_TextV L g A a' b' c' d' V (Nat.le_trans hA bV.size) (h2.below bV) (he2.below (bV.mono hA)) ok2 hfit2 hlen2 hflat2 (hV.below bV)).mono ?_
  rintro v U ⟨rfl, hU⟩
  have hS2 := hS.trans (hU.mono hS.size)
  apply Lst_nil
  apply rnQ_n
  refine ⟨hS2, ?_⟩
  clear hS
  have hS := hS2
  clear hS2
  have bU := bW0.trans (hS.mono bW0.size)
  rw [hb0] at bU
  by_cases heq : (linesV (P.map Prod.fst) f).flatten = (linesV (L.map Prod.fst) g).flatten
  · have hq2 : bs (linesV (P.map Prod.fst) f).flatten = bs (linesV (L.map Prod.fst) g).flatten := by rw [heq]
    refine S_any [4] 1 rfl (by kernel_rfl) (all1 ?_)
    (refine Ga ?_)
    apply rnQ_n
    refine ⟨hS, ?_⟩
    refine S_any [5] 0 rfl (by kernel_rfl) (all1 ?_)
    (refine Ga ?_)
    apply rnQ_n
    refine ⟨hS, ?_⟩
    refine S_done (by kernel_rfl) ?_
    (refine Ga ?_)
    (apply retQ1; (focus rfl))
    exact ⟨congrArg Value.bool (decide_eq_true heq).symm, bU⟩
  · have hq2 : bs (linesV (P.map Prod.fst) f).flatten ≠ bs (linesV (L.map Prod.fst) g).flatten := fun e => heq (by
      have := congrArg (fun s => s.data.toList) e
      simpa using this)
    refine S_any [4] 1 rfl (by kernel_rfl) (all1 ?_)
    (refine Ga ?_)
    apply rnQ_n
    refine ⟨hS, ?_⟩
    refine S_any [5] 0 rfl (by kernel_rfl) (all1 ?_)
    (refine Ga ?_)
    apply rnQ_n
    refine ⟨hS, ?_⟩
    refine S_done (by kernel_rfl) ?_
    (refine Ga ?_)
    (apply retQ1; (focus rfl))
    exact ⟨congrArg Value.bool (decide_eq_false heq).symm, bU⟩
end
end Vw
end Go.Proofs.YtglfoofclicfpaaDoor
