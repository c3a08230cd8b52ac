/- (*Log).find. -/
import Derived.Test.YtfocnbmihcnaoaaGreatDoorWaH
namespace Go.Proofs.YtfocnbmihcnaoaaGreatDoor
set_option maxRecDepth 100000
namespace Wa
open Go Go.RowKit Sx Wire Dk
/-- k segments that are read whole, one behind the other: their records, how long the last one is. -/
inductive Run (d : Dsk) (m : List UInt8) (a : Nat) : Nat → List (List UInt8) → Nat → Prop
  | nil : Run d m a 0 [] 0
  | snoc {k : Nat} {L : List (List UInt8)} {last : Nat} {f : Fl} {M : List (List UInt8)} (h : Run d m a k L last) (hf : Sx.look d.es (nm m a k) = some f) (hM : Whole L.length f.b M) (hn : M ≠ []) (hl : (recB L.length M).length = f.b.length) : Run d m a (k + 1) (L ++ M) f.b.length
/-- All that a log's segments hold. -/
def Found (d : Dsk) (m : List UInt8) (a k : Nat) (L : List (List UInt8)) (last : Nat) : Prop :=
  (Run d m a k L last ∧ (Sx.look d.es (nm m a k) = none ∨ ∃ f, Sx.look d.es (nm m a k) = some f ∧ Whole L.length f.b [])) ∨
  ∃ k' L' M f last', Run d m a k' L' last' ∧ Sx.look d.es (nm m a k') = some f ∧ Whole L'.length f.b M ∧ M ≠ [] ∧ (recB L'.length M).length < f.b.length ∧ k = k' + 1 ∧ L = L' ++ M ∧ last = (recB L'.length M).length
def segs (m : List UInt8) (a k : Nat) : List ByteArray := (List.range k).map (nm m a)
theorem segs_succ (m : List UInt8) (a k : Nat) : segs m a (k + 1) = segs m a k ++ [nm m a k] := by
  unfold segs
  rw [List.range_succ, List.map_append]
  rfl
theorem segs_len (m : List UInt8) (a k : Nat) : (segs m a k).length = k := by
  unfold segs
  rw [List.length_map, List.length_range]
theorem all2_app {β γ : Type} {r : β → γ → Prop} : ∀ {l l' : List β} {m m' : List γ}, All2 r l m → All2 r l' m' → All2 r (l ++ l') (m ++ m')
  | [], _, [], _, _, h => h
  | _ :: _, _, _ :: _, _, h, k => ⟨h.1, all2_app h.2 k⟩
  | [], _, _ :: _, _, h, _ => h.elim
  | _ :: _, _, [], _, h, _ => h.elim
theorem OwnBs.blk {B j : Nat} {w : World} {v : Value} {L : List (List UInt8)} (h : OwnBs B w v L) (hj : v.ownBlock = some j) : B ≤ j ∧ ∃ cs, Blk w j cs 22 := by
  obtain ⟨us, h1, _⟩ := h
  rcases h1.2 with ⟨rfl, _⟩ | ⟨g, cap, cur, rfl, h2, h3, _⟩
  · cases hj
  · cases hj
    refine ⟨h2, cur.toList, ?_⟩
    unfold Blk
    rw [Array.toArray_toList]
    exact h3
theorem OwnBs.put {B b : Nat} {w : World} {v : Value} {L : List (List UInt8)} (h : OwnBs B w v L) (hb : b < B) (o : Obj) : OwnBs B (w.putObj b o) v L := by
  obtain ⟨us, h1, h2⟩ := h
  exact ⟨us, own_put h1 hb o, All2.mono (fun _ _ hh => own_put hh hb o) h2⟩
/-- What is no row of names stays where names are added. -/
theorem own_nm {w w' : World} {B e s n : Nat} {u v : Value} {xs : List Value} {K : List ByteArray} (h : w.ownsRow B e s u n xs) (k : NmO w v K) (he : e ≠ 9) (hg : w.grownBy w' v.ownBlock) : w'.ownsRow B e s u n xs := by
  refine h.kept hg ?_
  cases hu : u.ownBlock with
  | none => exact .inl rfl
  | some g =>
    refine .inr fun e2 => ?_
    obtain ⟨cs, hb, _⟩ := k.blk e2.symm
    rcases h.2 with ⟨rfl, _⟩ | ⟨g', cap, cur, rfl, _, h3, _⟩
    · cases hu
    · cases hu
      unfold Blk at hb
      rw [h3] at hb
      injection hb with hb
      injection hb with _ hb
      exact he hb
theorem OwnBs.nm {B : Nat} {w w' : World} {u v : Value} {L : List (List UInt8)} {K : List ByteArray} (h : OwnBs B w u L) (k : NmO w v K) (hg : w.grownBy w' v.ownBlock) : OwnBs B w' u L := by
  obtain ⟨us, h1, h2⟩ := h
  exact ⟨us, own_nm h1 k (by decide) hg, All2.mono (fun _ _ hh => own_nm hh k (by decide) hg) h2⟩
theorem dk_out {w : World} {p mb b : Nat} {d : Dsk} {cs : List Value} {e : TypeId} (hd : DkAt w p mb d) (hb : Blk w b cs e) (he : e ≠ 49) : b ≠ p ∧ b ≠ mb := by
  have hb' : w.heap[b]? = some (.cells cs.toArray e (0, 0)) := hb
  refine ⟨fun h => ?_, fun h => ?_⟩
  · subst h
    have hd' := hd.1
    unfold Blk at hd'
    rw [hb'] at hd'
    injection hd' with hd'
    injection hd' with _ hd'
    exact he hd'
  · subst h
    obtain ⟨arr, clock, hm, _⟩ := hd.2
    rw [hb'] at hm
    cases hm
theorem n8_slice {w : World} {b : Nat} {a : Option Addr} {n c : Nat} {e : TypeId} (hb : Blk w b [.slice a n c] e) : Dk.N8 w b := fun off z hz => by
  rw [hb.cell] at hz
  match off, hz with
  | 0, hz => cases hz
section rules
variable {P : Program} {rd : Option Nat} {n : Nat} {ops : Array Oper} {Q : Post} {rest : List Oper} {F : Fr} {ds : List Deferred} {w : World} {ty : TypeId} {pos : String} {after : Array Edge}
/-- append(s, x...) of rows of bytes, all of one's own. -/
theorem Lst_appendBs {d B B' : Nat} {s x : Operand} {v y : Value} {L M : List (List UInt8)} (hown : OwnBs B w v L) (hy : OwnBs B' w y M) (hM : M ≠ []) (hBB : B ≤ B') (hl : L.length + M.length ≤ 1000000000) (hbase : B ≤ w.heap.size) (hs : ev F s = v) (hx : ev F x = y) (hd : Nat.blt d n = true)
    (h : ∀ v' w', OwnBs B w' v' (L ++ M) → w.grownBy w' v.ownBlock → Lst Tryz.prog rd n ops Q rest (upd F d v') ds w') :
    Lst Tryz.prog rd n ops Q (⟨some d, .call { callee := .builtin .append, args := #[s, x], argTypes := #[28, 28] }, ty, pos, after, none⟩ :: rest) F ds w := by
  obtain ⟨us, h1, h2⟩ := hown
  obtain ⟨vs, k1, k2⟩ := hy
  have hl1 := All2.len h2
  have hl2 := All2.len k2
  rcases k1.2 with ⟨_, e⟩ | ⟨g, cap, cur, rfl, hg1, hg2, hg3, hg4, hg5, hg6⟩
  · exact absurd (List.eq_nil_of_length_eq_zero e) hM
  apply Lst_append (hown := h1) (bytes := 24) (news := vs) (B := g) (off := 0) (m := M.length) (c := cap)
  focus exact hs
  focus exact hx
  focus rfl
  focus rfl
  focus rfl
  focus rfl
  focus rfl
  focus rfl
  focus rfl
  focus
    intro j u hu
    have := k1.cells (g := g) rfl j u hu
    rw [add_plain] at this
    exact this
  focus omega
  focus
    intro u hu
    obtain ⟨j, hj, rfl⟩ := List.getElem_of_mem hu
    have key : ∀ {l : List Value} {m : List (List UInt8)}, All2 (fun u x => OwnB B' w u x) l m → ∀ u ∈ l, u.oneCell' = true := by
      intro l
      induction l with
      | nil => intro m _ u hu; cases hu
      | cons x l ih =>
        intro m h u hu
        cases m with
        | nil => exact h.elim
        | cons y m =>
          rcases List.mem_cons.1 hu with rfl | hu
          · obtain ⟨a, c, e, _⟩ := own_form h.1
            rw [e]
            rfl
          · exact ih h.2 u hu
    exact key k2 _ (List.getElem_mem hj)
  focus omega
  focus omega
  focus exact hbase
  focus exact hd
  intro v' w' ho hg _
  refine h v' w' ⟨us ++ vs, by rw [List.length_append]; exact ho, all2_app (All2.mono (fun _ _ hh => own_keptB hh h1 (by decide) hg) h2) (All2.mono (fun _ _ hh => own_keptB (own_low hh hBB) h1 (by decide) hg) k2)⟩ hg
end rules
section
attribute [local irreducible] RnS RnT
attribute [local irreducible] W Lst Qst Pu seqQ blkQ rndQ cutQ retQ Does Enters IntKind.wrap bits sb World.alloc World.putObj Blk
theorem c_find (lb p mb ob N : Nat) (dv : Value) (g : Lg) (d : Dsk) (hN : N ≤ 1000) (hnN : ∀ i, N ≤ i → Sx.look d.es (nm g.name g.age i) = none) (hdd : d.dead = false) (hsz : ∀ n f, Sx.look d.es n = some f → f.b.length ≤ 1000000) (hnm : g.name.length ≤ 100) (ha : g.age < 1000000000) (hgf : g.files = []) (W0 w : World) (hE : Base W0 w) (hlb : W0.heap.size ≤ lb) (hob : W0.heap.size ≤ ob)
    (h0 : LgAt w lb p (.slice none 0 0) dv g) (hd : DkAt w p mb d) (ho : Blk w ob [.slice none 0 0] 28) :
    Does Tryz.prog 22 #[.pointer (some ⟨lb, 0, none⟩), .pointer (some ⟨ob, 0, none⟩)] w fun v w' => ∃ (k : Nat) (L : List (List UInt8)) (last : Nat) (fv ov : Value), v = .tuple #[.int .i64 (last : Int), .int .i64 0] ∧ Found d g.name g.age k L last ∧ k ≤ N ∧ LgAt w' lb p fv dv { g with files := segs g.name g.age k } ∧ Blk w' ob [ov] 28 ∧ OwnBs w.heap.size w' ov L ∧ Chg [lb, ob] w w' ∧ (∀ j, fv.ownBlock = some j → w.heap.size ≤ j) := by
  refine Does_of (args := [.pointer (some ⟨lb, 0, none⟩), .pointer (some ⟨ob, 0, none⟩)]) Tryz.func22 (by kernel_rfl) rfl rfl rfl rfl rfl ?_
  have hlbw := h0.blk.lt
  have hobw := ho.lt
  have hne : ob ≠ lb := by
    rintro rfl
    exact h0.out ho (by decide) (by decide) List.mem_cons_self
  (refine Ga ?_)
  refine W_loop (α := Nat × List (List UInt8) × Nat × Value × Value) (fun x => [(0, .pointer (some ⟨lb, 0, none⟩)), (1, .pointer (some ⟨ob, 0, none⟩)), (6, .int .i64 (x.2.2.1 : Int)), (7, .int .i64 (x.1 : Int))])
    (fun x A => Run d g.name g.age x.1 x.2.1 x.2.2.1 ∧ x.1 ≤ N ∧ x.2.1.length ≤ 50000 * x.1 ∧ LgAt A lb p x.2.2.2.1 dv { g with files := segs g.name g.age x.1 } ∧ Blk A ob [x.2.2.2.2] 28 ∧ OwnBs w.heap.size A x.2.2.2.2 x.2.1 ∧ Chg [lb, ob] w A ∧ (∀ j, x.2.2.2.1.ownBlock = some j → w.heap.size ≤ j)) (fun x _ => N - x.1) (0, [], 0, .slice none 0 0, .slice none 0 0)
    ⟨.nil, Nat.zero_le _, Nat.zero_le _, by have : ({ g with files := segs g.name g.age 0 } : Lg) = g := (by rw [show segs g.name g.age 0 = [] from rfl, ← hgf]); rw [this]; exact h0, ho, OwnBs.nil _ _, Chg.refl _ _, fun j hj => by cases hj⟩ ⟨rfl, rfl, rfl, rfl, trivial⟩ ?_
  rintro J ⟨k, L, last, fv, ov⟩ A ⟨hrun, hkN, hLk, hL, hO, hOB, hc, hfv⟩
  dsimp only at hrun hkN hLk hL hO hOB hfv ⊢
  have hEA : Base W0 A := hE.chg hc (by simp; omega)
  have hDA : DkAt A p mb d := by
    have hk := dk_out hd h0.blk (by decide)
    have hk2 := dk_out hd ho (by decide)
    refine hd.chg hc (by simp; omega) (by simp; omega) fun b hb => ?_
    rcases List.mem_cons.1 hb with rfl | hb
    · exact h0.n8 _ List.mem_cons_self
    · rw [List.mem_singleton.1 hb]
      exact n8_slice ho
  obtain ⟨fa, fc, rfl, _⟩ := hL.files.form
  obtain ⟨oa, oc, rfl, _⟩ := hOB.form
  have hB := hL.blk
  unfold lcs at hB
  dsimp only at hB
  have hlt := hB.lt
  have hlo := hO.lt
  (refine Ga ?_)
  refine W_calm ?_
  refine W_drawS 11 (fun B => Below A.heap.size A B) rfl rfl ?_
  have hS : Below A.heap.size A A.drew := Below.drew (Below.refl _ _)
  refine S_takeV 0 10 rfl (by kernel_rfl) calm_no hS ?_
  (refine Qb ?_)
  refine S_takeV 1 9 rfl (by kernel_rfl) calm_no hS ?_
  (refine Qb ?_)
  refine S_takeV 2 8 rfl (by kernel_rfl) calm_no hS ?_
  (refine Qb ?_)
  refine S_takeV 3 7 rfl (by kernel_rfl) calm_no hS ?_
  (refine Qb ?_)
  refine S_takeV 4 6 rfl (by kernel_rfl) calm_no hS ?_
  (refine Qb ?_)
  refine S_takeV 5 5 rfl (by kernel_rfl) calm_no hS ?_
  (refine Qb ?_)
  refine S_takeV 6 4 rfl (by kernel_rfl) calm_no hS ?_
  (refine Qb ?_)
  refine S_takeV 7 3 rfl (by kernel_rfl) calm_no hS ?_
  (refine Qb ?_)
  refine S_takeV 8 2 rfl (by kernel_rfl) calm_no hS ?_
  (refine Qb ?_)
  refine S_any [9] 1 rfl (by kernel_rfl) (all1 ?_)
  (apply Lst_call; (focus rfl); (focus rfl))
  refine (c_file g.name g.age k hnm (by omega) (by omega) _ (hEA.below hS).now).mono ?_
  rintro v w2 ⟨rfl, hb2⟩
  have hS2 := Sx.Below.after (w := A) hS hb2
  try apply Lst_nil
  apply rnQ_n
  refine ⟨hS2, ?_⟩
  clear hS
  have hS := hS2
  clear hS2
  refine S_takeV 10 0 rfl (by kernel_rfl) calm_no hS ?_
  (refine Qb ?_)
  refine S_done (by kernel_rfl) ?_
  refine calm_n ?_
  have hL2 := hL.below hS
  have hD2 := hDA.below hS
  have hO2 := hO.below hS hlo
  have hOB2 := OwnBs.below hOB hS (Nat.le_refl _)
  have hc2 := hc.trans (.of hS)
  have hB2 := hL2.blk
  unfold lcs at hB2
  dsimp only at hB2
  have hlt2 := hB2.lt
  have hlo2 := hO2.lt
  clear hB hlt hlo
  generalize hn : nm g.name g.age k = n at *
  (refine Ga ?_)
  (apply Lst_call; (focus rfl); (focus rfl))
  refine (c_ReadC p mb d n ?_ _ hD2).mono ?_
  · unfold Dsk.file
    cases hf : Sx.look d.es n with
    | none => exact Nat.zero_le _
    | some f => exact hsz n f hf
  rintro v w3 ⟨⟨sv, rfl, hi3, a3, c3, rfl, hc3l⟩, hb3⟩
  have hL3 := hL2.below hb3
  have hD3 := hD2.below hb3
  have hO3 := hO2.below hb3 hlo2
  have hOB3 := OwnBs.below hOB2 hb3 (Nat.le_refl _)
  have hc3 := hc2.trans (.of hb3)
  have hB3 := hL3.blk
  unfold lcs at hB3
  dsimp only at hB3
  have hlt3 := hB3.lt
  have hlo3 := hO3.lt
  cases hf : Sx.look d.es n with
  | none =>
    have hr : d.read n = ([], 40) := by
      unfold Dsk.read Dsk.isE
      rw [hdd, hf]
      rfl
    rw [hr]
    (refine Ga ?_)
    (apply retQ2; (focus rfl); (focus rfl))
    exact ⟨k, L, last, _, _, rfl, .inl ⟨hrun, .inl (hn ▸ hf)⟩, hkN, hL3, hO3, hOB3, hc3, hfv⟩
  | some f =>
    have hr : d.read n = (f.b, 0) := by
      unfold Dsk.read Dsk.isE Dsk.file
      rw [hdd, hf]
      rfl
    have hfl := hsz n f hf
    rw [hr] at hi3 hc3l ⊢
    dsimp only at hi3 hc3l ⊢
    have hLl : L.length < 100000000 := by omega
    (refine Ga ?_)
    (apply Lst_call; (focus rfl); (focus rfl))
    refine (c_whole L.length hLl a3 c3 f.b (by omega) hc3l w3 hi3).mono ?_
    rintro v w4 ⟨M, ov2, rfl, hOM, hW, hb4⟩
    have hL4 := hL3.below hb4
    have hO4 := hO3.below hb4 hlo3
    have hOB4 := OwnBs.below hOB3 hb4 (Nat.le_refl _)
    have hc4 := hc3.trans (.of hb4)
    have hB4 := hL4.blk
    unfold lcs at hB4
    dsimp only at hB4
    have hlt4 := hB4.lt
    have hlo4 := hO4.lt
    obtain ⟨ma, mc, rfl, _⟩ := hOM.form
    by_cases hM : M = []
    · have hM0 : M.length = 0 := by rw [hM]; rfl
      (refine Ga ?_)
      (apply retQ2; (focus rfl); (focus rfl))
      exact ⟨k, L, last, _, _, rfl, .inl ⟨hrun, .inr ⟨f, hn ▸ hf, hM ▸ hW⟩⟩, hkN, hL4, hO4, hOB4, hc4, hfv⟩
    · have hM0 : M.length ≠ 0 := fun e => hM (List.eq_nil_of_length_eq_zero e)
      (refine Ga ?_)
      have s3 := hb3.size
      have sc3 := hc3.size
      have sc4 := hc4.size
      apply Lst_appendBs (hown := hOB4) (hy := hOM) (hM := hM) (hBB := sc3)
      focus
        have := recB_len M L.length
        have := hW.1.length_le
        omega
      focus exact sc4
      focus rfl
      focus rfl
      focus rfl
      intro v' w5 hOB5 hg5
      have hbj : ∀ j, (Value.slice oa L.length oc).ownBlock = some j → w.heap.size ≤ j ∧ j ∉ lb :: rowsOf (.slice fa (segs g.name g.age k).length fc) dv := fun j hj => by
        obtain ⟨h9, cs, hcs⟩ := hOB4.blk hj
        exact ⟨h9, hL4.out hcs (by decide) (by decide)⟩
      have hL5 : LgAt w5 lb p (.slice fa (segs g.name g.age k).length fc) dv { g with files := segs g.name g.age k } := hL4.keep (hg5.block _ hlt4 fun e => (hbj _ e.symm).2 List.mem_cons_self) fun j hj => hg5.block _ (hL4.rows_lt j hj) fun e => (hbj _ e.symm).2 (List.mem_cons_of_mem _ hj)
      have hO5 : Blk w5 ob [.slice oa L.length oc] 28 := hO4.grown hg5 fun j hj e => by have := (hbj j hj).1; omega
      have hc5 : Chg [lb, ob] w w5 := Chg.trans' hc4 (Chg.grown hg5) fun j hj => .inr (hbj j (by simpa using hj)).1
      obtain ⟨va, vc, rfl, _⟩ := hOB5.form
      have hlo5 := hO5.lt
      have hnob := hL5.out hO5 (by decide) (by decide)
      have hL6 := hL5.chg (chg1 (lb := ob) (.cells [.slice va (L ++ M).length vc].toArray 28)) (fun e => hnob (by rw [List.mem_singleton.1 e]; exact List.mem_cons_self)) (fun j hj e => hnob (by rw [← List.mem_singleton.1 e]; exact List.mem_cons_of_mem _ hj))
      have hO6 : Blk (w5.putObj ob (.cells [.slice va (L ++ M).length vc].toArray 28)) ob [.slice va (L ++ M).length vc] 28 := Blk.put_same hlo5 _ _
      have hOB6 := hOB5.put hobw (.cells [.slice va (L ++ M).length vc].toArray 28)
      have hc6 := hc5.put (b := ob) (.inl (by simp)) (.cells [.slice va (L ++ M).length vc].toArray 28)
      have hB5 := hL5.blk
      unfold lcs at hB5
      dsimp only at hB5
      have hlt5 := hB5.lt
      (refine Ga ?_)
      generalize w5.putObj ob (.cells [.slice va (L ++ M).length vc].toArray 28) = w6 at *
      (apply Lst_slit; (focus rfl); (focus rfl); (focus rfl); (focus rfl); (focus rfl); (focus rfl); (focus rfl); (focus rfl); (focus rfl); (focus (repeat (first | apply FillO.nil | (apply FillO.cons; (focus constructor); (focus rfl); (focus rfl); (focus (repeat constructor)))))); (focus ((try simp only [Sx.sizes]); first | done | rfl)); (focus rfl))
      refine Lst_abs (fun W => Blk W w6.heap.size [.string n] 9 ∧ Below w6.heap.size w6 W) ⟨Blk.newE rfl _ _, Bel⟩ ?_
      rintro w7 ⟨kS, hb7⟩
      have hL7 := hL6.below hb7
      have hO7 := hO6.below hb7 hO6.lt
      have hOB7 := OwnBs.below hOB6 hb7 (Nat.le_refl _)
      have hc7 := hc6.trans (.of hb7)
      have sc7 := hc7.size
      apply Lst_pushO (h := hL7.files) (b := w6.heap.size) (c1 := 1) (y := n)
      focus rfl
      focus rfl
      focus exact kS.cell 0
      focus
        show (segs g.name g.age k).length ≤ 1000000
        rw [segs_len]
        omega
      focus rfl
      intro fv' w8 hnF hgF hbF
      obtain ⟨pa, pc, rfl, _⟩ := hnF.form
      obtain ⟨hbL8, hL8⟩ := hL7.fgrow hgF hnF hbF
      have hrow8 : ∀ j, (Value.slice fa (segs g.name g.age k).length fc).ownBlock = some j → w.heap.size ≤ j := hfv
      have hnob7 := hL7.out hO7 (by decide) (by decide)
      have hO8 : Blk w8 ob [.slice va (L ++ M).length vc] 28 := hO7.grown hgF fun j hj e => hnob7 (List.mem_cons_of_mem _ (List.mem_append.2 (.inl (by rw [hj, e]; simp))))
      have hOB8 := hOB7.nm hL7.files hgF
      have hc8 : Chg [lb, ob] w w8 := Chg.trans' hc7 (Chg.grown hgF) fun j hj => .inr (hrow8 j (by simpa using hj))
      have hB8 := hbL8
      unfold lcs at hB8
      dsimp only at hB8
      have hlt8 := hB8.lt
      have hrow9 : ∀ j, (Value.slice pa (segs g.name g.age k ++ [n]).length pc).ownBlock = some j → w.heap.size ≤ j := fun j hj => (hbF j hj).elim (hrow8 j) (fun h9 => Nat.le_trans sc7 h9)
      have hO9 : Blk (w8.putObj lb (.cells (lcs p (.slice pa (segs g.name g.age k ++ [n]).length pc) dv { g with files := segs g.name g.age k ++ [n] }).toArray 53)) ob [.slice va (L ++ M).length vc] 28 := Blk.put_ne hne hO8
      have hOB9 := hOB8.put hlbw (.cells (lcs p (.slice pa (segs g.name g.age k ++ [n]).length pc) dv { g with files := segs g.name g.age k ++ [n] }).toArray 53)
      have hc9 := hc8.put (b := lb) (.inl (by simp)) (.cells (lcs p (.slice pa (segs g.name g.age k ++ [n]).length pc) dv { g with files := segs g.name g.age k ++ [n] }).toArray 53)
      have hsg : segs g.name g.age k ++ [n] = segs g.name g.age (k + 1) := by rw [segs_succ, hn]
      have hzl := hW.1.length_le
      have hML := recB_len M L.length
      have hkN1 : k + 1 ≤ N := by
        rcases Nat.lt_or_ge k N with h9 | h9
        · exact h9
        · have := hnN k h9
          rw [hn, hf] at this
          cases this
      by_cases hzz : (recB L.length M).length < f.b.length
      · (refine Ga ?_)
        (apply retQ2; (focus rfl); (focus rfl))
        exact ⟨k + 1, L ++ M, _, _, _, rfl, .inr ⟨k, L, M, f, last, hrun, hn ▸ hf, hW, hM, hzz, rfl, rfl, rfl⟩, hkN1, hsg ▸ hL8, hO9, hOB9, hc9, hrow9⟩
      · have hzz' : (recB L.length M).length = f.b.length := by omega
        (refine Ga ?_)
        refine rndQ_n (α := Nat × List (List UInt8) × Nat × Value × Value) (k + 1, L ++ M, f.b.length, _, _) ⟨.snoc hrun (hn ▸ hf) hW hM hzz', hkN1, ?_, hsg ▸ hL8, hO9, hOB9, hc9, hrow9⟩ ⟨rfl, rfl, ?_, ?_, trivial⟩ (by dsimp only; omega)
        · dsimp only
          rw [List.length_append]
          omega
        · exact congrArg (fun q : Nat => Value.int .i64 (q : Int)) hzz'
        · exact congrArg (Value.int .i64) (by dsimp only; omega)
end
end Wa
end Go.Proofs.YtfocnbmihcnaoaaGreatDoor
