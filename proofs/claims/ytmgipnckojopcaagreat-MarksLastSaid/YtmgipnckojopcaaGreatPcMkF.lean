/- Marks: what all places show. -/
import Derived.Test.YtmgipnckojopcaaGreatPcMkC
import Derived.Test.YtmgipnckojopcaaGreatPcJSqRunsPToSqAnP
import Derived.Deep.OwnRows
namespace Go.Proofs.YtmgipnckojopcaaGreat
set_option maxRecDepth 100000
namespace Mk
open Go Go.RowKit Sx Tl Sq Val
section rules
variable {P : Program} {rd : Option Nat} {n : Nat} {ops : Array Oper} {Q : Post} {rest : List Oper} {F : Fr} {ds : List Deferred} {w : World} {ty : TypeId} {pos : String} {after : Array Edge}
/-- make([]map[..].., m). -/
theorem Lst_makem {d m bytes : Nat} {x y : Operand} {t e : TypeId} (hx : ev F x = .int .i64 (m : Int)) (hy : ev F y = .int .i64 (m : Int)) (ht : P.underlying t = some (.slice e)) (hinfo : (P.info? e).map (fun i => (i.zero, i.size, i.bytes)) = some (some (.map none), 1, bytes)) (hm : bytes * m ≤ 281474976710656) (hm2 : m ≤ 9223372036854775807) (hd : Nat.blt d n = true)
    (h : Lst P rd n ops Q rest (upd F d (.slice (some ⟨w.heap.size, 0, none⟩) m m)) ds (w.alloc (.cells ((List.replicate m none).map Value.map).toArray e))) :
    Lst P rd n ops Q (⟨some d, .makeSlice t x y, ty, pos, after, none⟩ :: rest) F ds w := by
  have hrun := run_make_row' (P := P) t e (.map none) bytes ht hinfo rfl .i64 .i64 m hm hm2 w
  have hc : madeCells #[.map none] m = ((List.replicate m none).map Value.map).toArray := by
    apply Array.ext
    · simp [madeCells]
    · intro i h1 h2
      simp [madeCells, Nat.mod_one]
  rw [hc] at hrun
  exact Lst_value rfl (by simp [execOp, hx, hy, hrun]) hd h
theorem guard_map_nil {op : BinOp} {t : TypeId} {x y : Operand} {m : Option Nat} : (eqGuard op t x y (.map m) (.map none)).run P w = .ok () w := by
  cases op <;> simp [eqGuard, Sem.run_pure]
theorem run_map_nil {t tk te : TypeId} (m : Option Nat) (w : World) (ht : P.underlying t = some (.map tk te)) : (Op.equal t (.map m) (.map none)).run P w = .ok m.isNone w := by
  have h : ∀ d : Nat, (Op.equalIn (d + 1) t (.map m) (.map none)).run P w = .ok m.isNone w := fun d => by
    cases m <;> simp [Op.equalIn, run_underlying ht]
  simp [Op.equal, Op.maxDepth, h 9999]
theorem P_map_nil {t t' tk te : TypeId} {x y : Operand} {m : Option Nat} {r : Bool} (hx : ev F x = .map m) (hy : ev F y = .map none) (ht : P.underlying t = some (.map tk te)) (hr : m.isNone = r) : Pu P F (.binOp .eql t x y t') ty (.bool r) :=
  fun _ _ _ w => bin_run hx hy guard_map_nil (by
    subst hr
    have := run_map_nil m w ht
    simp only [binOp, Sem.run_bind, this]
    rfl)
end rules
theorem SqAt.putF {w : World} {p : Nat} {F : Nat → Prop} {t : Fo} {b : Nat} (h : SqAt w p F t) (hb : ¬ F b) (o : Obj) : SqAt (w.putObj b o) p F t :=
  h.kept rfl rfl rfl (by rw [World.putObj_size]; exact Nat.le_refl _) fun g hg => World.putObj_heap_other fun e => hb (e ▸ hg)
theorem told_nil : toldL [] = [] := by
  unfold toldL keysS keysB
  rw [List.map_nil, List.mergeSort_nil]
  rfl
/-- What all places show. -/
def allL (t : Fo) (ls : List Mo) : List (List (ByteArray × Vl)) := (List.range t.sz).map fun i => toldL (bestL t ((i : Nat) : Int) ls)
/-- The rows of winners, while they are made: each place's map, if it has one. -/
structure MA (N : Nat) (w0 A : World) (bb : Nat) (Ms : List (Option Nat)) (B : Nat → List (ByteArray × Mo)) : Prop where
  blk : Blk A bb (Ms.map Value.map) 72
  len : Ms.length = N
  got : ∀ (i mb : Nat), Ms[i]? = some (some mb) → Bm A mb (B i) ∧ w0.heap.size ≤ mb ∧ mb ≠ bb
  no : ∀ (i : Nat), Ms[i]? = some none → B i = []
  inj : ∀ (i j mb : Nat), Ms[i]? = some (some mb) → Ms[j]? = some (some mb) → i = j
  low : w0.heap.size ≤ bb
variable {w w0 A A' : World} {p bb N : Nat} {F F' : Nat → Prop} {t : Fo} {Ms : List (Option Nat)} {B B' : Nat → List (ByteArray × Mo)}
theorem MA.below (h : MA N w0 A bb Ms B) (hb : Below A.heap.size A A') : MA N w0 A' bb Ms B :=
  ⟨h.blk.below hb h.blk.lt, h.len, fun i mb hi => ⟨(h.got i mb hi).1.below hb, (h.got i mb hi).2⟩, h.no, h.inj, h.low⟩
theorem MA.turn (h : MA N w0 A bb Ms B) (hT : Turn F F A A') (hF : ∀ g, F g → g < w0.heap.size) : MA N w0 A' bb Ms B := by
  have no : ∀ g, w0.heap.size ≤ g → ¬ F g := fun g hg hf => by have := hF g hf; omega
  exact ⟨hT.blk h.blk (no _ h.low), h.len, fun i mb hi => ⟨Bm.turn (h.got i mb hi).1 hT (no _ (h.got i mb hi).2.1), (h.got i mb hi).2⟩, h.no, h.inj, h.low⟩
theorem MA.congr (h : MA N w0 A bb Ms B) (he : ∀ i, i < N → B' i = B i) : MA N w0 A bb Ms B' :=
  ⟨h.blk, h.len, fun i mb hi => by
    have hl : i < N := by rw [← h.len]; exact (List.getElem?_eq_some_iff.1 hi).1
    rw [he i hl]
    exact h.got i mb hi, fun i hi => by
    have hl : i < N := by rw [← h.len]; exact (List.getElem?_eq_some_iff.1 hi).1
    rw [he i hl]
    exact h.no i hi, h.inj, h.low⟩
theorem Bm.below' {w w' : World} {mb : Nat} {m : List (ByteArray × Mo)} (h : Bm w mb m) (hb : Below w.heap.size w w') : Bm w' mb m := h.below hb
theorem set_get {α : Type} {l : List α} {i : Nat} {x : α} (hl : i < l.length) (j : Nat) : (l.set i x)[j]? = if i = j then some x else l[j]? := by
  by_cases e : i = j
  · subst e
    rw [if_pos rfl]
    simp [hl]
  · rw [if_neg e, List.getElem?_set_ne e]
/-- A place gets its map. -/
theorem MA.new {i mb : Nat} (h : MA N w0 A bb Ms B) (hi : Ms[i]? = some none) (hm : Bm A mb []) (hw : w0.heap.size ≤ mb) (hn : mb ≠ bb) (hx : ∀ j : Nat, Ms[j]? ≠ some (some mb)) : MA N w0 (A.putObj bb (.cells ((Ms.set i (some mb)).map Value.map).toArray 72)) bb (Ms.set i (some mb)) B := by
  have hl : i < Ms.length := (List.getElem?_eq_some_iff.1 hi).1
  have keep : ∀ m' l, Bm A m' l → m' ≠ bb → Bm (A.putObj bb (.cells ((Ms.set i (some mb)).map Value.map).toArray 72)) m' l := fun m' l h' hne => MpAt.mono h' (World.putObj_heap_other hne) fun _ _ h => h
  refine ⟨Blk.put_same h.blk.lt _ _, by rw [List.length_set]; exact h.len, fun j m' hj => ?_, fun j hj => ?_, fun j k m' hj hk => ?_, h.low⟩
  · rw [set_get hl] at hj
    split at hj
    · rename_i e
      subst e
      obtain rfl : mb = m' := by injection hj with hj; injection hj
      exact ⟨by rw [h.no _ hi]; exact keep _ _ hm hn, hw, hn⟩
    · exact ⟨keep _ _ (h.got j m' hj).1 (h.got j m' hj).2.2, (h.got j m' hj).2⟩
  · rw [set_get hl] at hj
    split at hj
    · injection hj with hj
      cases hj
    · exact h.no j hj
  · rw [set_get hl] at hj hk
    split at hj
    · rename_i e1
      split at hk
      · rename_i e2
        omega
      · obtain rfl : mb = m' := by injection hj with hj; injection hj
        exact absurd hk (hx k)
    · split at hk
      · obtain rfl : mb = m' := by injection hk with hk; injection hk
        exact absurd hj (hx j)
      · exact h.inj j k m' hj hk
/-- One place's map turns. -/
theorem MA.win {i mb : Nat} {l : List (ByteArray × Mo)} (h : MA N w0 A bb Ms B) (hi : Ms[i]? = some (some mb)) (hm : Bm A' mb l) (hc : Chg [mb] A A') : MA N w0 A' bb Ms (fun j => if j = i then l else B j) := by
  have hg := h.got i mb hi
  refine ⟨hc.blk h.blk (by simpa using Ne.symm hg.2.2), h.len, fun j m' hj => ?_, fun j hj => ?_, h.inj, h.low⟩
  · by_cases e : j = i
    · subst e
      rw [hi] at hj
      obtain rfl : mb = m' := by injection hj with hj; injection hj
      rw [if_pos rfl]
      exact ⟨hm, hg.2⟩
    · rw [if_neg e]
      have hj' := h.got j m' hj
      have hne : m' ≠ mb := fun e' => e (h.inj j i mb (e' ▸ hj) hi)
      exact ⟨MpAt.mono hj'.1 (hc.block m' hj'.1.lt (by simpa using hne)) fun _ _ h => h, hj'.2⟩
  · by_cases e : j = i
    · subst e
      rw [hi] at hj
      injection hj with hj
      cases hj
    · rw [if_neg e]
      exact h.no j hj
/-- Rows of marks behind a slice, all of one's own. -/
def OwnLL (B : Nat) (w : World) (v : Value) (lls : List (List (ByteArray × Vl))) : Prop := ∃ xs, w.ownsRow B 33 1 v xs.length xs ∧ All2 (fun x l => OwnM B w x l) xs lls
theorem own_ne {w : World} {B C e e' s s' n n' : Nat} {u v : Value} {xs ys : List Value} (h : w.ownsRow B e s u n xs) (k : w.ownsRow C e' s' v n' ys) (he : e ≠ e') : ∀ g, u.ownBlock = some g → v.ownBlock ≠ some g := fun g hu hv => by
  rcases h.2 with ⟨rfl, _⟩ | ⟨g1, c1, cur1, rfl, _, h1, _⟩
  · cases hu
  · cases hu
    rcases k.2 with ⟨rfl, _⟩ | ⟨g2, c2, cur2, rfl, _, h2, _⟩
    · cases hv
    · cases hv
      rw [h1] at h2
      injection h2 with h2
      injection h2 with _ h2
      exact he h2
theorem All2.map2 {β γ : Type} {r r' : β → γ → Prop} (hr : ∀ a b, r a b → r' a b) {l : List β} {m : List γ} (h : All2 r l m) : All2 r' l m := All2.mono hr h
theorem all_get {β γ : Type} {r : β → γ → Prop} : ∀ {l : List β} {m : List γ} (_ : All2 r l m) (i : Nat) (h1 : i < l.length) (h2 : i < m.length), r l[i] m[i]
  | [], _, _, i, h, _ => absurd h (Nat.not_lt_zero _)
  | _ :: _, _ :: _, h, 0, _, _ => h.1
  | _ :: _, _ :: _, h, i + 1, h1, h2 => all_get h.2 i (by simpa using h1) (by simpa using h2)
  | _ :: _, [], h, _, _, _ => h.elim
section
attribute [local irreducible] RnS
attribute [local irreducible] W Lst Qst Pu seqQ blkQ rndQ cutQ retQ Does Enters IntKind.wrap bits sb World.alloc World.putObj Blk
theorem c_toldO (x : Option Nat) (l : List (ByteArray × Mo)) (w : World) (hs : ∀ p ∈ l, p.1.size ≤ maxLen) (hl : l.length ≤ 1000000) (h1 : x = none → l = []) (h2 : ∀ mb, x = some mb → Bm w mb l) : Does Tryz.prog 31 #[.map x] w fun v w' => OwnM w.heap.size w' v (toldL l) ∧ Below w.heap.size w w' := by
  cases x with
  | none =>
    refine (c_toldN w).mono ?_
    rintro v w' ⟨rfl, hb⟩
    rw [h1 rfl, told_nil]
    exact ⟨OwnM.nil _ _, hb⟩
  | some mb => exact c_told mb l w hs hl (h2 mb rfl)
set_option maxHeartbeats 4000000 in
theorem c_All (ls : List Mo) (a : Option Addr) (c : Nat) (hs : t.sz ≤ 1000000) (hl : ls.length ≤ 1000000) (hk : ∀ o ∈ ls, o.key.size ≤ maxLen) (ho : Out F (.slice a ls.length c)) (hr : SRows w 22 (.slice a ls.length c) (ls.map ocs)) (h : SqAt w p F t) :
    Does Tryz.prog 10 #[.pointer (some ⟨p, 0, none⟩), .slice a ls.length c] w fun v w' => OwnLL w.heap.size w' v (allL t ls) ∧ SqAt w' p F t ∧ Turn F F w w' := by
  refine Does_of (args := [.pointer (some ⟨p, 0, none⟩), .slice a ls.length c]) Tryz.func10 (by kernel_rfl) rfl rfl rfl rfl rfl ?_
  have hFw : ∀ g, F g → g < w.heap.size := fun g hg => h.lt hg
  (refine Ga ?_)
  (apply Lst_call; (focus rfl); (focus rfl))
  refine (s_Len h).mono ?_
  rintro v w' ⟨rfl, rfl⟩
  apply Lst_makem (m := t.sz) (bytes := 8)
  focus rfl
  focus rfl
  focus rfl
  focus rfl
  focus omega
  focus omega
  focus rfl
  refine Lst_abs (fun A => SqAt A p F t ∧ Turn F F w A ∧ MA t.sz w A w.heap.size (List.replicate t.sz none) (fun i => bestL t ((i : Nat) : Int) (ls.take 0)) ∧ w.heap.size < A.heap.size) ⟨?_, ?_, ?_, ?_⟩ ?_
  · exact h.below ((Below.refl _ _).alloc (Nat.le_refl _) _)
  · exact .of ((Below.refl _ _).alloc (Nat.le_refl _) _)
  · refine ⟨Blk.new _ _ _, List.length_replicate, fun i mb hi => ?_, fun i _ => rfl, fun i j mb hi _ => ?_, Nat.le_refl _⟩
    · rw [List.getElem?_replicate] at hi
      split at hi <;> cases hi
    · rw [List.getElem?_replicate] at hi
      split at hi <;> cases hi
  · simp
  rintro w1 ⟨hS1, hT1, hM1, hz1⟩
  (refine Ga ?_)
  refine W_cutB (α := List (Option Nat)) (fun _ => [(5, .slice (some ⟨w.heap.size, 0, none⟩) t.sz t.sz)]) (fun Ms A => SqAt A p F t ∧ Turn F F w A ∧ MA t.sz w A w.heap.size Ms (fun i => bestL t ((i : Nat) : Int) ls)) ?_ ?_
  · refine W_loop (α := Nat × List (Option Nat)) (fun x => [(0, .pointer (some ⟨p, 0, none⟩)), (5, .slice (some ⟨w.heap.size, 0, none⟩) t.sz t.sz), (16, .slice a ls.length c), (17, .int .i64 (ls.length : Int)), (18, .int .i64 (x.1 : Int))])
      (fun x A => x.1 ≤ ls.length ∧ SqAt A p F t ∧ Turn F F w A ∧ MA t.sz w A w.heap.size x.2 (fun i => bestL t ((i : Nat) : Int) (ls.take x.1)) ∧ w.heap.size < A.heap.size) (fun x _ => ls.length - x.1) (0, List.replicate t.sz none) ⟨Nat.zero_le _, hS1, hT1, hM1, hz1⟩ ⟨rfl, rfl, rfl, rfl, rfl, trivial⟩ ?_
    clear hS1 hT1 hM1 hz1
    rintro J ⟨j, Ms⟩ A ⟨hj, hS, hT, hM, hzA⟩
    dsimp only at hj hS hT hM ⊢
    by_cases hjl : j < ls.length
    · have hrA := rows_turn hr ho hT
      obtain ⟨g, off, rfl, _, hc⟩ := hrA.at (i := j) (by rw [List.length_map]; exact hjl)
      rw [List.getElem_map] at hc
      have htk : ls.take (j + 1) = ls.take j ++ [ls[j]] := List.take_succ_eq_append_getElem hjl
      have hbs : ∀ place : Int, bestL t place (ls.take (j + 1)) = if onV t place ls[j] then winM (bestL t place (ls.take j)) ls[j] else bestL t place (ls.take j) := fun place => by rw [htk]; exact best_snoc t place _ _
      generalize ls[j] = o at *
      (refine Ga ?_)
      apply Lst_pu
      · apply P_idxm (j := j)
        focus rfl
        focus rfl
        focus rfl
        focus rfl
        focus rfl
        focus exact hjl
      focus rfl
      (refine Ga ?_)
      apply Lst_loadS' (cs := ocs o)
      focus rfl
      focus rfl
      focus rfl
      focus rfl
      focus rfl
      focus exact hc
      focus rfl
      unfold ocs
      (refine Ga ?_)
      refine Lst_abs (fun B => Below A.heap.size A B ∧ Blk B A.heap.size (ocs o) 47) ⟨Bel, (by (repeat (first | assumption | (apply Blk.below (hb := hb1); rotate_left; (focus ((try simp only [Sx.sizes]); omega)); rotate_right) | (apply Blk.below (hb := hb2); rotate_left; (focus ((try simp only [Sx.sizes]); omega)); rotate_right) | (apply Blk.below (hb := hb3); rotate_left; (focus ((try simp only [Sx.sizes]); omega)); rotate_right) | (apply Blk.below (hb := hb4); rotate_left; (focus ((try simp only [Sx.sizes]); omega)); rotate_right) | (apply Blk.below (hb := hb5); rotate_left; (focus ((try simp only [Sx.sizes]); omega)); rotate_right) | (apply Blk.below (hb := hb6); rotate_left; (focus ((try simp only [Sx.sizes]); omega)); rotate_right) | (apply Blk.below (hb := hb7); rotate_left; (focus ((try simp only [Sx.sizes]); omega)); rotate_right) | (apply Blk.below (hb := hb8); rotate_left; (focus ((try simp only [Sx.sizes]); omega)); rotate_right) | (apply Blk.below (hb := hb9); rotate_left; (focus ((try simp only [Sx.sizes]); omega)); rotate_right) | exact Blk.newE (by first | rfl | ((try simp only [Sx.sizes]); first | done | omega)) _ _ | exact Blk.put_same (by (try simp only [Sx.sizes]); first | done | omega) _ _ | (apply Blk.put_ne; (focus omega)) | apply Blk.alloc | apply Blk.drew)); done)⟩ ?_
      rintro B ⟨hbB, kB⟩
      have hSB := hS.below hbB
      have hTB := hT.trans (.of hbB)
      have hMB := hM.below hbB
      have hAF : ¬ F A.heap.size := fun hf => by have := hS.lt hf; omega
      have hAw : w.heap.size < A.heap.size := hzA
      generalize A.heap.size = bo at *
      have kB' := kB
      have lB := kB.lt
      unfold ocs at kB
      clear hS hT hM hbB hrA
      by_cases k3 : o.k = 3
      · (refine Ga ?_)
        (apply Lst_call; (focus rfl); (focus rfl))
        refine (c_Over o (by omega) hSB).mono ?_
        rintro v C ⟨rfl, hSC, hTC⟩
        have kC' := hTC.blk kB' hAF
        have hTwC := hTB.trans hTC
        have hMC := hMB.turn hTC hFw
        have on1 : ∀ place, onV t place o = (decide (((overV t o.fr o.to).1 : Int) ≤ place) && decide (place < ((overV t o.fr o.to).2 : Int))) := fun place => by
          unfold onV
          rw [decide_eq_true k3]
          rfl
        have hle : (overV t o.fr o.to).2 ≤ t.sz := by
          unfold overV
          split
          · exact gap_le
          · exact Nat.zero_le _
        generalize overV t o.fr o.to = ov at *
        obtain ⟨f1, f2⟩ := ov
        dsimp only at on1 hle ⊢
        (refine Ga ?_)
        refine W_loop (α := Nat × List (Option Nat)) (fun x => [(0, .pointer (some ⟨p, 0, none⟩)), (5, .slice (some ⟨w.heap.size, 0, none⟩) t.sz t.sz), (7, .pointer (some ⟨bo, 0, none⟩)), (8, .int .i64 (x.1 : Int)), (9, .int .i64 (f2 : Int)), (16, .slice (some ⟨g, off, none⟩) ls.length c), (17, .int .i64 (ls.length : Int)), (18, .int .i64 (j : Int))])
          (fun x A => f1 ≤ x.1 ∧ SqAt A p F t ∧ Turn F F w A ∧ MA t.sz w A w.heap.size x.2 (fun i => if i < x.1 then bestL t ((i : Nat) : Int) (ls.take (j + 1)) else bestL t ((i : Nat) : Int) (ls.take j)) ∧ Blk A bo (ocs o) 47) (fun x _ => f2 - x.1) (f1, Ms) ⟨Nat.le_refl _, hSC, hTwC, hMC.congr fun i _ => ?_, kC'⟩ ⟨rfl, rfl, rfl, rfl, rfl, rfl, rfl, rfl, trivial⟩ ?_
        · dsimp only
          by_cases hi : i < f1
          · rw [if_pos hi, hbs, on1, decide_eq_false (show ¬ ((f1 : Int) ≤ (i : Int)) by omega)]
            rfl
          · rw [if_neg hi]
        clear hSC hTC hMC kC' hTwC hTB hMB hSB kB kB' lB
        rintro J ⟨cur, Ms⟩ A ⟨hcu, hS, hT, hM, kO⟩
        dsimp only at hcu hS hT hM kO ⊢
        have lO := kO.lt
        by_cases hcl : cur < f2
        · have hcs : cur < Ms.length := by rw [hM.len]; omega
          have hcN : cur < t.sz := by omega
          have hget : (Ms.map Value.map)[0 + cur]? = some (.map Ms[cur]) := by
            rw [Nat.zero_add, List.getElem?_map, List.getElem?_eq_getElem hcs]
            rfl
          (refine Ga ?_)
          apply Lst_load (hb := hM.blk) (v := .map Ms[cur])
          focus rfl
          focus rfl
          focus rfl
          focus exact hget
          focus rfl
          refine Lst_cut2 (α := List (Option Nat) × Nat) (fun _ => [(0, .pointer (some ⟨p, 0, none⟩)), (5, .slice (some ⟨w.heap.size, 0, none⟩) t.sz t.sz), (7, .pointer (some ⟨bo, 0, none⟩)), (8, .int .i64 (cur : Int)), (9, .int .i64 (f2 : Int)), (16, .slice (some ⟨g, off, none⟩) ls.length c), (17, .int .i64 (ls.length : Int)), (18, .int .i64 (j : Int))])
            (fun x A => SqAt A p F t ∧ Turn F F w A ∧ MA t.sz w A w.heap.size x.1 (fun i => if i < cur then bestL t ((i : Nat) : Int) (ls.take (j + 1)) else bestL t ((i : Nat) : Int) (ls.take j)) ∧ Blk A bo (ocs o) 47 ∧ x.1[cur]? = some (some x.2)) ?_ ?_
          · cases hx : Ms[cur] with
            | none =>
              have hx' : Ms[cur]? = some none := by rw [List.getElem?_eq_getElem hcs, hx]
              apply Lst_pu
              · apply P_map_nil (r := true)
                focus rfl
                focus rfl
                focus rfl
                focus rfl
              focus rfl
              (refine Ga ?_)
              apply Lst_makemap
              focus rfl
              have hbN : Below A.heap.size A (A.alloc (.map #[] 0)) := Bel
              have hN : Bm (A.alloc (.map #[] 0)) A.heap.size [] := MpAt.new A RO
              have hMN := hM.below hbN
              have hset : ((Ms.map Value.map).set (0 + cur) (.map (some A.heap.size))) = (Ms.set cur (some A.heap.size)).map Value.map := by
                rw [List.map_set, Nat.zero_add]
              have hwA : w.heap.size < A.heap.size := hM.blk.lt
              have hfr : ∀ k : Nat, Ms[k]? ≠ some (some A.heap.size) := fun k hk => by
                have := (hM.got k _ hk).1.lt
                omega
              have hnew := hMN.new hx' hN (by omega) (by omega) hfr
              have hSN := hS.below hbN
              have hTN := hT.trans (.of hbN)
              have kON := kO.below hbN lO
              (refine Ga ?_)
              apply Lst_storeN (hb := hMN.blk) (v := .map (some A.heap.size))
              focus rfl
              focus constructor
              focus rfl
              focus rfl
              focus rfl
              focus rfl
              focus (rw [List.length_map]; omega)
              rw [hset]
              (refine Ga ?_)
              refine cutQ_n (Ms.set cur (some A.heap.size), A.heap.size) ⟨?_, ?_, hnew, ?_, ?_⟩ ⟨rfl, rfl, rfl, rfl, rfl, rfl, rfl, rfl, trivial⟩
              · exact SqAt.putF hSN (fun hf => by have := hFw _ hf; omega) _
              · exact hTN.putB (Nat.le_refl _) _
              · exact Blk.put_ne (by omega) kON
              · rw [set_get hcs, if_pos rfl]
            | some mb =>
              have hx' : Ms[cur]? = some (some mb) := by rw [List.getElem?_eq_getElem hcs, hx]
              apply Lst_pu
              · apply P_map_nil (r := false)
                focus rfl
                focus rfl
                focus rfl
                focus rfl
              focus rfl
              (refine Ga ?_)
              exact cutQ_n (Ms, mb) ⟨hS, hT, hM, kO, hx'⟩ ⟨rfl, rfl, rfl, rfl, rfl, rfl, rfl, rfl, trivial⟩
          · rintro J ⟨Ms, mb⟩ A ⟨hS, hT, hM, kO, hx⟩
            dsimp only at hM kO hx ⊢
            have lO := kO.lt
            have kO' := kO
            unfold ocs at kO
            have hg := hM.got cur mb hx
            have hget : (Ms.map Value.map)[0 + cur]? = some (.map (some mb)) := by
              rw [Nat.zero_add, List.getElem?_map, hx]
              rfl
            (refine Ga ?_)
            refine W_drawT 6 (fun A' => A' = A.drew) rfl rfl ?_
            refine T_takeV 0 2 5 rfl (by kernel_rfl) (by repeat (first | exact retQ_p | apply seqQ_p | apply blkQ_p | apply rndQ_p | apply cutQ_p)) rfl ?_
            (refine Qf ?_)
            refine T_takeV 1 2 4 rfl (by kernel_rfl) (by repeat (first | exact retQ_p | apply seqQ_p | apply blkQ_p | apply rndQ_p | apply cutQ_p)) rfl ?_
            (refine Qf ?_)
            refine T_takeV 2 3 3 rfl (by kernel_rfl) (by repeat (first | exact retQ_p | apply seqQ_p | apply blkQ_p | apply rndQ_p | apply cutQ_p)) rfl ?_
            (refine Qa ?_)
            refine T_takeV 3 5 2 rfl (by kernel_rfl) (by repeat (first | exact retQ_p | apply seqQ_p | apply blkQ_p | apply rndQ_p | apply cutQ_p)) rfl ?_
            apply Qst_load (v := .map (some mb))
            focus rfl
            focus rfl
            focus rfl
            focus exact fun A' e => by subst e; exact Blk.drew hM.blk
            focus exact hget
            focus rfl
            (refine Qf ?_)
            refine T_takeV 4 5 1 rfl (by kernel_rfl) (by repeat (first | exact retQ_p | apply seqQ_p | apply blkQ_p | apply rndQ_p | apply cutQ_p)) rfl ?_
            apply Qst_loadA (cs := ocs o)
            focus rfl
            focus rfl
            focus rfl
            focus rfl
            focus rfl
            focus exact fun A' e => by subst e; exact Blk.drew kO'
            focus (unfold ocs; repeat constructor)
            focus rfl
            (refine Qf ?_)
            refine T_last 5 (by kernel_rfl) ?_
            (apply Lst_call; (focus rfl); (focus rfl))
            refine (c_win mb _ o A.drew hg.1.drew).mono ?_
            rintro v B ⟨rfl, hB, hcB⟩
            have hMd := (hM.below (Below.drew (Below.refl _ _))).win hx hB hcB
            have hSB := SqAt.chg (hS.below (Below.drew (Below.refl _ _))) hcB fun b hb => by
              rw [List.mem_singleton.1 hb]
              exact fun hf => by have := hFw _ hf; have := hg.2.1; omega
            have hTB := Turn.chg (hT.trans (.of (Below.drew (Below.refl _ _)))) hcB fun b hb => by
              rw [List.mem_singleton.1 hb]
              exact hg.2.1
            have hnO : bo ≠ mb := fun e => by
              have h1 := hg.1.not_cells 0
              rw [← e, kO'.cell] at h1
              cases h1
            have kOB := hcB.blk (Blk.drew kO') (by simpa using hnO)
            apply Lst_nil
            apply rnQ_n
            (refine Ga ?_)
            refine rndQ_n (α := Nat × List (Option Nat)) (cur + 1, Ms) ⟨by dsimp only; omega, hSB, hTB, hMd.congr fun i _ => ?_, kOB⟩ ⟨rfl, rfl, rfl, ?_, rfl, rfl, rfl, rfl, trivial⟩ (by dsimp only; omega)
            · dsimp only
              by_cases hi : i = cur
              · subst hi
                rw [if_pos (Nat.lt_succ_self _), if_pos rfl, if_neg (Nat.lt_irrefl _), hbs, on1, decide_eq_true (show (f1 : Int) ≤ (i : Int) by omega), decide_eq_true (show (i : Int) < (f2 : Int) by omega)]
                rfl
              · rw [if_neg hi]
                by_cases hi2 : i < cur
                · rw [if_pos hi2, if_pos (by omega)]
                · rw [if_neg hi2, if_neg (by omega)]
            · exact congrArg (Value.int .i64) (by dsimp only; omega)
        · (refine Ga ?_)
          refine rndQ_n (α := Nat × List (Option Nat)) (j + 1, Ms) ⟨hjl, hS, hT, hM.congr fun i _ => ?_, hM.blk.lt⟩ ⟨rfl, rfl, rfl, rfl, ?_, trivial⟩ (by dsimp only; omega)
          · dsimp only
            by_cases hi : i < cur
            · rw [if_pos hi]
            · rw [if_neg hi, hbs, on1, decide_eq_false (show ¬ ((i : Int) < (f2 : Int)) by omega), Bool.and_false]
              rfl
          · exact congrArg (Value.int .i64) (by dsimp only; omega)
      · have hon : ∀ place, onV t place o = false := fun place => by unfold onV; rw [decide_eq_false k3]; rfl
        (refine Ga ?_)
        refine rndQ_n (α := Nat × List (Option Nat)) (j + 1, Ms) ⟨hjl, hSB, hTB, ?_, by omega⟩ ⟨rfl, rfl, rfl, rfl, ?_, trivial⟩ (by dsimp only; omega)
        · refine hMB.congr fun i _ => ?_
          rw [hbs, hon]
          rfl
        · exact congrArg (Value.int .i64) (by dsimp only; omega)
    · obtain rfl : j = ls.length := by omega
      rw [List.take_length] at hM
      (refine Ga ?_)
      exact cutQ_n Ms ⟨hS, hT, hM⟩ ⟨rfl, trivial⟩
  · rintro J Ms w2 ⟨hS, hT, hM⟩
    (refine Ga ?_)
    refine W_loop (α := Nat × Value) (fun x => [(10, x.2), (52, .slice (some ⟨w.heap.size, 0, none⟩) t.sz t.sz), (53, .int .i64 (t.sz : Int)), (54, .int .i64 (x.1 : Int))])
      (fun x A => x.1 ≤ t.sz ∧ Below w2.heap.size w2 A ∧ ∃ xs, A.ownsRow w2.heap.size 33 1 x.2 xs.length xs ∧ All2 (fun y l => OwnM w2.heap.size A y l) xs ((List.range x.1).map fun i => toldL (bestL t ((i : Nat) : Int) ls))) (fun x _ => t.sz - x.1) (0, .slice none 0 0) ⟨Nat.zero_le _, Below.refl _ _, [], ⟨rfl, .inl ⟨rfl, rfl⟩⟩, trivial⟩ ⟨rfl, rfl, rfl, rfl, trivial⟩ ?_
    rintro J ⟨i, v⟩ A ⟨hi, hbA, xs, hox, hall⟩
    dsimp only at hi hbA hox hall ⊢
    have hMA := hM
    obtain ⟨v1, v2, v3, rfl⟩ := own_slice hox
    have hlen : xs.length = i := by
      have := All2.len hall
      simpa using this
    by_cases hil : i < t.sz
    · have hcs : i < Ms.length := by rw [hM.len]; exact hil
      have hgA : Blk A w.heap.size (Ms.map Value.map) 72 := hM.blk.below hbA hM.blk.lt
      have hget : (Ms.map Value.map)[0 + i]? = some (.map Ms[i]) := by
        rw [Nat.zero_add, List.getElem?_map, List.getElem?_eq_getElem hcs]
        rfl
      have hrg : (List.range (i + 1)).map (fun i => toldL (bestL t ((i : Nat) : Int) ls)) = (List.range i).map (fun i => toldL (bestL t ((i : Nat) : Int) ls)) ++ [toldL (bestL t (i : Int) ls)] := by
        rw [List.range_succ, List.map_append, List.map_singleton]
      (refine Ga ?_)
      apply Lst_load (hb := hgA) (v := .map Ms[i])
      focus rfl
      focus rfl
      focus rfl
      focus exact hget
      focus rfl
      (refine Ga ?_)
      (apply Lst_call; (focus rfl); (focus rfl))
      refine (c_toldO Ms[i] (bestL t ((i : Nat) : Int) ls) A (best_keys hk) (Nat.le_trans best_len hl) (fun e => hM.no i (by rw [List.getElem?_eq_getElem hcs, e])) (fun mb e => (hM.got i mb (by rw [List.getElem?_eq_getElem hcs, e])).1.below' hbA)).mono ?_
      rintro v C ⟨hoC, hbC⟩
      have bC := hbA.trans (hbC.mono hbA.size)
      have hsC := bC.size
      have hsA := hbA.size
      have hoxC := own_below hox hbC (Nat.le_refl _)
      have hallC := All2.mono (r' := fun y l => OwnM w2.heap.size C y l) (fun y l hy => own_below hy hbC (Nat.le_refl _)) hall
      have hoC2 : OwnM w2.heap.size C v (toldL (bestL t (i : Int) ls)) := own_lowM hoC hsA
      obtain ⟨y1, y2, y3, rfl⟩ := own_slice hoC2
      have hnew := hallC.append (l' := [.slice y1 y2 y3]) (m' := [toldL (bestL t (i : Int) ls)]) ⟨hoC2, trivial⟩
      rw [← hrg] at hnew
      (refine Ga ?_)
      apply Lst_push (hown := hoxC) (bytes := 24)
      ((focus constructor); (focus rfl); (focus rfl); (focus rfl); (focus rfl); (focus rfl); (focus rfl); (focus rfl); (focus rfl); (focus rfl); (focus rfl); (focus simp [Value.oneCell']); (focus rfl); (focus rfl); (focus rfl); (focus rfl); (focus omega); (focus omega); (focus omega))
      intro v4 D ho2 hg2 _
      have bD := Below.own bC hoxC hg2 (Nat.le_refl _) hsC
      have hnD := All2.mono (r' := fun y l => OwnM w2.heap.size D y l) (fun y l hy => own_kept hy fun g hg => hg2.block g (own_ltg hy hg) (fun e => own_ne hy hoxC (by decide) g hg e.symm)) hnew
      have ho3 : D.ownsRow w2.heap.size 33 1 v4 (xs ++ [Value.slice y1 y2 y3]).length (xs ++ [Value.slice y1 y2 y3]) := by
        rw [List.length_append]
        exact ho2
      obtain ⟨z1, z2, z3, rfl⟩ := own_slice ho3
      (refine Ga ?_)
      refine rndQ_n (α := Nat × Value) (i + 1, .slice z1 z2 z3) ⟨hil, bD, xs ++ [.slice y1 y2 y3], ho3, hnD⟩ ⟨rfl, rfl, rfl, ?_, trivial⟩ (by dsimp only; omega)
      exact congrArg (Value.int .i64) (by dsimp only; omega)
    · obtain rfl : i = t.sz := by omega
      (refine Ga ?_)
      (apply retQ1; (focus rfl))
      refine ⟨⟨xs, own_lowM hox hT.size, All2.mono (fun y l hy => own_lowM hy hT.size) hall⟩, ?_, ?_⟩
      · exact hS.kept hbA.os hbA.tape hbA.output hbA.size fun g hg => hbA.block g (hS.lt hg)
      · exact hT.trans (.of hbA)
end
end Mk
end Go.Proofs.YtmgipnckojopcaaGreat
