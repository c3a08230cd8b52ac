/- Marks: what a place shows. -/
import Derived.Test.YtmgipnckojopcaaGreatPcMkB
import Derived.Test.YtmgipnckojopcaaGreatPcJSqRunsPToSqAnP
namespace Go.Proofs.YtmgipnckojopcaaGreat
set_option maxRecDepth 100000
namespace Mk
open Go Go.RowKit Sx Tl Sq Val
/-- A slice that lies in none of these blocks. -/
def Out (F : Nat → Prop) (v : Value) : Prop := ∀ b off sp n c, v = .slice (some ⟨b, off, sp⟩) n c → 0 < n → ¬ F b
variable {w w' : World} {p : Nat} {F F' : Nat → Prop} {t : Fo}
theorem rows_turn {sz : Nat} {v : Value} {ls : List (List Value)} (h : SRows w sz v ls) (ho : Out F v) (hT : Turn F F' w w') : SRows w' sz v ls := by
  obtain ⟨b, off, cap, hf, hr⟩ := h
  refine ⟨b, off, cap, hf, fun i hi => ?_⟩
  obtain ⟨h1, h2⟩ := hr i hi
  refine ⟨Nat.lt_of_lt_of_le h1 hT.size, fun j u hu => ?_⟩
  rcases hf with rfl | ⟨_, rfl⟩
  · have hb := hT.block b h1 (ho b off none _ _ rfl (Nat.zero_lt_of_lt hi))
    rw [World.cell?_of_block hb]
    exact h2 j u hu
  · exact absurd hi (Nat.not_lt_zero _)
theorem Turn.chg {A : World} {bs : List Nat} (h : Turn F F w A) (hc : Chg bs A w') (hb : ∀ b ∈ bs, w.heap.size ≤ b) : Turn F F w w' :=
  ⟨hc.os.trans h.os, hc.tape.trans h.tape, hc.output.trans h.output, Nat.le_trans h.size hc.size, fun _ _ => Iff.rfl, fun g hg hn => (hc.block g (Nat.lt_of_lt_of_le hg h.size) fun hm => by have := hb g hm; omega).trans (h.block g hg hn)⟩
theorem SqAt.chg {bs : List Nat} (h : SqAt w p F t) (hc : Chg bs w w') (hb : ∀ b ∈ bs, ¬ F b) : SqAt w' p F t :=
  h.kept hc.os hc.tape hc.output hc.size fun g hg => hc.block g (h.lt hg) fun hm => hb g hm hg
theorem Bm.turn {mb : Nat} {m : List (ByteArray × Mo)} (h : Bm w mb m) (hT : Turn F F' w w') (hn : ¬ F mb) : Bm w' mb m := MpAt.mono h (hT.block mb h.lt hn) fun _ _ h => h
/-- Is this mark over this place? -/
def onV (t : Fo) (place : Int) (o : Mo) : Bool := decide (o.k = 3) && (decide (((overV t o.fr o.to).1 : Int) ≤ place) && decide (place < ((overV t o.fr o.to).2 : Int)))
/-- The winners at a place. -/
def bestL (t : Fo) (place : Int) (l : List Mo) : List (ByteArray × Mo) := (l.filter (onV t place)).foldl winM []
def atL (t : Fo) (l : List Mo) (place : Int) : List (ByteArray × Vl) := if place < 0 ∨ (t.sz : Int) ≤ place then [] else toldL (bestL t place l)
theorem ocs_len (l : List Mo) : ∀ x ∈ l.map ocs, x.length = 22 := fun x hx => by
  obtain ⟨u, _, rfl⟩ := List.mem_map.1 hx
  rfl
theorem best_snoc (t : Fo) (place : Int) (l : List Mo) (o : Mo) : bestL t place (l ++ [o]) = if onV t place o then winM (bestL t place l) o else bestL t place l := by
  unfold bestL
  rw [List.filter_append, List.foldl_append]
  cases h : onV t place o <;> simp [h]
theorem put_keys {k : ByteArray} {a : Mo} : ∀ {m : List (ByteArray × Mo)} {q : ByteArray × Mo}, q ∈ Sx.put m k a → q.1 = k ∨ ∃ r ∈ m, q.1 = r.1
  | [], q, h => by
    unfold Sx.put at h
    rw [List.mem_singleton.1 h]
    exact .inl rfl
  | r :: m, q, h => by
    unfold Sx.put at h
    split at h
    · rcases List.mem_cons.1 h with h | h
      · rename_i e
        exact .inl (by rw [h])
      · exact .inr ⟨q, List.mem_cons_of_mem _ h, rfl⟩
    · rcases List.mem_cons.1 h with h | h
      · exact .inr ⟨r, List.mem_cons_self .., by rw [h]⟩
      · rcases put_keys h with h | ⟨r', hr, h⟩
        · exact .inl h
        · exact .inr ⟨r', List.mem_cons_of_mem _ hr, h⟩
theorem put_len {k : ByteArray} {a : Mo} : ∀ {m : List (ByteArray × Mo)}, (Sx.put m k a).length ≤ m.length + 1
  | [] => Nat.le_refl _
  | r :: m => by
    unfold Sx.put
    split
    · exact Nat.le_succ _
    · have := put_len (k := k) (a := a) (m := m)
      simp only [List.length_cons]
      omega
theorem win_keys {m : List (ByteArray × Mo)} {o : Mo} {q : ByteArray × Mo} (h : q ∈ winM m o) : q.1 = o.key ∨ ∃ r ∈ m, q.1 = r.1 := by
  unfold winM at h
  split at h
  · exact put_keys h
  · split at h
    · exact put_keys h
    · exact .inr ⟨q, h, rfl⟩
theorem win_len {m : List (ByteArray × Mo)} {o : Mo} : (winM m o).length ≤ m.length + 1 := by
  unfold winM
  split
  · exact put_len
  · split
    · exact put_len
    · exact Nat.le_succ _
theorem fold_keys : ∀ {l : List Mo} {m : List (ByteArray × Mo)} {q : ByteArray × Mo}, q ∈ l.foldl winM m → (∃ o ∈ l, q.1 = o.key) ∨ ∃ r ∈ m, q.1 = r.1
  | [], m, q, h => .inr ⟨q, h, rfl⟩
  | o :: l, m, q, h => by
    rcases fold_keys (l := l) h with ⟨x, hx, e⟩ | ⟨r, hr, e⟩
    · exact .inl ⟨x, List.mem_cons_of_mem _ hx, e⟩
    · rcases win_keys hr with e' | ⟨r', hr', e'⟩
      · exact .inl ⟨o, List.mem_cons_self .., e.trans e'⟩
      · exact .inr ⟨r', hr', e.trans e'⟩
theorem fold_len : ∀ {l : List Mo} {m : List (ByteArray × Mo)}, (l.foldl winM m).length ≤ m.length + l.length
  | [], _ => Nat.le_refl _
  | o :: l, m => by
    have h1 := fold_len (l := l) (m := winM m o)
    have h2 := win_len (m := m) (o := o)
    rw [List.foldl_cons, List.length_cons]
    omega
theorem best_keys {place : Int} {l : List Mo} {N : Nat} (h : ∀ o ∈ l, o.key.size ≤ N) : ∀ q ∈ bestL t place l, q.1.size ≤ N := fun q hq => by
  rcases fold_keys hq with ⟨o, ho, e⟩ | ⟨r, hr, _⟩
  · rw [e]
    exact h o (List.mem_filter.1 ho).1
  · cases hr
theorem best_len {place : Int} {l : List Mo} : (bestL t place l).length ≤ l.length := by
  have h1 := fold_len (l := l.filter (onV t place)) (m := [])
  have h2 := List.length_filter_le (onV t place) l
  unfold bestL
  simp only [List.length_nil] at h1
  omega
theorem Lst_makemap {P : Program} {rd : Option Nat} {n : Nat} {ops : Array Oper} {Q : Post} {rest : List Oper} {F : Fr} {ds : List Deferred} {w : World} {ty : TypeId} {pos : String} {after : Array Edge} {d : Nat} {t : TypeId} (hd : Nat.blt d n = true) (h : Lst P rd n ops Q rest (upd F d (.map (some w.heap.size))) ds (w.alloc (.map #[] 0))) : Lst P rd n ops Q (⟨some d, .makeMap t none, ty, pos, after, none⟩ :: rest) F ds w :=
  Lst_value rfl (by simp [execOp, Instr.makeMap]) hd h
attribute [local irreducible] W Lst Qst Pu seqQ blkQ rndQ cutQ retQ Does Enters IntKind.wrap bits sb World.alloc World.putObj Blk
set_option maxHeartbeats 2000000 in
theorem c_At (ls : List Mo) (a : Option Addr) (c : Nat) (place : Int) (hs : t.sz ≤ 1000000000 - 1) (hl : ls.length ≤ 1000000) (hk : ∀ o ∈ ls, o.key.size ≤ maxLen) (ho : Out F (.slice a ls.length c)) (hr : SRows w 22 (.slice a ls.length c) (ls.map ocs)) (h : SqAt w p F t) :
    Does Tryz.prog 14 #[.pointer (some ⟨p, 0, none⟩), .slice a ls.length c, .int .i64 place] w fun v w' => OwnM w.heap.size w' v (atL t ls place) ∧ SqAt w' p F t ∧ Turn F F w w' := by
  refine Does_of (args := [.pointer (some ⟨p, 0, none⟩), .slice a ls.length c, .int .i64 place]) Tryz.func14 (by kernel_rfl) rfl rfl rfl rfl rfl ?_
  by_cases h0 : place < 0
  · have e : atL t ls place = [] := if_pos (.inl h0)
    (refine Ga ?_)
    (apply retQ1; (focus rfl))
    rw [e]
    exact ⟨OwnM.nil _ _, h, Turn.refl _ _⟩
  · (refine Ga ?_)
    (apply Lst_call; (focus rfl); (focus rfl))
    refine (s_Len h).mono ?_
    rintro v w' ⟨rfl, rfl⟩
    by_cases h1 : (t.sz : Int) ≤ place
    · have e : atL t ls place = [] := if_pos (.inr h1)
      (refine Ga ?_)
      (apply retQ1; (focus rfl))
      rw [e]
      exact ⟨OwnM.nil _ _, h, Turn.refl _ _⟩
    · have e : atL t ls place = toldL (bestL t place ls) := if_neg (by omega)
      (refine Ga ?_)
      apply Lst_makemap
      focus rfl
      have hbM : Below w.heap.size w (w.alloc (.map #[] 0)) := Bel
      have hM : Bm (w.alloc (.map #[] 0)) w.heap.size (bestL t place (ls.take 0)) := by
        rw [List.take_zero]
        exact MpAt.new w RO
      have hnF : ¬ F w.heap.size := fun hf => by have := h.lt hf; omega
      have hwM : w.heap.size < (w.alloc (.map #[] 0)).heap.size := by simp
      (refine Ga ?_)
      refine W_loop (α := Nat) (fun i => [(0, .pointer (some ⟨p, 0, none⟩)), (2, .int .i64 place), (7, .map (some w.heap.size)), (21, .slice a ls.length c), (22, .int .i64 (ls.length : Int)), (23, .int .i64 (i : Int))])
        (fun i A => i ≤ ls.length ∧ SqAt A p F t ∧ Turn F F w A ∧ Bm A w.heap.size (bestL t place (ls.take i))) (fun i _ => ls.length - i) 0 ⟨Nat.zero_le _, h.below hbM, .of hbM, hM⟩ ⟨rfl, rfl, rfl, rfl, rfl, rfl, trivial⟩ ?_
      clear hM hbM hwM
      rintro J i A ⟨hi, hS, hT, hM⟩
      by_cases hil : i < ls.length
      · have hrA := rows_turn hr ho hT
        obtain ⟨g, off, rfl, _, hc⟩ := hrA.at (i := i) (by rw [List.length_map]; exact hil)
        rw [List.getElem_map] at hc
        have htk : ls.take (i + 1) = ls.take i ++ [ls[i]] := List.take_succ_eq_append_getElem hil
        have hbs := best_snoc t place (ls.take i) ls[i]
        rw [← htk] at hbs
        generalize ls[i] = o at *
        (refine Ga ?_)
        apply Lst_pu
        · apply P_idxm (j := i)
          focus rfl
          focus rfl
          focus rfl
          focus rfl
          focus rfl
          focus exact hil
        focus rfl
        (refine Ga ?_)
        apply Lst_loadS' (cs := ocs o)
        focus rfl
        focus rfl
        focus rfl
        focus rfl
        focus rfl
        focus exact hc
        focus rfl
        unfold ocs
        (refine Ga ?_)
        refine Lst_abs (fun B => Below A.heap.size A B ∧ Blk B A.heap.size (ocs o) 47) ⟨Bel, (by (repeat (first | assumption | (apply Blk.below (hb := hb1); rotate_left; (focus ((try simp only [Sx.sizes]); omega)); rotate_right) | (apply Blk.below (hb := hb2); rotate_left; (focus ((try simp only [Sx.sizes]); omega)); rotate_right) | (apply Blk.below (hb := hb3); rotate_left; (focus ((try simp only [Sx.sizes]); omega)); rotate_right) | (apply Blk.below (hb := hb4); rotate_left; (focus ((try simp only [Sx.sizes]); omega)); rotate_right) | (apply Blk.below (hb := hb5); rotate_left; (focus ((try simp only [Sx.sizes]); omega)); rotate_right) | (apply Blk.below (hb := hb6); rotate_left; (focus ((try simp only [Sx.sizes]); omega)); rotate_right) | (apply Blk.below (hb := hb7); rotate_left; (focus ((try simp only [Sx.sizes]); omega)); rotate_right) | (apply Blk.below (hb := hb8); rotate_left; (focus ((try simp only [Sx.sizes]); omega)); rotate_right) | (apply Blk.below (hb := hb9); rotate_left; (focus ((try simp only [Sx.sizes]); omega)); rotate_right) | exact Blk.newE (by first | rfl | ((try simp only [Sx.sizes]); first | done | omega)) _ _ | exact Blk.put_same (by (try simp only [Sx.sizes]); first | done | omega) _ _ | (apply Blk.put_ne; (focus omega)) | apply Blk.alloc | apply Blk.drew)); done)⟩ ?_
        rintro B ⟨hbB, kB⟩
        have lB := kB.lt
        have kB' := kB
        unfold ocs at kB
        have hSB := hS.below hbB
        have hTB := hT.trans (.of hbB)
        have hMB := hM.below hbB
        have hAF : ¬ F A.heap.size := fun hf => by have := hS.lt hf; omega
        (refine Ga ?_)
        (apply Lst_call; (focus rfl); (focus rfl))
        refine (c_Over o hs hSB).mono ?_
        rintro v C ⟨rfl, hSC, hTC⟩
        have hMC := Bm.turn hMB hTC hnF
        have kC' := hTC.blk kB' hAF
        have kC := kC'
        unfold ocs at kC
        have lC := kC.lt
        have hTwC := hTB.trans hTC
        have on1 : onV t place o = (decide (o.k = 3) && (decide (((overV t o.fr o.to).1 : Int) ≤ place) && decide (place < ((overV t o.fr o.to).2 : Int)))) := rfl
        generalize hov : overV t o.fr o.to = ov at *
        obtain ⟨f1, f2⟩ := ov
        dsimp only at on1 ⊢
        have skip : onV t place o = false → bestL t place (ls.take (i + 1)) = bestL t place (ls.take i) := fun h => by rw [hbs, h]; rfl
        by_cases k3 : o.k = 3
        · by_cases k1 : (f1 : Int) ≤ place
          · by_cases k2 : place < (f2 : Int)
            · have hon : onV t place o = true := by rw [on1, decide_eq_true k3, decide_eq_true k1, decide_eq_true k2]; rfl
              rw [hon, if_pos rfl] at hbs
              (refine Ga ?_)
              (apply Lst_call; (focus rfl); (focus rfl))
              refine (c_win w.heap.size _ o C hMC).mono ?_
              rintro v D ⟨rfl, hMD, hCD⟩
              (refine Ga ?_)
              refine rndQ_n (α := Nat) (i + 1) ⟨hil, SqAt.chg hSC hCD (fun b hb => by rw [List.mem_singleton.1 hb]; exact hnF), Turn.chg hTwC hCD (fun b hb => by rw [List.mem_singleton.1 hb]; exact Nat.le_refl _), by rw [hbs]; exact hMD⟩ ⟨rfl, rfl, rfl, rfl, rfl, ?_, trivial⟩ (by omega)
              exact congrArg (Value.int .i64) (by omega)
            · have hon : onV t place o = false := by rw [on1, decide_eq_false k2]; simp
              (refine Ga ?_)
              refine rndQ_n (α := Nat) (i + 1) ⟨hil, hSC, hTwC, by rw [skip hon]; exact hMC⟩ ⟨rfl, rfl, rfl, rfl, rfl, ?_, trivial⟩ (by omega)
              exact congrArg (Value.int .i64) (by omega)
          · have hon : onV t place o = false := by rw [on1, decide_eq_false k1]; simp
            (refine Ga ?_)
            refine rndQ_n (α := Nat) (i + 1) ⟨hil, hSC, hTwC, by rw [skip hon]; exact hMC⟩ ⟨rfl, rfl, rfl, rfl, rfl, ?_, trivial⟩ (by omega)
            exact congrArg (Value.int .i64) (by omega)
        · have hon : onV t place o = false := by rw [on1, decide_eq_false k3]; rfl
          (refine Ga ?_)
          refine rndQ_n (α := Nat) (i + 1) ⟨hil, hSC, hTwC, by rw [skip hon]; exact hMC⟩ ⟨rfl, rfl, rfl, rfl, rfl, ?_, trivial⟩ (by omega)
          exact congrArg (Value.int .i64) (by omega)
      · obtain rfl : i = ls.length := by omega
        rw [List.take_length] at hM
        (refine Ga ?_)
        (apply Lst_call; (focus rfl); (focus rfl))
        refine (c_told w.heap.size _ A (best_keys hk) (Nat.le_trans best_len hl) hM).mono ?_
        rintro v B ⟨hoB, hbB⟩
        obtain ⟨y1, y2, y3, rfl⟩ := own_slice hoB
        (refine Ga ?_)
        (apply retQ1; (focus rfl))
        rw [e]
        exact ⟨own_lowM hoB hT.size, hS.below hbB, hT.trans (.of hbB)⟩
end Mk
end Go.Proofs.YtmgipnckojopcaaGreat
