/- Marks: which lists of marks are looked at (light). -/
import Derived.Test.YtmgipnckojopcaaGreatPcMkJ
import Derived.Test.YtmgipnckojopcaaGreatPcMkN
import Derived.Test.YtmgipnckojopcaaGreatPcMkF
import Derived.Test.YtmgipnckojopcaaGreatPcMkG
import Derived.Test.YtmgipnckojopcaaGreatPcMkEnds
namespace Go.Proofs.YtmgipnckojopcaaGreat
set_option maxRecDepth 100000
namespace Mk
open Go Go.RowKit Sx Tl Sq Val
theorem own_turn {F F' : Nat → Prop} {w w' : World} {B e sz n : Nat} {v : Value} {xs : List Value} (h : w.ownsRow B e sz v n xs) (hT : Turn F F' w w') (hF : ∀ g, F g → g < B) : w'.ownsRow B e sz v n xs :=
  own_keep h fun g o hg ho _ => (hT.block g (lt_of_some ho) fun hf => by have := hF g hf; omega).trans ho
theorem OwnM.turn {F F' : Nat → Prop} {w w' : World} {B : Nat} {v : Value} {l : List Mk} (h : OwnM B w v l) (hT : Turn F F' w w') (hF : ∀ g, F g → g < B) : OwnM B w' v l := own_turn h hT hF
theorem OwnM.below {w w' : World} {B : Nat} {v : Value} {l : List Mk} (h : OwnM B w v l) (hb : Below w.heap.size w w') : OwnM B w' v l := own_below h hb (Nat.le_refl _)
theorem OwnLL.turn {F F' : Nat → Prop} {w w' : World} {B : Nat} {v : Value} {l : List (List Mk)} (h : OwnLL B w v l) (hT : Turn F F' w w') (hF : ∀ g, F g → g < B) : OwnLL B w' v l := by
  obtain ⟨xs, h1, h2⟩ := h
  exact ⟨xs, own_turn h1 hT hF, All2.map2 (fun _ _ h => OwnM.turn h hT hF) h2⟩
theorem OwnLL.below {w w' : World} {B : Nat} {v : Value} {l : List (List Mk)} (h : OwnLL B w v l) (hb : Below w.heap.size w w') : OwnLL B w' v l := by
  obtain ⟨xs, h1, h2⟩ := h
  exact ⟨xs, own_below h1 hb (Nat.le_refl _), All2.map2 (fun _ _ h => OwnM.below h hb) h2⟩
theorem OwnLL.form {w : World} {B : Nat} {v : Value} {l : List (List Mk)} (h : OwnLL B w v l) : ∃ a c, v = .slice a l.length c := by
  obtain ⟨xs, h1, h2⟩ := h
  obtain ⟨a, c, rfl, _⟩ := own_form h1
  exact ⟨a, c, by rw [All2.len h2]⟩
/-- One of the rows. -/
theorem OwnLL.at {w : World} {B n c : Nat} {a : Option Addr} {l : List (List Mk)} (h : OwnLL B w (.slice a n c) l) {k : Nat} (hk : k < l.length) : ∃ g v d, a = some ⟨g, 0, none⟩ ∧ w.cell? ⟨g, 0 + k, none⟩ = some (.slice v l[k].length d) ∧ OwnM B w (.slice v l[k].length d) l[k] := by
  obtain ⟨xs, h1, h2⟩ := h
  have hx : k < xs.length := by rw [All2.len h2]; exact hk
  obtain ⟨g, c', e, hc⟩ := own_cell h1 hx
  injection e with e1 _ _
  have ho : OwnM B w xs[k] l[k] := all_get h2 k hx hk
  obtain ⟨v, d, e2, _⟩ := own_form ho
  change xs[k] = _ at e2
  rw [e2] at hc ho
  exact ⟨g, v, d, e1, hc, ho⟩
theorem allL_len (t : Fo) (l : List Mo) : (allL t l).length = t.sz := by unfold allL; rw [List.length_map, List.length_range]
theorem allL_at (t : Fo) (l : List Mo) {k : Nat} (hk : k < (allL t l).length) : (allL t l)[k] = toldL (bestL t (k : Int) l) := by
  simp [allL]
theorem told_fit {t : Fo} {place : Int} {l : List Mo} (hl : ∀ o ∈ l, o.v.Fit) : ∀ q ∈ toldL (bestL t place l), q.2.Fit := fun q hq => by
  obtain ⟨o, ho, _, _, e⟩ := told_mem hq
  rw [e]
  exact clean_fit (hl o ho)
theorem flatMap_len {α β : Type} {f : α → List β} (h : ∀ a, (f a).length ≤ 1) : ∀ l : List α, (l.flatMap f).length ≤ l.length
  | [] => Nat.le_refl _
  | a :: l => by
    rw [List.flatMap_cons, List.length_append, List.length_cons]
    have := h a
    have := flatMap_len h l
    omega
theorem told_len (t : Fo) (place : Int) (l : List Mo) : (toldL (bestL t place l)).length ≤ l.length := by
  have h1 : (toldL (bestL t place l)).length ≤ (keysS (bestL t place l)).length := flatMap_len (tell_len _) _
  have h2 := keysS_len (bestL t place l)
  have h3 := best_len (t := t) (place := place) (l := l)
  omega
section
attribute [local irreducible] RnS
attribute [local irreducible] W Lst Qst Pu seqQ blkQ rndQ cutQ retQ Does Enters IntKind.wrap bits sb World.alloc World.putObj Blk
set_option maxHeartbeats 4000000 in
theorem c_light (ls : List Mo) (a : Option Addr) (c : Nat) (hl : ls.length ≤ 281474976710656) (w : World) (hr : SRows w 22 (.slice a ls.length c) (ls.map ocs)) : Does Tryz.prog 7 #[.slice a ls.length c] w fun v w' => ∃ b, v = .bool b ∧ (b = true → ls.length ≤ 40 ∧ ∀ o ∈ ls, o.v.s.size ≤ 200 ∧ o.key.size ≤ 200) ∧ Below w.heap.size w w' := by
  refine Does_of (args := [.slice a ls.length c]) Tryz.func7 (by kernel_rfl) rfl rfl rfl rfl rfl ?_
  (refine Ga ?_)
  refine W_loop (α := Nat) (fun i => [(0, .slice a ls.length c), (3, .int .i64 (i : Int))]) (fun i A => i ≤ ls.length ∧ (∀ j (h : j < ls.length), j < i → ls[j].v.s.size ≤ 200 ∧ ls[j].key.size ≤ 200) ∧ Below w.heap.size w A) (fun i _ => ls.length - i) 0 ⟨Nat.zero_le _, fun j _ h => absurd h (Nat.not_lt_zero _), Below.refl _ _⟩ ⟨rfl, rfl, trivial⟩ ?_
  rintro J i A ⟨hi, hok, hbA⟩
  by_cases hil : i < ls.length
  · have hrA := SRows.below hr hbA (Nat.le_refl _)
    obtain ⟨g, off, rfl, _, hc⟩ := hrA.at (i := i) (by rw [List.length_map]; exact hil)
    rw [List.getElem_map] at hc
    have hnx : ∀ (h1 : ls[i].v.s.size ≤ 200) (h2 : ls[i].key.size ≤ 200) j (h : j < ls.length), j < i + 1 → ls[j].v.s.size ≤ 200 ∧ ls[j].key.size ≤ 200 := fun h1 h2 j h hj => by
      rcases Nat.lt_succ_iff_lt_or_eq.1 hj with h' | rfl
      · exact hok j h h'
      · exact ⟨h1, h2⟩
    generalize hoi : ls[i] = o at *
    have hcs := hc 12 (.string o.v.s) rfl
    have hck := hc 13 (.string o.key) rfl
    have hc2 := hc 2 (.int .i64 o.k) rfl
    by_cases hv : o.v.s.size ≤ 200
    · by_cases hk : o.key.size ≤ 200
      · have hnx := hnx hv hk
        by_cases h3 : o.k = 3
        · (refine Ga ?_)
          apply Lst_pu
          · apply P_idxm (j := i) (sz := 22)
            focus rfl
            focus rfl
            focus rfl
            focus rfl
            focus rfl
            focus omega
          focus rfl
          (refine Ga ?_)
          apply Lst_pu
          · apply P_idxm (j := i) (sz := 22)
            focus rfl
            focus rfl
            focus rfl
            focus rfl
            focus rfl
            focus omega
          focus rfl
          (refine Ga ?_)
          apply Lst_pu
          · apply P_idxm (j := i) (sz := 22)
            focus rfl
            focus rfl
            focus rfl
            focus rfl
            focus rfl
            focus omega
          focus rfl
          (refine Ga ?_)
          apply Lst_pu
          · apply P_idxm (j := i) (sz := 22)
            focus rfl
            focus rfl
            focus rfl
            focus rfl
            focus rfl
            focus omega
          focus rfl
          (refine Ga ?_)
          apply Lst_loadS' (cs := ocs o)
          focus rfl
          focus rfl
          focus rfl
          focus rfl
          focus rfl
          focus exact hc
          focus rfl
          (refine Ga ?_)
          (apply Lst_call; (focus rfl); (focus rfl))
          refine (o_Check o h3 hk A).mono ?_
          rintro v B ⟨⟨z, rfl⟩, hbB⟩
          have bB := hbA.trans (hbB.mono hbA.size)
          by_cases hz : z = 0
          · (refine Ga ?_)
            refine rndQ_n (α := Nat) (i + 1) ⟨hil, hnx, bB⟩ ⟨rfl, ?_, trivial⟩ (by omega)
            exact congrArg (Value.int .i64) (by omega)
          · (refine Ga ?_)
            (apply retQ1; (focus rfl))
            exact ⟨_, rfl, fun h => (by cases h), bB⟩
        · (refine Ga ?_)
          apply Lst_pu
          · apply P_idxm (j := i) (sz := 22)
            focus rfl
            focus rfl
            focus rfl
            focus rfl
            focus rfl
            focus omega
          focus rfl
          (refine Ga ?_)
          apply Lst_pu
          · apply P_idxm (j := i) (sz := 22)
            focus rfl
            focus rfl
            focus rfl
            focus rfl
            focus rfl
            focus omega
          focus rfl
          (refine Ga ?_)
          apply Lst_pu
          · apply P_idxm (j := i) (sz := 22)
            focus rfl
            focus rfl
            focus rfl
            focus rfl
            focus rfl
            focus omega
          focus rfl
          (refine Ga ?_)
          refine rndQ_n (α := Nat) (i + 1) ⟨hil, hnx, hbA⟩ ⟨rfl, ?_, trivial⟩ (by omega)
          exact congrArg (Value.int .i64) (by omega)
      · (refine Ga ?_)
        apply Lst_pu
        · apply P_idxm (j := i) (sz := 22)
          focus rfl
          focus rfl
          focus rfl
          focus rfl
          focus rfl
          focus omega
        focus rfl
        (refine Ga ?_)
        apply Lst_pu
        · apply P_idxm (j := i) (sz := 22)
          focus rfl
          focus rfl
          focus rfl
          focus rfl
          focus rfl
          focus omega
        focus rfl
        (refine Ga ?_)
        (apply retQ1; (focus rfl))
        exact ⟨_, rfl, fun h => (by cases h), hbA⟩
    · (refine Ga ?_)
      apply Lst_pu
      · apply P_idxm (j := i) (sz := 22)
        focus rfl
        focus rfl
        focus rfl
        focus rfl
        focus rfl
        focus omega
      focus rfl
      (refine Ga ?_)
      (apply retQ1; (focus rfl))
      exact ⟨_, rfl, fun h => (by cases h), hbA⟩
  · by_cases h40 : ls.length ≤ 40
    · (refine Ga ?_)
      (apply retQ1; (focus rfl))
      refine ⟨_, rfl, fun _ => ⟨h40, fun o ho => ?_⟩, hbA⟩
      obtain ⟨j, hj, rfl⟩ := List.getElem_of_mem ho
      exact hok j hj (by omega)
    · (refine Ga ?_)
      (apply retQ1; (focus rfl))
      exact ⟨_, rfl, fun h => (by cases h), hbA⟩
end
end Mk
end Go.Proofs.YtmgipnckojopcaaGreat
