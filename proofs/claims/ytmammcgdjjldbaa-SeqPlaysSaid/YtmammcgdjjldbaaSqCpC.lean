/- Copy: the first round. -/
import Derived.Test.YtmammcgdjjldbaaSqCpB
namespace Go.Proofs.Ytmammcgdjjldbaa
set_option maxRecDepth 100000
namespace Sq
open Go Go.RowKit Sx Tl
def twl (E E' : Env) (l : List Id) : List (Option Nat × Nat) := l.map fun k => (some (E.ad k), E'.ad k)
/-- How far the first round has come. -/
structure Cp1 (E : Env) (ρ : Id → Rec) (ids : List Id) (w : World) (c b mb : Nat) (q : Nat) (E' : Env) (A : World) : Prop where
  bel : Below w.heap.size w A
  half : Half A E' (ids.take q) [] (bare ρ)
  p : E'.p = c
  tw : TwAt A b mb (twl E E' (ids.take q))
  far : ∀ g, A.heap.size ≤ g → E'.tg g = .other
  new : ∀ g, E'.tg g ≠ .other → w.heap.size ≤ g
  tb : E'.tg b = .other
  tm : E'.tg mb = .other
  gb : w.heap.size ≤ b
  gm : w.heap.size ≤ mb
theorem look_twl {E E' : Env} {k : Id} : ∀ {l : List Id}, (∀ j ∈ l, E.ad j = E.ad k → j = k) → SxG.look (twl E E' l) (some (E.ad k)) = if k ∈ l then some (E'.ad k) else none
  | [], _ => rfl
  | i :: l, h => by
    show (if some (E.ad i) = some (E.ad k) then some (E'.ad i) else SxG.look (twl E E' l) (some (E.ad k))) = _
    by_cases e : E.ad i = E.ad k
    · have := h i (List.mem_cons_self ..) e
      subst this
      rw [if_pos rfl, if_pos (List.mem_cons_self ..)]
    · rw [if_neg (fun h => e (Option.some.inj h)), look_twl (fun j hj => h j (List.mem_cons_of_mem _ hj))]
      have : k ≠ i := fun h => e (by rw [h])
      simp [this]
theorem look_none {E E' : Env} : ∀ (l : List Id), SxG.look (twl E E' l) none = none
  | [] => rfl
  | i :: l => by
    show (if some (E.ad i) = none then some (E'.ad i) else SxG.look (twl E E' l) none) = _
    rw [if_neg (by simp)]
    exact look_none l
theorem twl_congr {E E' E'' : Env} {l : List Id} (h : ∀ k ∈ l, E''.ad k = E'.ad k) : twl E E'' l = twl E E' l := List.map_congr_left fun k hk => by rw [h k hk]
theorem Chg.kpV {w w' : World} {bs : List Nat} {k : Option Nat} (h : Chg bs w w') (hk : SxG.kpV w k) (hb : ∀ q, k = some q → q ∉ bs) : SxG.kpV w' k := fun q hq => by
  obtain ⟨l, e, h1⟩ := hk q hq
  exact ⟨l, e, (h.block q h1.lt (hb q hq)).trans h1⟩
/-- What the second round has laid: those that are left are bare. -/
def recL (E E' : Env) (ρ : Id → Rec) (left : List (Option Nat × Nat)) : Id → Rec := fun k => if (some (E.ad k), E'.ad k) ∈ left then bare ρ k else ρ k
structure Cp2 (E : Env) (ρ : Id → Rec) (ids : List Id) (w : World) (c b mb ib : Nat) (left : List (Option Nat × Nat)) (E' : Env) (A : World) : Prop where
  bel : Below w.heap.size w A
  half : Half A E' ids [] (recL E E' ρ left)
  p : E'.p = c
  tw : TwAt A b mb (twl E E' ids)
  it : SxG.ItAt SxG.kp A ib mb RP (twl E E' ids) left
  far : ∀ g, A.heap.size ≤ g → E'.tg g = .other
  new : ∀ g, E'.tg g ≠ .other → w.heap.size ≤ g
  tb : E'.tg b = .other
  tm : E'.tg mb = .other
  ti : E'.tg ib = .other
  gb : w.heap.size ≤ b
  gm : w.heap.size ≤ mb
  gi : w.heap.size ≤ ib
  nd : left.Nodup
  sub : ∀ q ∈ left, q ∈ twl E E' ids
theorem twl_nodup {E E' : Env} : ∀ {l : List Id}, l.Nodup → (∀ j ∈ l, ∀ k ∈ l, E.ad j = E.ad k → j = k) → (twl E E' l).Nodup
  | [], _, _ => List.nodup_nil
  | i :: l, hn, h => by
    obtain ⟨h1, h2⟩ := List.nodup_cons.1 hn
    refine List.nodup_cons.2 ⟨fun hm => ?_, twl_nodup h2 fun j hj k hk => h j (List.mem_cons_of_mem _ hj) k (List.mem_cons_of_mem _ hk)⟩
    obtain ⟨j, hj, e⟩ := List.mem_map.1 hm
    have e1 : E.ad j = E.ad i := Option.some.inj (congrArg Prod.fst e)
    have := h j (List.mem_cons_of_mem _ hj) i (List.mem_cons_self ..) e1
    exact h1 (this ▸ hj)
theorem erase_mem {α : Type} {q : α} : ∀ {l : List α} {j : Nat}, l.Nodup → l[j]? = some q → ∀ x, x ∈ l.eraseIdx j ↔ x ∈ l ∧ x ≠ q
  | [], j, _, h, x => by simp at h
  | y :: l, 0, hn, h, x => by
    obtain rfl : y = q := by simpa using h
    have h1 := (List.nodup_cons.1 hn).1
    show x ∈ l ↔ x ∈ y :: l ∧ x ≠ y
    rw [List.mem_cons]
    exact ⟨fun hx => ⟨.inr hx, fun e => h1 (e ▸ hx)⟩, fun hx => hx.1.resolve_left hx.2⟩
  | y :: l, j + 1, hn, h, x => by
    obtain ⟨h1, h2⟩ := List.nodup_cons.1 hn
    have hj : l[j]? = some q := by simpa using h
    have hne : y ≠ q := fun e => h1 (e ▸ List.mem_of_getElem? hj)
    show x ∈ y :: l.eraseIdx j ↔ x ∈ y :: l ∧ x ≠ q
    rw [List.mem_cons, List.mem_cons, erase_mem h2 hj x]
    exact ⟨fun hx => hx.elim (fun e => ⟨.inl e, e ▸ hne⟩) fun h => ⟨.inr h.1, h.2⟩, fun hx => hx.1.elim .inl fun h => .inr ⟨h, hx.2⟩⟩
def SD (t : Tag) : Prop := t = .other ∨ t = .all
def SC (t : Tag) : Prop := t = .other ∨ t = .all ∨ t = .seq ∨ t = .order
theorem TwAt.look {A : World} {b mb : Nat} {E E' : Env} {ids : List Id} (h : TwAt A b mb (twl E E' ids)) (inj : ∀ j ∈ ids, ∀ k ∈ ids, E.ad j = E.ad k → j = k) {ρ : Id → Rec} (hA : ∀ j ∈ ids, NodeAt A E j (ρ j)) (par : Option Id) (hp : ∀ j, par = some j → j ∈ ids) :
    (Instr.lookup 80 (.map (some mb)) (parv E par) false).run Try.prog A = .ok (parv E' par) A := by
  cases par with
  | none =>
    obtain ⟨v, there, h1, h2⟩ := SxG.run_lookW (P := Try.prog) (t := 80) (et := 73) (k := none) (z := .pointer none) false rfl (twKey A) (fun q hq => by cases hq) rfl h.map h.keys
    rcases h1 with ⟨_, rfl, _⟩ | ⟨a, h3, _⟩
    · exact h2
    · rw [look_none] at h3
      cases h3
  | some j =>
    have hj := hp j rfl
    obtain ⟨_, _, _, hb, _⟩ := hA j hj
    obtain ⟨v, there, h1, h2⟩ := SxG.run_lookW (P := Try.prog) (t := 80) (et := 73) (k := some (E.ad j)) (z := .pointer none) false rfl (twKey A) (fun q hq => by cases hq; exact ⟨_, _, hb⟩) rfl h.map h.keys
    have hl := (look_twl (E' := E') (l := ids) (k := j) fun i hi e => inj i hi j hj e).trans (if_pos hj)
    rcases h1 with ⟨h3, _⟩ | ⟨a, h3, h4, _⟩
    · rw [hl] at h3
      cases h3
    · rw [hl] at h3
      cases h3
      obtain rfl : v = .pointer (some ⟨E'.ad j, 0, none⟩) := h4
      exact h2
theorem twl_keys {A : World} {E E' : Env} {ids : List Id} {ρ : Id → Rec} (hA : ∀ j ∈ ids, NodeAt A E j (ρ j)) : ∀ q ∈ twl E E' ids, SxG.kpV A q.1 := fun q hq => by
  obtain ⟨j, hj, rfl⟩ := List.mem_map.1 hq
  intro z hz
  cases hz
  obtain ⟨_, _, _, h, _⟩ := hA j hj
  exact ⟨_, _, h⟩
-- theorem look_par
variable {p : Nat} {F : Nat → Prop} {t : Fo} {w : World}
attribute [local irreducible] W Lst Qst Pu seqQ blkQ rndQ cutQ retQ Does Enters IntKind.wrap bits sb World.alloc World.putObj Blk
set_option maxHeartbeats 2000000 in
theorem c_Copy (h : SqAt w p F t) (hlen : t.sz ≤ 1000000000 - 1) : Does Try.prog 27 #[.pointer (some ⟨p, 0, none⟩)] w fun v w' => ∃ c F', v = .pointer (some ⟨c, 0, none⟩) ∧ SqAt w' c F' t ∧ (∀ g, F' g → w.heap.size ≤ g) ∧ Below w.heap.size w w' := by
  obtain ⟨E, ρ, rfl, hF, hfar, h0, hft, hg⟩ := h
  have hlen' : t.ids.length ≤ 1000000000 := by rw [Fo.ids_len]; omega
  refine Does_of (args := [.pointer (some ⟨E.p, 0, none⟩)]) Try.func27 (by kernel_rfl) rfl rfl rfl rfl rfl ?_
  (refine Ga ?_)
  (apply Lst_call; (focus rfl); (focus rfl))
  refine (c_New w).mono ?_
  rintro v X1 ⟨c, F1, rfl, hc, hFc, hb1⟩
  obtain ⟨E1, ρ1, hp1, hF1, hfar1, hcc, _, _⟩ := hc
  (refine Ga ?_)
  apply Lst_makemap
  focus rfl
  (refine Ga ?_)
  obtain ⟨X3, hX3⟩ : ∃ X3, ((X1.alloc (.map #[] 0)).alloc (.cells #[.map none] 80)).putObj (X1.heap.size + 1) (.cells #[.map (some X1.heap.size)] 80) = X3 := ⟨_, rfl⟩
  have hbX : Below X1.heap.size X1 X3 := by rw [← hX3]; exact Bel
  have hb3 : Below w.heap.size w X3 := hb1.trans (hbX.mono hb1.size)
  have hm3 : SxG.MpAt SxG.kp X3 X1.heap.size RP ([] : List (Option Nat × Nat)) := by
    rw [← hX3]
    refine (SxG.MpAt.new (ky := SxG.kp) X1 RP).mono ?_ (fun _ _ h => h)
    rw [World.putObj_heap_other (by omega)]
    exact Below.heap_alloc _ _ _ (by simp)
  have kb3 : Blk X3 (X1.heap.size + 1) [.map (some X1.heap.size)] 80 := by rw [← hX3]; exact (by (repeat (first | assumption | (apply Blk.below (hb := hb1); rotate_left; (focus ((try simp only [Sx.sizes]); omega)); rotate_right) | (apply Blk.below (hb := hb2); rotate_left; (focus ((try simp only [Sx.sizes]); omega)); rotate_right) | (apply Blk.below (hb := hb3); rotate_left; (focus ((try simp only [Sx.sizes]); omega)); rotate_right) | (apply Blk.below (hb := hb4); rotate_left; (focus ((try simp only [Sx.sizes]); omega)); rotate_right) | (apply Blk.below (hb := hb5); rotate_left; (focus ((try simp only [Sx.sizes]); omega)); rotate_right) | (apply Blk.below (hb := hb6); rotate_left; (focus ((try simp only [Sx.sizes]); omega)); rotate_right) | (apply Blk.below (hb := hb7); rotate_left; (focus ((try simp only [Sx.sizes]); omega)); rotate_right) | (apply Blk.below (hb := hb8); rotate_left; (focus ((try simp only [Sx.sizes]); omega)); rotate_right) | (apply Blk.below (hb := hb9); rotate_left; (focus ((try simp only [Sx.sizes]); omega)); rotate_right) | exact Blk.newE (by first | rfl | ((try simp only [Sx.sizes]); first | done | omega)) _ _ | exact Blk.put_same (by (try simp only [Sx.sizes]); first | done | omega) _ _ | (apply Blk.put_ne; (focus omega)) | apply Blk.alloc | apply Blk.drew)); done)
  rw [hX3]
  clear hX3
  obtain ⟨so, sr, fresh, m, hS0, hO, hR, _, _⟩ := h0.seq
  obtain ⟨a, cp, rfl, hcp, hcell⟩ := hO.at
  have hS := hS0.below hb3 hS0.lt
  have I0 : Cp1 E ρ t.ids w c (X1.heap.size + 1) X1.heap.size 0 E1 X3 :=
    ⟨hb3, ((Half.of hcc).congr (fun k hk => by cases hk)).below hbX, hp1, ⟨kb3, hm3, fun q hq => by cases hq⟩, fun g hg => hfar1 g (Nat.le_trans hbX.size hg), fun g hg => hFc g ((hF1 g).2 hg), hfar1 _ (Nat.le_succ _), hfar1 _ (Nat.le_refl _), Nat.le_succ_of_le hb1.size, hb1.size⟩
  clear hcc hfar1 hm3 kb3 hF1 hFc
  have gc : ∀ {E' : Env}, True := trivial
  generalize X1.heap.size + 1 = b at *
  generalize X1.heap.size = mb at *
  clear hbX hb1 gc
  (refine Ga ?_)
  refine W_cutB (α := Env) (fun _ => [(0, .pointer (some ⟨E.p, 0, none⟩)), (3, .pointer (some ⟨c, 0, none⟩)), (4, .pointer (some ⟨b, 0, none⟩))]) (fun E' A => Cp1 E ρ t.ids w c b mb t.ids.length E' A) ?_ ?_
  · refine W_loop (α := Nat × Env) (fun s => [(0, .pointer (some ⟨E.p, 0, none⟩)), (3, .pointer (some ⟨c, 0, none⟩)), (4, .pointer (some ⟨b, 0, none⟩)), (16, .slice a t.ids.length cp), (17, .int .i64 (t.ids.length : Int)), (18, .int .i64 (s.1 : Int))]) (fun s A => s.1 ≤ t.ids.length ∧ Cp1 E ρ t.ids w c b mb s.1 s.2 A) (fun s _ => t.ids.length - s.1) (0, E1) ⟨Nat.zero_le _, I0⟩ ⟨rfl, rfl, rfl, rfl, rfl, rfl, trivial⟩ ?_
    rintro J ⟨q, E'⟩ A ⟨hq, hI⟩
    dsimp only at hq hI ⊢
    by_cases hil : q < t.ids.length
    · obtain ⟨hbel, hhalf, hp, htw, hfar', hnew, htb, htm, hgb, hgm⟩ := hI
      have hin := List.getElem_mem hil
      have hx : t.ids[q] ∉ t.ids.take q := fun hm => by
        have hnd := hg.nd
        rw [← List.take_append_drop q t.ids, List.nodup_append] at hnd
        exact hnd.2.2 _ hm _ (by rw [List.drop_eq_getElem_cons hil]; exact List.mem_cons_self ..) rfl
      have htk : t.ids.take (q + 1) = t.ids.take q ++ [t.ids[q]] := List.take_succ_eq_append_getElem hil
      have hA := h0.below hbel
      obtain ⟨g, rfl, hci⟩ := hcell q hil
      have hci := cell_below hbel hci
      have hNx := (hA.nodes _ hin)
      have hu := fits_u hft _ hin
      obtain ⟨sl, sr', hn, _, _⟩ := hNx.ex
      unfold ncs pv at *
      have hnl := hn.lt
      generalize t.ids[q] = x at *
      (refine Ga ?_)
      refine W_draw 9 (Grown A) rfl (by kernel_rfl) (grown_start A) ?_
      (refine Qb ?_)
      intro w8 hb8
      (refine Ga ?_)
      obtain ⟨W2, hW2⟩ : ∃ W2, w8.alloc (.cells [.int .u64 ((ρ x).u.id.1 : Int), .int .u64 ((ρ x).u.id.2 : Int), .int .u64 ((ρ x).u.l.1 : Int), .int .u64 ((ρ x).u.l.2 : Int), .int .u64 ((ρ x).u.r.1 : Int), .int .u64 ((ρ x).u.r.2 : Int), .pointer none, .slice none 0 0, .slice none 0 0, .int .i64 ((ρ x).n : Int)].toArray 78) = W2 := ⟨_, rfl⟩
      have hb2 : Below A.heap.size A W2 := by rw [← hW2]; exact hb8.trans (Below.mono (show Below w8.heap.size w8 _ from Bel) hb8.size)
      have hs8 := hb8.size
      have hs2 : W2.heap.size = w8.heap.size + 1 := by rw [← hW2]; simp only [Sx.sizes]
      have kX : Blk W2 w8.heap.size (ncs E' (bare ρ x) (.slice none 0 0) (.slice none 0 0)) 78 := by rw [← hW2]; unfold ncs bare; exact (by (repeat (first | assumption | (apply Blk.below (hb := hb1); rotate_left; (focus ((try simp only [Sx.sizes]); omega)); rotate_right) | (apply Blk.below (hb := hb2); rotate_left; (focus ((try simp only [Sx.sizes]); omega)); rotate_right) | (apply Blk.below (hb := hb3); rotate_left; (focus ((try simp only [Sx.sizes]); omega)); rotate_right) | (apply Blk.below (hb := hb4); rotate_left; (focus ((try simp only [Sx.sizes]); omega)); rotate_right) | (apply Blk.below (hb := hb5); rotate_left; (focus ((try simp only [Sx.sizes]); omega)); rotate_right) | (apply Blk.below (hb := hb6); rotate_left; (focus ((try simp only [Sx.sizes]); omega)); rotate_right) | (apply Blk.below (hb := hb7); rotate_left; (focus ((try simp only [Sx.sizes]); omega)); rotate_right) | (apply Blk.below (hb := hb8); rotate_left; (focus ((try simp only [Sx.sizes]); omega)); rotate_right) | (apply Blk.below (hb := hb9); rotate_left; (focus ((try simp only [Sx.sizes]); omega)); rotate_right) | exact Blk.newE (by first | rfl | ((try simp only [Sx.sizes]); first | done | omega)) _ _ | exact Blk.put_same (by (try simp only [Sx.sizes]); first | done | omega) _ _ | (apply Blk.put_ne; (focus omega)) | apply Blk.alloc | apply Blk.drew)); done)
      rw [hW2]
      clear hW2
      have htw2 := htw.below hb2
      have kb2 := htw2.box
      have hK2 : Kept E' SD A W2 := .of hb2
      have hbw2 : Below w.heap.size w W2 := hbel.trans (hb2.mono hbel.size)
      have hn2 := hn.below hb2 hn.lt
      have htX : E'.tg w8.heap.size = .other := hfar' _ hs8
      (refine Ga ?_)
      apply SxG.Lst_mapnewW (hk := twKey W2) (k := some (E.ad x)) (a := w8.heap.size) (hmp := htw2.map)
      focus rfl
      focus rfl
      focus rfl
      focus rfl
      focus exact fun q hq => by cases hq; exact ⟨_, _, hn2⟩
      focus exact htw2.keys
      focus exact (look_twl fun j hj e => h0.ad_inj (List.mem_of_mem_take hj) hin e).trans (if_neg hx)
      focus rfl
      intro w3 hm3 hc3 hs3
      have hxmb : w8.heap.size ≠ mb := by have := htw.map.lt; omega
      have hbmb : b ≠ mb := fun e => by
        have h1 := htw.map
        have h2 := htw.box
        rw [e] at h2
        obtain ⟨arr, clock, h3, _⟩ := h1
        rw [Blk.raw h2] at h3
        cases h3
      have hK3 : Kept E' SD A w3 := hK2.trans (.ofChg hc3 (fun b hb => by rw [List.mem_singleton.1 hb]; exact .inl htm))
      have hbw3 : Below w.heap.size w w3 := hbw2.trans (hc3.below (fun b hb => by rw [List.mem_singleton.1 hb]; exact hgm) hbw2.size)
      obtain ⟨so', sr1, fr1, m1, qS, qO, qR, qM⟩ := hhalf.seq
      obtain ⟨es, hes, hlk⟩ := hhalf.all
      have tS := hhalf.tp
      rw [hp] at qS tS
      have hamb : E'.ma ≠ mb := fun e => by have := hhalf.tma; rw [e, htm] at this; cases this
      have out : ∀ {g : Nat}, g ≠ mb → g ∉ [mb] := fun h hm => h (List.mem_singleton.1 hm)
      have kS3 := hK3.blk qS (by rw [tS]; unfold SD; simp)
      have kX3 := hc3.blk kX (out hxmb)
      have kb3 := hc3.blk kb2 (out hbmb)
      have es3 : SxG.MpAt idv w3 E'.ma RP es := hes.mono ((hc3.block _ (Nat.lt_of_lt_of_le hes.lt hb2.size) (out hamb)).trans (hb2.block _ hes.lt)) (fun _ _ h => h)
      obtain ⟨_, sl3, sr3, hn3, _, _⟩ := (h0.below hbw3).nodes _ hin
      have lS3 : c < w3.heap.size := Nat.lt_of_lt_of_le qS.lt hK3.size
      have lX3 : w8.heap.size < w3.heap.size := by omega
      have ln3 := hn3.lt
      unfold ncs at hn3
      obtain ⟨q1, q2, rfl, hq2⟩ := own_form qO.own
      (refine Ga ?_)
      refine W_draw 10 (Grown w3) rfl (by kernel_rfl) (grown_start w3) ?_
      (refine Qb ?_)
      intro w5 hb5
      apply SxG.Lst_mapput (k := (ρ x).u.id) (ky := idv) (R := RP) (v := .pointer (some ⟨w8.heap.size, 0, none⟩)) w8.heap.size
      focus rfl
      focus rfl
      focus rfl
      focus rfl
      focus exact idKey
      focus exact es3.mono (hb5.block _ es3.lt) (fun _ _ h => h)
      focus rfl
      intro w6 hm6 hc6 hs6
      have tA := hhalf.tma
      have hga : w.heap.size ≤ E'.ma := hnew _ (by rw [tA]; simp)
      have hK6 : Kept E' SD A w6 := (hK3.trans (.of hb5)).trans (.ofChg hc6 (fun b hb => by rw [List.mem_singleton.1 hb]; exact .inr tA))
      have hbw5 : Below w.heap.size w w5 := hbw3.trans (hb5.mono hbw3.size)
      have hbw6 : Below w.heap.size w w6 := hbw5.trans (hc6.below (fun b hb => by rw [List.mem_singleton.1 hb]; exact hga) hbw5.size)
      have outA : ∀ {g : Nat}, g ≠ E'.ma → g ∉ [E'.ma] := fun h hm => h (List.mem_singleton.1 hm)
      have hxma : w8.heap.size ≠ E'.ma := by have := hes.lt; omega
      have hbma : b ≠ E'.ma := fun e => by rw [← e, htb] at tA; cases tA
      have kX6 := hc6.blk (kX3.below hb5 lX3) (outA hxma)
      have kb6 := hc6.blk (kb3.below hb5 kb3.lt) (outA hbma)
      have hm6' := hm3.mono ((hc6.block mb (Nat.lt_of_lt_of_le hm3.lt hb5.size) (outA (Ne.symm hamb))).trans (hb5.block _ hm3.lt)) (fun _ _ h => h)
      have kS6 := hK6.blk qS (by rw [tS]; unfold SD; simp)
      have qO6 := hK6.row qO (by unfold SD; simp)
      rw [hu] at hm6
      clear kS3 kX3 kb3 es3 hm3
      have lS6 := kS6.lt
      have lX6 := kX6.lt
      (refine Ga ?_)
      (apply Lst_slit; (focus rfl); (focus rfl); (focus rfl); (focus rfl); (focus rfl); (focus rfl); (focus rfl); (focus rfl); (focus rfl); (focus (repeat (first | apply FillO.nil | (apply FillO.cons; (focus constructor); (focus rfl); (focus rfl); (focus (repeat constructor)))))); (focus ((try simp only [Sx.sizes]); first | done | rfl)); (focus rfl))
      obtain ⟨W7, hW7⟩ : ∃ W7, w6.alloc (.cells (.pointer (some ⟨w8.heap.size, 0, none⟩) :: [].append (List.replicate 0 [Value.pointer none]).flatten).toArray 73) = W7 := ⟨_, rfl⟩
      have hW7' : w6.alloc (.cells [.pointer (some ⟨w8.heap.size, 0, none⟩)].toArray 73) = W7 := hW7
      have hb7 : Below w6.heap.size w6 W7 := by rw [← hW7']; exact Bel
      have hs7 : W7.heap.size = w6.heap.size + 1 := by rw [← hW7']; simp only [Sx.sizes]
      have k7 : Blk W7 w6.heap.size [.pointer (some ⟨w8.heap.size, 0, none⟩)] 73 := by rw [← hW7']; exact (by (repeat (first | assumption | (apply Blk.below (hb := hb1); rotate_left; (focus ((try simp only [Sx.sizes]); omega)); rotate_right) | (apply Blk.below (hb := hb2); rotate_left; (focus ((try simp only [Sx.sizes]); omega)); rotate_right) | (apply Blk.below (hb := hb3); rotate_left; (focus ((try simp only [Sx.sizes]); omega)); rotate_right) | (apply Blk.below (hb := hb4); rotate_left; (focus ((try simp only [Sx.sizes]); omega)); rotate_right) | (apply Blk.below (hb := hb5); rotate_left; (focus ((try simp only [Sx.sizes]); omega)); rotate_right) | (apply Blk.below (hb := hb6); rotate_left; (focus ((try simp only [Sx.sizes]); omega)); rotate_right) | (apply Blk.below (hb := hb7); rotate_left; (focus ((try simp only [Sx.sizes]); omega)); rotate_right) | (apply Blk.below (hb := hb8); rotate_left; (focus ((try simp only [Sx.sizes]); omega)); rotate_right) | (apply Blk.below (hb := hb9); rotate_left; (focus ((try simp only [Sx.sizes]); omega)); rotate_right) | exact Blk.newE (by first | rfl | ((try simp only [Sx.sizes]); first | done | omega)) _ _ | exact Blk.put_same (by (try simp only [Sx.sizes]); first | done | omega) _ _ | (apply Blk.put_ne; (focus omega)) | apply Blk.alloc | apply Blk.drew)); done)
      rw [hW7]
      clear hW7 hW7'
      have hlq : (t.ids.take q).length = q := by rw [List.length_take]; omega
      have ho7 := own_kept qO6.own fun g hg => hb7.block g (own_ltg qO6.own hg)
      apply Lst_appendAt (hown := ho7) (bytes := 8) (news := [ptr w8.heap.size])
      focus rfl
      focus rfl
      focus rfl
      focus rfl
      focus rfl
      focus rfl
      focus rfl
      focus rfl
      focus rfl
      focus (intro j u hu; rw [add_none, Nat.zero_add, k7.cell]; exact hu)
      focus rfl
      focus (intro u hu; rw [List.mem_singleton.1 hu]; rfl)
      focus omega
      focus omega
      focus exact Nat.zero_le _
      focus rfl
      intro v' w9 ho9 hg9 hat9
      have hs9 := hg9.size
      have tO : ∀ g, (Value.slice q1 (t.ids.take q).length q2).ownBlock = some g → E'.tg g = .order := qO.tag
      have hK79 : Kept E' (fun t => t = .order) w6 w9 := (Kept.of hb7).trans (.grown hg9 tO)
      have hbw9 : Below w.heap.size w w9 := (hbw6.trans (hb7.mono hbw6.size)).grown hg9 (by have := hbw6.size; omega) fun j hj => hnew j (by rw [tO j hj]; simp)
      have kS9 := hK79.blk kS6 (by rw [tS]; simp)
      have lS9 := kS9.lt
      have hKp := fun o => Kept.put (E := E') (S := fun t => t = .seq) (w := w9) c tS o
      obtain ⟨x1, x2, x3, rfl⟩ := own_slice ho9
      (refine Ga ?_)
      obtain ⟨W10, hW10⟩ : ∃ W10, w9.putObj c (.cells [.map (some E'.ma), .slice x1 x2 x3, sr1, .map (some E'.mt), .bool fr1].toArray 71) = W10 := ⟨_, rfl⟩
      have hKc : Kept E' (fun t => t = .seq) w9 W10 := by rw [← hW10]; exact hKp _
      have kS10 : Blk W10 c [.map (some E'.ma), .slice x1 x2 x3, sr1, .map (some E'.mt), .bool fr1] 71 := by rw [← hW10]; exact Blk.put_same lS9 _ _
      have hs10 : W10.heap.size = w9.heap.size := by rw [← hW10, World.putObj_size]
      have hbw10 : Below w.heap.size w W10 := by rw [← hW10]; exact Sx.Below.put hbw9 (hnew _ (by rw [tS]; simp)) _
      rw [hW10]
      clear hW10 hKp
      have hK10 : Kept E' (fun t => t = .order ∨ t = .seq) w6 W10 := (hK79.mono fun t ht => .inl ht).trans (hKc.mono fun t ht => .inr ht)
      have hKA : Kept E' SC A W10 := (hK6.mono fun t ht => ht.elim .inl fun h => .inr (.inl h)).trans (hK10.mono fun t ht => ht.elim (fun h => .inr (.inr (.inr h))) fun h => .inr (.inr (.inl h)))
      have kX10 := hK10.blk kX6 (by rw [htX]; simp)
      have kb10 := hK10.blk kb6 (by rw [htb]; simp)
      have hm10 := hm6'.mono (hK10.block mb hm6'.lt (by rw [htm]; simp)) (fun _ _ h => h)
      have ho10 := own_kept ho9 fun g hgo => hKc.block g (own_ltg ho9 hgo) (by
        rcases hat9 with e | e
        · rw [tO g (by rw [← e]; exact hgo)]; simp
        · rw [e] at hgo
          cases hgo
          rw [hfar' _ (by have := hK6.size; omega)]
          simp)
      obtain ⟨E2, hh2, hp2, hold2, hfar2, had2, hax2⟩ := hhalf.step hfar' hKA (fun t ht => ht) hs8 kX10 hx ⟨_, SxG.MpAt.mono hm6 (hK10.block _ hm6.lt (by rw [tA]; simp)) (fun _ _ h => h), fun k => by rw [SxG.look_put, hlk]⟩ qO qR qM (by rw [hp]; exact kS10) (by rw [hlq]; rw [hlq] at ho10; exact ho10) hat9 (by have := hK6.size; omega) (by omega)
      refine rndQ_n (α := Nat × Env) (q + 1, E2) ⟨hil, ⟨hbw10, ?_, hp2.trans hp, ⟨kb10, ?_, fun k hk => ?_⟩, hfar2, fun g hgt => ?_, ?_, ?_, hgb, hgm⟩⟩ ⟨rfl, rfl, rfl, rfl, rfl, ?_, trivial⟩ (by dsimp only; omega)
      · rw [htk]
        exact hh2
      · rw [htk]
        unfold twl
        rw [List.map_append]
        have e1 : (t.ids.take q).map (fun k => (some (E.ad k), E2.ad k)) = twl E E' (t.ids.take q) := twl_congr had2
        rw [e1, List.map_singleton, hax2]
        exact hm10
      · unfold twl at hk
        obtain ⟨j, hj, rfl⟩ := List.mem_map.1 hk
        intro z hz
        cases hz
        obtain ⟨_, _, _, hz, _⟩ := (h0.below hbw10).nodes j (List.mem_of_mem_take hj)
        exact ⟨_, _, hz⟩
      · rcases Nat.lt_or_ge g A.heap.size with h1 | h1
        · rw [hold2 g h1] at hgt
          exact hnew g hgt
        · exact Nat.le_trans hbel.size h1
      · rw [hold2 _ htw.box.lt]
        exact htb
      · rw [hold2 _ htw.map.lt]
        exact htm
      · exact congrArg (Value.int .i64) (by dsimp only; omega)
    · obtain rfl : q = t.ids.length := by omega
      (refine Ga ?_)
      exact cutQ_n _ hI ⟨rfl, rfl, rfl, trivial⟩
  · intro J E' A hI
    obtain ⟨hbel, hhalf, hp, htw, hfar', hnew, htb, htm, hgb, hgm⟩ := hI
    rw [List.take_length] at hhalf htw
    have kb := htw.box
    have hnd2 : (twl E E' t.ids).Nodup := twl_nodup hg.nd fun j hj k hk e => h0.ad_inj hj hk e
    (refine Ga ?_)
    apply SxG.Lst_maprange (hmp := htw.map)
    focus rfl
    focus rfl
    focus rfl
    intro w1 hit hbr hsr
    have I1 : Cp2 E ρ t.ids w c b mb A.heap.size (twl E E' t.ids) E' w1 :=
      ⟨hbel.trans (hbr.mono hbel.size), (hhalf.below hbr).congr fun k hk => if_pos (List.mem_map.2 ⟨k, hk, rfl⟩), hp, htw.below hbr, hit, fun g hg => hfar' g (by omega), hnew, htb, htm, hfar' _ (Nat.le_refl _), hgb, hgm, hbel.size, hnd2, fun q hq => hq⟩
    clear hit hsr hhalf htw kb hnd2 hfar' hnew htb htm hbel hgb hgm
    generalize A.heap.size = ib at *
    clear hbr
    (refine Ga ?_)
    refine W_cutB (α := Env) (fun _ => [(0, .pointer (some ⟨E.p, 0, none⟩)), (3, .pointer (some ⟨c, 0, none⟩)), (8, .func (.func 39) #[] #[.pointer (some ⟨b, 0, none⟩)])]) (fun E' A => Cp2 E ρ t.ids w c b mb ib [] E' A) ?_ ?_
    · refine W_loop (α := List (Option Nat × Nat) × Env) (fun s => [(0, .pointer (some ⟨E.p, 0, none⟩)), (3, .pointer (some ⟨c, 0, none⟩)), (8, .func (.func 39) #[] #[.pointer (some ⟨b, 0, none⟩)]), (4, .pointer (some ⟨b, 0, none⟩)), (58, .pointer (some ⟨ib, 0, none⟩))]) (fun s A => Cp2 E ρ t.ids w c b mb ib s.1 s.2 A) (fun s _ => s.1.length) (twl E E' t.ids, E') I1 ⟨rfl, rfl, rfl, rfl, rfl, trivial⟩ ?_
      clear I1 hp
      rintro J ⟨left, E'⟩ A hI
      dsimp only at hI ⊢
      obtain ⟨hbel, hhalf, hp, htw, hit, hfar', hnew, htb, htm, hti, hgb, hgm, hgi, hnd, hsub⟩ := id hI
      (refine Ga ?_)
      apply SxG.Lst_mapnext (hit := hit)
      focus rfl
      focus rfl
      · intro hl
        (refine Ga ?_)
        subst hl
        exact cutQ_n _ hI ⟨rfl, rfl, rfl, trivial⟩
      intro j q v w2 hq hR hit2 hcur hc2 hs2
      (refine Ga ?_)
      apply SxG.Lst_mapentry (hit := hcur)
      focus rfl
      focus rfl
      intro v2 hv2
      obtain rfl : v2 = .pointer (some ⟨q.2, 0, none⟩) := hv2
      have hmem := erase_mem hnd hq
      have hndl : (left.eraseIdx j).Nodup := hnd.sublist (List.eraseIdx_sublist ..)
      have hlen2 : (left.eraseIdx j).length < left.length := by
        obtain ⟨hj, _⟩ := List.getElem?_eq_some_iff.1 hq
        rw [List.length_eraseIdx, if_pos hj]
        omega
      obtain ⟨k, hk, rfl⟩ := List.mem_map.1 (hsub q (List.mem_of_getElem? hq))
      dsimp only at hmem ⊢
      have hbib : b ≠ ib := fun e => by
        have h2 := htw.box
        obtain ⟨_, _, _, _, _, _, h3, _⟩ := hit
        rw [e] at h2
        rw [Blk.raw h2] at h3
        cases h3
      have hK2 : Kept E' (fun t => t = .other) A w2 := .ofChg hc2 fun b hb => by rw [List.mem_singleton.1 hb]; exact hti
      have hbw2 : Below w.heap.size w w2 := hbel.trans (hc2.below (fun b hb => by rw [List.mem_singleton.1 hb]; exact hgi) hbel.size)
      have hh2 := hhalf.kept hK2 fun t ht => ht
      have htw2 : TwAt w2 b mb (twl E E' t.ids) := ⟨hc2.blk htw.box (fun h => hbib (List.mem_singleton.1 h)), hit2.map, twl_keys (h0.below hbw2).nodes⟩
      obtain ⟨_, sl, sr', hn0, hsl0, hsr0⟩ := h0.nodes _ hk
      have hcl := fits_clo hg.nd hft
      have hinj : ∀ j ∈ t.ids, ∀ k ∈ t.ids, E.ad j = E.ad k → j = k := fun j hj k hk e => h0.ad_inj hj hk e
      have SS0 : TwAt w2.drew b mb (twl E E' t.ids) ∧ Below w.heap.size w w2.drew := ⟨htw2.below (Below.drew (Below.refl _ _)), Below.drew hbw2⟩
      obtain ⟨l1, l3, rfl, _⟩ := own_form hsl0.own
      obtain ⟨r1, r3, rfl, _⟩ := own_form hsr0.own
      obtain ⟨pp, hpp⟩ : ∃ pp, parv E (ρ k).par = .pointer pp := by
        cases (ρ k).par with
        | none => exact ⟨_, rfl⟩
        | some q => exact ⟨_, rfl⟩
      obtain ⟨pn, hpn⟩ : ∃ pn, parv E' (ρ k).par = .pointer pn := by
        cases (ρ k).par with
        | none => exact ⟨_, rfl⟩
        | some q => exact ⟨_, rfl⟩
      have hlk := fun A9 (hA9 : TwAt A9 b mb (twl E E' t.ids) ∧ Below w.heap.size w A9) => hA9.1.look hinj (h0.below hA9.2).nodes (ρ k).par (hcl.par k hk)
      unfold ncs at hn0
      rw [hpp] at hn0 hlk
      rw [hpn] at hlk
      (refine Ga ?_)
      refine W_drawS 30 (fun B => TwAt B b mb (twl E E' t.ids) ∧ Below w.heap.size w B) rfl rfl ?_
      refine S_takeV 0 29 rfl (by kernel_rfl) (by repeat (first | exact retQ_p | apply seqQ_p | apply blkQ_p | apply rndQ_p | apply cutQ_p)) SS0 ?_
      (refine Qb ?_)
      refine S_takeV 1 28 rfl (by kernel_rfl) (by repeat (first | exact retQ_p | apply seqQ_p | apply blkQ_p | apply rndQ_p | apply cutQ_p)) SS0 ?_
      (refine Qb ?_)
      refine S_takeV 2 27 rfl (by kernel_rfl) (by repeat (first | exact retQ_p | apply seqQ_p | apply blkQ_p | apply rndQ_p | apply cutQ_p)) SS0 ?_
      (refine Qb ?_)
      refine S_takeV 3 26 rfl (by kernel_rfl) (by repeat (first | exact retQ_p | apply seqQ_p | apply blkQ_p | apply rndQ_p | apply cutQ_p)) SS0 ?_
      apply Qst_load
      focus rfl
      focus rfl
      focus rfl
      focus exact fun A9 hA9 => hA9.1.box
      focus rfl
      focus rfl
      (refine Qb ?_)
      refine S_takeV 4 25 rfl (by kernel_rfl) (by repeat (first | exact retQ_p | apply seqQ_p | apply blkQ_p | apply rndQ_p | apply cutQ_p)) SS0 ?_
      (refine Qb ?_)
      refine S_takeV 5 24 rfl (by kernel_rfl) (by repeat (first | exact retQ_p | apply seqQ_p | apply blkQ_p | apply rndQ_p | apply cutQ_p)) SS0 ?_
      (refine Qb ?_)
      refine S_takeV 6 23 rfl (by kernel_rfl) (by repeat (first | exact retQ_p | apply seqQ_p | apply blkQ_p | apply rndQ_p | apply cutQ_p)) SS0 ?_
      (refine Qb ?_)
      refine S_takeV 7 22 rfl (by kernel_rfl) (by repeat (first | exact retQ_p | apply seqQ_p | apply blkQ_p | apply rndQ_p | apply cutQ_p)) SS0 ?_
      apply Qst_load
      focus rfl
      focus rfl
      focus rfl
      focus exact fun A9 hA9 => hn0.below hA9.2 hn0.lt
      focus rfl
      focus rfl
      (refine Qb ?_)
      refine S_takeV 8 21 rfl (by kernel_rfl) (by repeat (first | exact retQ_p | apply seqQ_p | apply blkQ_p | apply rndQ_p | apply cutQ_p)) SS0 ?_
      apply Qst_lookup
      focus rfl
      focus rfl
      focus exact hlk
      focus rfl
      (refine Qb ?_)
      refine S_takeV 9 20 rfl (by kernel_rfl) (by repeat (first | exact retQ_p | apply seqQ_p | apply blkQ_p | apply rndQ_p | apply cutQ_p)) SS0 ?_
      (refine Qb ?_)
      refine S_takeV 10 19 rfl (by kernel_rfl) (by repeat (first | exact retQ_p | apply seqQ_p | apply blkQ_p | apply rndQ_p | apply cutQ_p)) SS0 ?_
      (refine Qb ?_)
      refine S_takeV 11 18 rfl (by kernel_rfl) (by repeat (first | exact retQ_p | apply seqQ_p | apply blkQ_p | apply rndQ_p | apply cutQ_p)) SS0 ?_
      (refine Qb ?_)
      refine S_takeV 12 17 rfl (by kernel_rfl) (by repeat (first | exact retQ_p | apply seqQ_p | apply blkQ_p | apply rndQ_p | apply cutQ_p)) SS0 ?_
      (refine Qb ?_)
      refine S_takeV 13 16 rfl (by kernel_rfl) (by repeat (first | exact retQ_p | apply seqQ_p | apply blkQ_p | apply rndQ_p | apply cutQ_p)) SS0 ?_
      apply Qst_load
      focus rfl
      focus rfl
      focus rfl
      focus exact fun A9 hA9 => hn0.below hA9.2 hn0.lt
      focus rfl
      focus rfl
      (refine Qb ?_)
      refine S_takeV 15 15 rfl (by kernel_rfl) (by repeat (first | exact retQ_p | apply seqQ_p | apply blkQ_p | apply rndQ_p | apply cutQ_p)) SS0 ?_
      (refine Qb ?_)
      refine S_takeV 16 14 rfl (by kernel_rfl) (by repeat (first | exact retQ_p | apply seqQ_p | apply blkQ_p | apply rndQ_p | apply cutQ_p)) SS0 ?_
      (refine Qb ?_)
      refine S_takeV 17 13 rfl (by kernel_rfl) (by repeat (first | exact retQ_p | apply seqQ_p | apply blkQ_p | apply rndQ_p | apply cutQ_p)) SS0 ?_
      (refine Qb ?_)
      refine S_takeV 18 12 rfl (by kernel_rfl) (by repeat (first | exact retQ_p | apply seqQ_p | apply blkQ_p | apply rndQ_p | apply cutQ_p)) SS0 ?_
      (refine Qb ?_)
      refine S_takeV 19 11 rfl (by kernel_rfl) (by repeat (first | exact retQ_p | apply seqQ_p | apply blkQ_p | apply rndQ_p | apply cutQ_p)) SS0 ?_
      apply Qst_load
      focus rfl
      focus rfl
      focus rfl
      focus exact fun A9 hA9 => hn0.below hA9.2 hn0.lt
      focus rfl
      focus rfl
      (refine Qb ?_)
      refine S_any [14] 10 rfl (by kernel_rfl) (all1 ?_)
      (apply Lst_call; (focus rfl); (focus rfl))
      have hsz := fits_sizes hg.nd hft hlen
      have hkey : ∀ A9, TwAt A9 b mb (twl E E' t.ids) ∧ Below w.heap.size w A9 → ∀ j ∈ t.ids, SxG.kpV A9 (some (E.ad j)) ∧ SxG.look (twl E E' t.ids) (some (E.ad j)) = some (E'.ad j) := fun A9 hA9 j hj => ⟨twl_keys (E' := E') (h0.below hA9.2).nodes (some (E.ad j), E'.ad j) (List.mem_map.2 ⟨j, hj, rfl⟩), (look_twl (E' := E') (l := t.ids) (k := j) fun i hi e => hinj i hi j hj e).trans (if_pos hj)⟩
      have hrow : ∀ {A9 : World} {τ : Tag} {v : Value} {l : List Id}, Below w.heap.size w A9 → RowAt w E τ v l → RowAt A9 E τ v l := fun hA9 hr => (Kept.of (E := E) (S := fun _ => False) hA9).row hr (fun h => h)
      refine (c_twins E'.ad SS0.1 (hrow SS0.2 hsl0) (fun j hj => hkey _ SS0 j (hcl.L k hk j hj)) (Nat.le_trans (hsz.L k hk) (by omega))).mono ?_
      rintro uL B1 ⟨huL, hbB1⟩
      have SS1 : TwAt B1 b mb (twl E E' t.ids) ∧ Below w.heap.size w B1 := ⟨SS0.1.below hbB1, SS0.2.trans (hbB1.mono SS0.2.size)⟩
      apply Lst_nil
      apply rnQ_n
      refine ⟨SS1, ?_⟩
      refine S_any [20] 9 rfl (by kernel_rfl) (all1 ?_)
      (apply Lst_call; (focus rfl); (focus rfl))
      refine (c_twins E'.ad SS1.1 (hrow SS1.2 hsr0) (fun j hj => hkey _ SS1 j (hcl.R k hk j hj)) (Nat.le_trans (hsz.R k hk) (by omega))).mono ?_
      rintro uR B2 ⟨huR, hbB2⟩
      have SS2 : TwAt B2 b mb (twl E E' t.ids) ∧ Below w.heap.size w B2 := ⟨SS1.1.below hbB2, SS1.2.trans (hbB2.mono SS1.2.size)⟩
      have huL2 := own_kept huL fun g hgo => hbB2.block g (own_ltg huL hgo)
      apply Lst_nil
      apply rnQ_n
      refine ⟨SS2, ?_⟩
      obtain ⟨y1, y3, rfl, _⟩ := own_form huL2
      obtain ⟨z1, z3, rfl, _⟩ := own_form huR
      have hb02 : Below w2.heap.size w2 B2 := (Below.drew (Below.refl _ _)).trans (hbB1.trans (hbB2.mono hbB1.size))
      have hhB := hh2.below hb02
      have hx1 := hhB.nodes k hk
      have hxr : recL E E' ρ left k = bare ρ k := if_pos (List.mem_of_getElem? hq)
      rw [hxr] at hx1
      obtain ⟨hxt, s0, s1, kx, hx2, hx3⟩ := hx1
      obtain ⟨s2, s3, rfl, _⟩ := own_form hx2.own
      obtain ⟨s4, s5, rfl, _⟩ := own_form hx3.own
      unfold ncs bare parv at kx
      dsimp only at kx
      have lx := kx.lt
      have gx : w.heap.size ≤ E'.ad k := hnew _ (by rw [hxt]; simp)
      have hSP : ∀ {B o}, (TwAt B b mb (twl E E' t.ids) ∧ Below w.heap.size w B) → TwAt (B.putObj (E'.ad k) o) b mb (twl E E' t.ids) ∧ Below w.heap.size w (B.putObj (E'.ad k) o) := fun {B o} hB => by
        have hbn := Sx.Below.put hB.2 gx o
        have hxb : b ≠ E'.ad k := fun e => by rw [e, hxt] at htb; cases htb
        have hxm : mb ≠ E'.ad k := fun e => by rw [e, hxt] at htm; cases htm
        exact ⟨⟨Blk.put_ne hxb hB.1.box, hB.1.map.mono (World.putObj_heap_other hxm) (fun _ _ h => h), twl_keys (h0.below hbn).nodes⟩, hbn⟩
      refine S_takeV 21 8 rfl (by kernel_rfl) (by repeat (first | exact retQ_p | apply seqQ_p | apply blkQ_p | apply rndQ_p | apply cutQ_p)) SS2 ?_
      (refine Qb ?_)
      refine S_takeV 22 7 rfl (by kernel_rfl) (by repeat (first | exact retQ_p | apply seqQ_p | apply blkQ_p | apply rndQ_p | apply cutQ_p)) SS2 ?_
      (refine Qb ?_)
      refine S_any [23] 6 rfl (by kernel_rfl) (all1 ?_)
      apply Lst_store (hb := kx)
      focus rfl
      focus constructor
      focus rfl
      focus rfl
      focus rfl
      focus rfl
      focus (repeat constructor)
      apply Lst_nil
      apply rnQ_n
      refine ⟨hSP SS2, ?_⟩
      have kx1 := Blk.put_same kx.lt [.int .u64 ((ρ k).u.id.1 : Int), .int .u64 ((ρ k).u.id.2 : Int), .int .u64 ((ρ k).u.l.1 : Int), .int .u64 ((ρ k).u.l.2 : Int), .int .u64 ((ρ k).u.r.1 : Int), .int .u64 ((ρ k).u.r.2 : Int), .pointer pn, .slice s2 0 s3, .slice s4 0 s5, .int .i64 ((ρ k).n : Int)] 78
      refine S_takeV 24 5 rfl (by kernel_rfl) (by repeat (first | exact retQ_p | apply seqQ_p | apply blkQ_p | apply rndQ_p | apply cutQ_p)) (hSP SS2) ?_
      (refine Qb ?_)
      refine S_takeV 25 4 rfl (by kernel_rfl) (by repeat (first | exact retQ_p | apply seqQ_p | apply blkQ_p | apply rndQ_p | apply cutQ_p)) (hSP SS2) ?_
      (refine Qb ?_)
      refine S_any [26] 3 rfl (by kernel_rfl) (all1 ?_)
      apply Lst_store (hb := kx1)
      focus rfl
      focus constructor
      focus rfl
      focus rfl
      focus rfl
      focus rfl
      focus (repeat constructor)
      apply Lst_nil
      apply rnQ_n
      refine ⟨hSP (hSP SS2), ?_⟩
      have kx2 := Blk.put_same kx1.lt [.int .u64 ((ρ k).u.id.1 : Int), .int .u64 ((ρ k).u.id.2 : Int), .int .u64 ((ρ k).u.l.1 : Int), .int .u64 ((ρ k).u.l.2 : Int), .int .u64 ((ρ k).u.r.1 : Int), .int .u64 ((ρ k).u.r.2 : Int), .pointer pn, .slice y1 (ρ k).L.length y3, .slice s4 0 s5, .int .i64 ((ρ k).n : Int)] 78
      refine S_takeV 27 2 rfl (by kernel_rfl) (by repeat (first | exact retQ_p | apply seqQ_p | apply blkQ_p | apply rndQ_p | apply cutQ_p)) (hSP (hSP SS2)) ?_
      (refine Qb ?_)
      refine S_takeV 28 1 rfl (by kernel_rfl) (by repeat (first | exact retQ_p | apply seqQ_p | apply blkQ_p | apply rndQ_p | apply cutQ_p)) (hSP (hSP SS2)) ?_
      (refine Qb ?_)
      refine S_any [29] 0 rfl (by kernel_rfl) (all1 ?_)
      apply Lst_store (hb := kx2)
      focus rfl
      focus constructor
      focus rfl
      focus rfl
      focus rfl
      focus rfl
      focus (repeat constructor)
      apply Lst_nil
      apply rnQ_n
      refine ⟨hSP (hSP (hSP SS2)), ?_⟩
      have kx3 := Blk.put_same kx2.lt [.int .u64 ((ρ k).u.id.1 : Int), .int .u64 ((ρ k).u.id.2 : Int), .int .u64 ((ρ k).u.l.1 : Int), .int .u64 ((ρ k).u.l.2 : Int), .int .u64 ((ρ k).u.r.1 : Int), .int .u64 ((ρ k).u.r.2 : Int), .pointer pn, .slice y1 (ρ k).L.length y3, .slice z1 (ρ k).R.length z3, .int .i64 ((ρ k).n : Int)] 78
      refine S_done (by kernel_rfl) ?_
      (refine Ga ?_)
      have hEad : ((E'.tagv (.slice y1 (ρ k).L.length y3) (.left k)).tagv (.slice z1 (ρ k).R.length z3) (.right k)).ad = E'.ad := rfl
      have hEp : ((E'.tagv (.slice y1 (ρ k).L.length y3) (.left k)).tagv (.slice z1 (ρ k).R.length z3) (.right k)).p = E'.p := rfl
      have hE : Ex E' w2 ((E'.tagv (.slice y1 (ρ k).L.length y3) (.left k)).tagv (.slice z1 (ρ k).R.length z3) (.right k)) B2 := (Ex.tagv (A := w2) (.left k) huL (show w2.heap.size ≤ w2.drew.heap.size from Nat.le_refl _)).trans (Ex.tagv (.right k) huR (Nat.le_refl _)) hbB1.size hbB2.size
      have htL : ∀ g, (Value.slice y1 (ρ k).L.length y3).ownBlock = some g → ((E'.tagv (.slice y1 (ρ k).L.length y3) (.left k)).tagv (.slice z1 (ρ k).R.length z3) (.right k)).tg g = .left k := fun g hgo => by
        show (if (Value.slice z1 (ρ k).R.length z3).ownBlock = some g then Tag.right k else if (Value.slice y1 (ρ k).L.length y3).ownBlock = some g then .left k else E'.tg g) = _
        rw [if_neg (fun e => by have h1 := own_base huR e; have h2 := own_ltg huL hgo; omega), if_pos hgo]
      have htR : ∀ g, (Value.slice z1 (ρ k).R.length z3).ownBlock = some g → ((E'.tagv (.slice y1 (ρ k).L.length y3) (.left k)).tagv (.slice z1 (ρ k).R.length z3) (.right k)).tg g = .right k := fun g hgo => if_pos hgo
      generalize (E'.tagv (.slice y1 (ρ k).L.length y3) (.left k)).tagv (.slice z1 (ρ k).R.length z3) (.right k) = E2 at *
      have hh3 := (hh2.ext hE (Nat.le_refl _)).below hb02
      obtain ⟨hxt2, _⟩ := hh3.nodes k hk
      have hpv : pv E2 = pv E' := hE.pv
      have hadk : E2.ad k = E'.ad k := by rw [hEad]
      rw [hadk] at hxt2
      have hKp : ∀ {B : World} (o : Obj), Kept E2 (fun t => t = .node k) B (B.putObj (E'.ad k) o) := fun o => .put _ hxt2 o
      have hKW := ((hKp (B := B2) (.cells [.int .u64 ((ρ k).u.id.1 : Int), .int .u64 ((ρ k).u.id.2 : Int), .int .u64 ((ρ k).u.l.1 : Int), .int .u64 ((ρ k).u.l.2 : Int), .int .u64 ((ρ k).u.r.1 : Int), .int .u64 ((ρ k).u.r.2 : Int), .pointer pn, .slice s2 0 s3, .slice s4 0 s5, .int .i64 ((ρ k).n : Int)].toArray 78)).trans
        (hKp (.cells [.int .u64 ((ρ k).u.id.1 : Int), .int .u64 ((ρ k).u.id.2 : Int), .int .u64 ((ρ k).u.l.1 : Int), .int .u64 ((ρ k).u.l.2 : Int), .int .u64 ((ρ k).u.r.1 : Int), .int .u64 ((ρ k).u.r.2 : Int), .pointer pn, .slice y1 (ρ k).L.length y3, .slice s4 0 s5, .int .i64 ((ρ k).n : Int)].toArray 78))).trans
        (hKp (.cells [.int .u64 ((ρ k).u.id.1 : Int), .int .u64 ((ρ k).u.id.2 : Int), .int .u64 ((ρ k).u.l.1 : Int), .int .u64 ((ρ k).u.l.2 : Int), .int .u64 ((ρ k).u.r.1 : Int), .int .u64 ((ρ k).u.r.2 : Int), .pointer pn, .slice y1 (ρ k).L.length y3, .slice z1 (ρ k).R.length z3, .int .i64 ((ρ k).n : Int)].toArray 78))
      have SSW := hSP (o := .cells [.int .u64 ((ρ k).u.id.1 : Int), .int .u64 ((ρ k).u.id.2 : Int), .int .u64 ((ρ k).u.l.1 : Int), .int .u64 ((ρ k).u.l.2 : Int), .int .u64 ((ρ k).u.r.1 : Int), .int .u64 ((ρ k).u.r.2 : Int), .pointer pn, .slice y1 (ρ k).L.length y3, .slice z1 (ρ k).R.length z3, .int .i64 ((ρ k).n : Int)].toArray 78) (hSP (o := .cells [.int .u64 ((ρ k).u.id.1 : Int), .int .u64 ((ρ k).u.id.2 : Int), .int .u64 ((ρ k).u.l.1 : Int), .int .u64 ((ρ k).u.l.2 : Int), .int .u64 ((ρ k).u.r.1 : Int), .int .u64 ((ρ k).u.r.2 : Int), .pointer pn, .slice y1 (ρ k).L.length y3, .slice s4 0 s5, .int .i64 ((ρ k).n : Int)].toArray 78) (hSP (o := .cells [.int .u64 ((ρ k).u.id.1 : Int), .int .u64 ((ρ k).u.id.2 : Int), .int .u64 ((ρ k).u.l.1 : Int), .int .u64 ((ρ k).u.l.2 : Int), .int .u64 ((ρ k).u.r.1 : Int), .int .u64 ((ρ k).u.r.2 : Int), .pointer pn, .slice s2 0 s3, .slice s4 0 s5, .int .i64 ((ρ k).n : Int)].toArray 78) SS2))
      clear kx kx1 kx2 hSP hKp
      generalize (((B2.putObj (E'.ad k) _).putObj (E'.ad k) _).putObj (E'.ad k) _) = W at *
      have hrL : RowAt B2 E2 (.left k) (.slice y1 (ρ k).L.length y3) (ρ k).L := ⟨by rw [hpv]; exact own_lowA huL2 (Nat.zero_le _), htL⟩
      have hrR : RowAt B2 E2 (.right k) (.slice z1 (ρ k).R.length z3) (ρ k).R := ⟨by rw [hpv]; exact own_lowA huR (Nat.zero_le _), htR⟩
      have hnW : NodeAt W E2 k (ρ k) := ⟨by rw [hadk]; exact hxt2, _, _, by
        unfold ncs
        rw [hadk, hE.parv, hpn]
        exact kx3, hKW.row hrL (by simp), hKW.row hrR (by simp)⟩
      have hh4 := hh3.updNode hKW (fun t ht => .inr (.inl ht)) hnW
      have hkc : (some (E.ad k), E2.ad k) ∉ left.eraseIdx j := fun h => ((hmem _).1 h).2 (by rw [hadk])
      have hh5 : Half W E2 t.ids [] (recL E E2 ρ (left.eraseIdx j)) := hh4.congr fun i hi => by
        by_cases e : i = k
        · subst e
          rw [fset_same]
          exact if_neg hkc
        · rw [fset_ne e]
          have h1 : (some (E.ad i), E2.ad i) ∈ left.eraseIdx j ↔ (some (E.ad i), E'.ad i) ∈ left := by
            rw [hmem, hEad]
            exact ⟨fun h => h.1, fun h => ⟨h, fun e' => e (hinj i hi k hk (Option.some.inj (congrArg Prod.fst e')))⟩⟩
          by_cases e2 : (some (E.ad i), E'.ad i) ∈ left
          · exact (if_pos (h1.2 e2)).trans (if_pos e2).symm
          · exact (if_neg fun h => e2 (h1.1 h)).trans (if_neg e2).symm
      have htE : twl E E2 t.ids = twl E E' t.ids := twl_congr fun _ _ => by rw [hEad]
      have hsW := hKW.size
      have hs02 := hb02.size
      have hold : ∀ g, g < A.heap.size → E2.tg g = E'.tg g := fun g hg => hE.old g (by omega)
      have hitl := hit.lt
      refine rndQ_n (α := List (Option Nat × Nat) × Env) (left.eraseIdx j, E2) ⟨SSW.2, hh5, hEp.trans hp, by rw [htE]; exact SSW.1, ?_, fun g hgl => ?_, fun g hgt => ?_, ?_, ?_, ?_, hgb, hgm, hgi, hndl, fun q hq => ?_⟩ ⟨rfl, rfl, rfl, rfl, rfl, trivial⟩ hlen2
      · dsimp only
        rw [htE]
        have o1 : ∀ g, g < A.heap.size → E'.tg g = .other → W.heap[g]? = w2.heap[g]? := fun g hgl ht => (hKW.block g (by omega) (by rw [hold g hgl, ht]; simp)).trans (hb02.block g (by omega))
        exact hit2.mono (o1 mb htw.map.lt htm) (o1 ib hitl hti) (fun _ _ h => h)
      · dsimp only
        rw [hE.far g (by omega)]
        exact hfar' g (by omega)
      · dsimp only at hgt
        rcases Nat.lt_or_ge g A.heap.size with h1 | h1
        · rw [hold g h1] at hgt
          exact hnew g hgt
        · exact Nat.le_trans hbel.size h1
      · dsimp only
        rw [hold _ htw.box.lt]
        exact htb
      · dsimp only
        rw [hold _ htw.map.lt]
        exact htm
      · dsimp only
        rw [hold _ hitl]
        exact hti
      · dsimp only
        rw [htE]
        exact hsub q ((hmem q).1 hq).1
    · clear I1 hp
      intro J E' A hI
      obtain ⟨hbel, hhalf, hp, htw, _, hfar', hnew, htb, htm, _, hgb, hgm, _, _, _⟩ := hI
      have hA := h0.below hbel
      obtain ⟨so, sr, fresh, m, hS0, _, hR0, _, _⟩ := hA.seq
      obtain ⟨r1, r3, rfl, _⟩ := own_form hR0.own
      have lS0 := hS0.lt
      obtain ⟨so', sr', fr', m', qS, qO, qR, qM⟩ := hhalf.seq
      rw [hp] at qS
      have lS := qS.lt
      have tS := hhalf.tp
      rw [hp] at tS
      have gc := hnew c (by rw [tS]; simp)
      have hsz := fits_sizes hg.nd hft hlen
      have hcl := fits_clo hg.nd hft
      have hinj : ∀ j ∈ t.ids, ∀ k ∈ t.ids, E.ad j = E.ad k → j = k := fun j hj k hk e => h0.ad_inj hj hk e
      (refine Ga ?_)
      (apply Lst_call; (focus rfl); (focus rfl))
      refine (c_twins E'.ad htw hR0 (fun j hj => ⟨twl_keys (E' := E') hA.nodes (some (E.ad j), E'.ad j) (List.mem_map.2 ⟨j, hcl.rt j hj, rfl⟩), (look_twl (E' := E') (l := t.ids) (k := j) fun i hi e => hinj i hi j (hcl.rt j hj) e).trans (if_pos (hcl.rt j hj))⟩) (Nat.le_trans hsz.rt (by omega))).mono ?_
      rintro u B ⟨hu, hbB⟩
      obtain ⟨y1, y3, rfl, _⟩ := own_form hu
      have qSB := qS.below hbB lS
      have lSB := qSB.lt
      obtain ⟨o1, o3, rfl, _⟩ := own_form qO.own
      have fin : ∀ f : Bool, (f = true → t.ids.length = 0) → ∃ F', SqAt ((B.putObj c (.cells [.map (some E'.ma), .slice o1 t.ids.length o3, .slice y1 t.tips.length y3, .map (some E'.mt), .bool fr'].toArray 71)).putObj c (.cells [.map (some E'.ma), .slice o1 t.ids.length o3, .slice y1 t.tips.length y3, .map (some E'.mt), .bool f].toArray 71)) c F' t ∧ (∀ g, F' g → w.heap.size ≤ g) ∧ Below w.heap.size w ((B.putObj c (.cells [.map (some E'.ma), .slice o1 t.ids.length o3, .slice y1 t.tips.length y3, .map (some E'.mt), .bool fr'].toArray 71)).putObj c (.cells [.map (some E'.ma), .slice o1 t.ids.length o3, .slice y1 t.tips.length y3, .map (some E'.mt), .bool f].toArray 71)) := fun f hf => by
        have hE : Ex E' A (E'.tagv (.slice y1 t.tips.length y3) .root) B := Ex.tagv .root hu (Nat.le_refl _)
        have htR : ∀ g, (Value.slice y1 t.tips.length y3).ownBlock = some g → (E'.tagv (.slice y1 t.tips.length y3) .root).tg g = .root := fun g hgo => if_pos hgo
        generalize E'.tagv (.slice y1 t.tips.length y3) .root = E2 at *
        have hh := ((hhalf.ext hE (Nat.le_refl _)).below hbB).congr (σ := ρ) fun k _ => (if_neg (fun h => by cases h)).symm
        have tS2 : E2.tg c = .seq := (hE.old c lS).trans tS
        have hK : Kept E2 (fun t => t = .seq) B ((B.putObj c (.cells [.map (some E'.ma), .slice o1 t.ids.length o3, .slice y1 t.tips.length y3, .map (some E'.mt), .bool fr'].toArray 71)).putObj c (.cells [.map (some E'.ma), .slice o1 t.ids.length o3, .slice y1 t.tips.length y3, .map (some E'.mt), .bool f].toArray 71)) := (Kept.put _ tS2 _).trans (.put _ tS2 _)
        have hkS := Blk.put_same (w := B.putObj c (.cells [.map (some E'.ma), .slice o1 t.ids.length o3, .slice y1 t.tips.length y3, .map (some E'.mt), .bool fr'].toArray 71)) (b := c) (by rw [World.putObj_size]; exact lSB) [.map (some E'.ma), .slice o1 t.ids.length o3, .slice y1 t.tips.length y3, .map (some E'.mt), .bool f] 71
        have hrow : RowAt B E2 .root (.slice y1 t.tips.length y3) t.tips := ⟨by rw [hE.pv]; exact own_lowA hu (Nat.zero_le _), htR⟩
        have hbw := Sx.Below.put (Sx.Below.put (hbel.trans (hbB.mono hbel.size)) gc (.cells [.map (some E'.ma), .slice o1 t.ids.length o3, .slice y1 t.tips.length y3, .map (some E'.mt), .bool fr'].toArray 71)) gc (.cells [.map (some E'.ma), .slice o1 t.ids.length o3, .slice y1 t.tips.length y3, .map (some E'.mt), .bool f].toArray 71)
        have hsz2 := hK.size
        have hsB := hbB.size
        generalize (B.putObj c _).putObj c _ = W at *
        obtain ⟨es, he1, he2⟩ := hh.all
        refine ⟨fun g => E2.tg g ≠ .other, ⟨E2, ρ, hE.p.trans hp, fun _ => Iff.rfl, fun g hgl => ?_, ⟨hh.tp, hh.tma, hh.tmt, ⟨.slice o1 t.ids.length o3, .slice y1 t.tips.length y3, f, m', ?_, ?_, hK.row hrow (by simp), ?_, fun hft k hk => ?_⟩, ⟨es, hK.map he1 (by rw [hh.tma]; simp), he2⟩, fun k hk => hK.node (hh.nodes k hk) (by simp) (by simp) (by simp)⟩, hft, hg⟩, fun g hgt => ?_, hbw⟩
        · rw [hE.far g (by omega)]
          exact hfar' g (by omega)
        · rw [hE.p, hE.ma, hE.mt, hp]
          exact hkS
        · exact hK.row ((Kept.of (E := E2) (S := fun _ => False) hbB).row (hE.row qO (Nat.le_refl _)) (fun h => h)) (by simp)
        · rw [hE.mt]
          exact hK.map (qM.mono (hbB.block _ qM.lt) (fun _ _ h => h)) (by have := hh.tmt; rw [hE.mt] at this; rw [this]; simp)
        · have := hf hft
          rw [List.eq_nil_of_length_eq_zero this] at hk
          cases hk
        · change E2.tg g ≠ .other at hgt
          rcases Nat.lt_or_ge g A.heap.size with h1 | h1
          · rw [hE.old g h1] at hgt
            exact hnew g hgt
          · exact Nat.le_trans hbel.size h1
      by_cases hz : t.ids.length = 0
      · (refine Ga ?_)
        (apply retQ1; (focus rfl))
        exact ⟨c, _, rfl, (fin true fun _ => hz).choose_spec⟩
      · (refine Ga ?_)
        (apply retQ1; (focus rfl))
        exact ⟨c, _, rfl, (fin false fun h => by cases h).choose_spec⟩
end Sq
end Go.Proofs.Ytmammcgdjjldbaa
