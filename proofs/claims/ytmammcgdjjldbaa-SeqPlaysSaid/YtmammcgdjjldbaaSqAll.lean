/- The iterator over a sequence; the ids in order. -/
import Derived.Test.YtmammcgdjjldbaaSqZ
import Derived.Test.YtmammcgdjjldbaaSqB
namespace Go.Proofs.Ytmammcgdjjldbaa
set_option maxRecDepth 100000
namespace Sq
open Go Go.RowKit Sx Tl
/-- The cells of these blocks are kept. -/
structure KeepX (X : Nat → Prop) (A A' : World) : Prop where
  size : A.heap.size ≤ A'.heap.size
  same : ∀ (k : Nat) (o : Obj), X k → A.heap[k]? = some o → o.isCells = true → A'.heap[k]? = some o
theorem KeepX.refl (X : Nat → Prop) (A : World) : KeepX X A A := ⟨Nat.le_refl _, fun _ _ _ h _ => h⟩
theorem KeepX.trans {X : Nat → Prop} {A B C : World} (h : KeepX X A B) (k : KeepX X B C) : KeepX X A C := ⟨Nat.le_trans h.size k.size, fun i o hx hi ho => k.same i o hx (h.same i o hx hi ho) ho⟩
theorem KeepX.blk {X : Nat → Prop} {A A' : World} {b : Nat} {l : List Value} {e : TypeId} (h : KeepX X A A') (hx : X b) (hb : Blk A b l e) : Blk A' b l e := h.same _ _ hx hb rfl
theorem KeepX.cell {X : Nat → Prop} {A A' : World} {p : Addr} {v : Value} (h : KeepX X A A') (hx : X p.block) (hb : A.cell? p = some v) : A'.cell? p = some v := by
  unfold World.cell? at hb ⊢
  cases hx' : A.heap[p.block]? with
  | none => simp [hx'] at hb
  | some o =>
    have : o.isCells = true := by
      cases o <;> simp [hx'] at hb <;> rfl
    rw [h.same _ _ hx hx' this]
    rw [hx'] at hb
    exact hb
theorem KeepX.put {X : Nat → Prop} {w : World} (A : World) (l : Nat) (r r' : Loop) (_ : w.heap.size ≤ l) (h : A.heap[l]? = some (.loop r)) : KeepX X A (A.putObj l (.loop r')) :=
  ⟨by rw [World.putObj_size]; exact Nat.le_refl _, fun k o _ hk ho => by
    by_cases e : k = l
    · subst e
      rw [h] at hk
      cases hk
      cases ho
    · exact (World.putObj_heap_other e).trans hk⟩
theorem KeepX.of {X : Nat → Prop} {A A' : World} (hs : A.heap.size ≤ A'.heap.size) (h : ∀ g, g < A.heap.size → X g → A'.heap[g]? = A.heap[g]?) : KeepX X A A' := ⟨hs, fun k _ hx hk _ => (h k (lt_of_some hk) hx).trans hk⟩
/-- What the iterator hands over. -/
def encT (t : Fo) (k : Nat) : List Value := [.int .i64 (k : Int), .agg (ucs (t.flat.getD k default)).toArray]
theorem KF.put {A : World} {B b : Nat} {l : List Value} {e : TypeId} (h : Blk A b l e) (o : Obj) : KeepsFrom B A (A.putObj b o) := ⟨by rw [World.putObj_size]; exact Nat.le_refl _, fun k x _ hk hc => by
  by_cases e' : k = b
  · subst e'
    rw [show A.heap[k]? = _ from h] at hk
    cases hk
    cases hc
  · exact (World.putObj_heap_other e').trans hk⟩
theorem KF.grown {A A' : World} {B B' e sz n : Nat} {v : Value} {xs : List Value} (h : A.ownsRow B' e sz v n xs) (hg : A.grownBy A' v.ownBlock) : KeepsFrom B A A' := ⟨hg.size, fun k x _ hk hc => by
  by_cases e' : some k = v.ownBlock
  · rcases h.2 with ⟨rfl, _⟩ | ⟨g, cap, cur, rfl, _, hh, _⟩
    · cases e'
    · cases e'
      rw [hh] at hk
      cases hk
      cases hc
  · exact (hg.block k (lt_of_some hk) e').trans hk⟩
theorem Blk_grown {w w' : World} {b : Nat} {l : List Value} {e : TypeId} {row : Option Nat} (h : Blk w b l e) (hg : w.grownBy w' row) (hne : some b ≠ row) : Blk w' b l e := (hg.block b h.lt hne).trans h
theorem own_lowA {w : World} {B B' e sz n : Nat} {v : Value} {xs : List Value} (h : w.ownsRow B e sz v n xs) (hB : B' ≤ B) : w.ownsRow B' e sz v n xs := by
  refine ⟨h.1, ?_⟩
  rcases h.2 with h1 | ⟨g, cap, cur, h1, h2, h3⟩
  · exact .inl h1
  · exact .inr ⟨g, cap, cur, h1, Nat.le_trans hB h2, h3⟩
variable {w : World} {p : Nat} {F : Nat → Prop} {t : Fo}
attribute [local irreducible] W Lst Qst Pu seqQ blkQ rndQ cutQ retQ Does Enters IntKind.wrap bits sb World.alloc World.putObj Blk
set_option maxHeartbeats 2000000 in
theorem g_AllS (B : Nat) (hB : Blk w B [.pointer (some ⟨p, 0, none⟩)] 27) (h : SqAt w p F t) (hlen : t.sz ≤ 1000000000) :
    Gives Try.prog 51 #[.pointer (some ⟨B, 0, none⟩)] t.sz (fun k => (encT t k).toArray) (KeepX (fun g => F g ∨ g = B)) w := by
  intro l J Jx W1 hb1 hJ hJx hY h0
  have hB1 := hB.below hb1 hB.lt
  obtain ⟨E, ρ, rfl, hF, hfar, h1, hft, hg⟩ := h.below hb1
  obtain ⟨so, sr, fresh, m, hS, hO, _, _, _⟩ := h1.seq
  have hFO : ∀ q, so.ownBlock = some q → F q := fun q hq => (hF q).2 (by rw [hO.tag q hq]; simp)
  have hFN : ∀ j ∈ t.ids, F (E.ad j) := fun j hj => (hF _).2 (by rw [(h1.nodes j hj).tag]; simp)
  obtain ⟨a, c, rfl, hc, hcell⟩ := hO.at
  have hcell : ∀ i (hi : i < t.sz), ∃ g, a = some ⟨g, 0, none⟩ ∧ W1.cell? ⟨g, 0 + i, none⟩ = some (pv E (t.ids[i]'(by rw [Fo.ids_len]; exact hi))) := fun i hi => hcell i _
  rw [Fo.ids_len] at hS hc hFO
  have hd : Does Try.prog 51 #[.func (.yield l) #[] #[], .pointer (some ⟨B, 0, none⟩)] W1 fun v A' => (J t.sz A' ∨ ∃ k, 0 < k ∧ k ≤ t.sz ∧ Jx k A') := by
    refine Does_of (args := [.func (.yield l) #[] #[], .pointer (some ⟨B, 0, none⟩)]) Try.func51 (by kernel_rfl) rfl rfl rfl rfl rfl ?_
    (refine Ga ?_)
    refine W_loop (α := Nat) (fun i => [(0, .func (.yield l) #[] #[]), (8, .slice a t.sz c), (9, .int .i64 (t.sz : Int)), (10, .int .i64 (i : Int))]) (fun i A => i ≤ t.sz ∧ J i A ∧ KeepX (fun g => F g ∨ g = B) W1 A) (fun i _ => t.sz - i) 0 ⟨Nat.zero_le _, h0, KeepX.refl _ _⟩ ⟨rfl, rfl, rfl, rfl, trivial⟩ ?_
    rintro K i A ⟨hi, hj, hk⟩
    by_cases hil : i < t.sz
    · have hil' : i < t.ids.length := by rw [Fo.ids_len]; exact hil
      obtain ⟨g, rfl, hci⟩ := hcell i hil
      have hin := List.getElem_mem hil'
      obtain ⟨_, sl, sr', hn, _, _⟩ := h1.nodes _ hin
      have hci := hk.cell (.inl (hFO g rfl)) hci
      have hn := hk.blk (.inl (hFN _ hin)) hn
      have hρ : (ρ t.ids[i]).u = t.flat.getD i default := by
        have := fits_ord hft i hil
        rwa [List.getD_eq_getElem?_getD, List.getElem?_eq_getElem hil'] at this
      have hy := hY i A hil hj
      dsimp only at hy
      unfold encT at hy
      rw [← hρ] at hy
      unfold ucs at hy
      unfold ncs pv at *
      generalize t.ids[i] = j at *
      (refine Ga ?_)
      apply Lst_yield
      focus rfl
      focus rfl
      obtain ⟨fn, tmps, assign, body, y1, y2⟩ := hy
      refine ⟨fn, tmps, assign, body, y1, y2.mono ?_⟩
      rintro e A' (⟨rfl, hj', hkp⟩ | ⟨rfl, hjx⟩)
      · refine ⟨_, rfl, ?_⟩
        (refine Ga ?_)
        refine rndQ_n (α := Nat) (i + 1) ⟨hil, hj', hk.trans hkp⟩ ⟨rfl, rfl, rfl, ?_, trivial⟩ (by omega)
        exact congrArg (Value.int .i64) (by omega)
      · refine ⟨_, rfl, ?_⟩
        (refine Ga ?_)
        exact retQ0 (.inr ⟨i + 1, by omega, hil, hjx⟩)
    · obtain rfl : i = t.sz := by omega
      (refine Ga ?_)
      exact retQ0n (.inl hj)
  unfold Does at hd
  refine hd.2.mono ?_
  rintro e A ⟨v, rfl, h⟩
  exact ⟨⟨v, rfl⟩, h⟩
/-- A row of ids of one's own. -/
def OwnI (B : Nat) (w : World) (v : Value) (ks : List Id) : Prop := w.ownsRow B 32 2 v ks.length (ks.map idcs).flatten
theorem OwnI.nil (B : Nat) (w : World) : OwnI B w (.slice none 0 0) [] := ⟨rfl, .inl ⟨rfl, rfl⟩⟩
theorem OwnI.rows {B : Nat} {w : World} {v : Value} {us : List Id} (h : OwnI B w v us) : SRows w 2 v (us.map idcs) := by
  have h' : w.ownsRow B 32 2 v (us.map idcs).length (us.map idcs).flatten := by rw [List.length_map]; exact h
  exact SRows.of_own h' (fun l hl => by obtain ⟨u, _, rfl⟩ := List.mem_map.1 hl; rfl) (by decide)
theorem below_calm {B : Nat} {w0 A A' : World} (h : Below w0.heap.size w0 A) (hc : Sx.Calm B A A') (hs : w0.heap.size ≤ B) : Below w0.heap.size w0 A' :=
  ⟨hc.os.trans h.os, hc.tape.trans h.tape, hc.output.trans h.output, Nat.le_trans h.size hc.size, fun k hk => by
    have hl : k < A.heap.size := Nat.lt_of_lt_of_le hk h.size
    rw [← h.block k hk]
    exact (hc.same k _ (Array.getElem?_eq_getElem hl) (.inl (Nat.lt_of_lt_of_le hk hs))).trans (Array.getElem?_eq_getElem hl).symm⟩
/-- What the range has gathered. -/
structure Gat (b : Nat) (w0 Z : World) (ks : List Id) (k : Nat) (A : World) : Prop where
  ex : ∃ v, Blk A b [v] 43 ∧ OwnI Z.heap.size A v (ks.take k)
  bel : Below w0.heap.size w0 A
  size : Z.heap.size ≤ A.heap.size
theorem Gat.calm {b : Nat} {w0 Z A A' : World} {ks : List Id} {k : Nat} (h : Gat b w0 Z ks k A) (hc : Sx.Calm Z.heap.size A A') (hs : w0.heap.size ≤ Z.heap.size) : Gat b w0 Z ks k A' := by
  obtain ⟨⟨v, h1, h2⟩, h3, h4⟩ := h
  exact ⟨⟨v, hc.blk h1, own_calm h2 hc⟩, below_calm h3 hc hs, Nat.le_trans h4 hc.size⟩
theorem idcs_one (u : Id) : ∀ v ∈ idcs u, v.oneCell' = true := fun v hv => by
  unfold idcs at hv
  simp only [List.mem_cons, List.not_mem_nil, or_false] at hv
  rcases hv with rfl | rfl <;> rfl
set_option maxHeartbeats 2000000 in
theorem c_all (h : SqAt w p F t) (hlen : t.sz ≤ 1000000000) : Does Try.prog 21 #[.pointer (some ⟨p, 0, none⟩)] w fun v w' => OwnI w.heap.size w' v t.ids ∧ Below w.heap.size w w' := by
  refine Does_of_marks (args := [.pointer (some ⟨p, 0, none⟩)]) Try.func21 (by kernel_rfl) rfl rfl rfl rfl rfl ?_
  have hb1 : Below w.heap.size w (w.alloc (.cells [.slice none 0 0].toArray 43)) := Bel
  have k1 : Blk (w.alloc (.cells [.slice none 0 0].toArray 43)) w.heap.size [.slice none 0 0] 43 := (by (repeat (first | assumption | (apply Blk.below (hb := hb1); rotate_left; (focus ((try simp only [Sx.sizes]); omega)); rotate_right) | (apply Blk.below (hb := hb2); rotate_left; (focus ((try simp only [Sx.sizes]); omega)); rotate_right) | (apply Blk.below (hb := hb3); rotate_left; (focus ((try simp only [Sx.sizes]); omega)); rotate_right) | (apply Blk.below (hb := hb4); rotate_left; (focus ((try simp only [Sx.sizes]); omega)); rotate_right) | (apply Blk.below (hb := hb5); rotate_left; (focus ((try simp only [Sx.sizes]); omega)); rotate_right) | (apply Blk.below (hb := hb6); rotate_left; (focus ((try simp only [Sx.sizes]); omega)); rotate_right) | (apply Blk.below (hb := hb7); rotate_left; (focus ((try simp only [Sx.sizes]); omega)); rotate_right) | (apply Blk.below (hb := hb8); rotate_left; (focus ((try simp only [Sx.sizes]); omega)); rotate_right) | (apply Blk.below (hb := hb9); rotate_left; (focus ((try simp only [Sx.sizes]); omega)); rotate_right) | exact Blk.newE (by first | rfl | ((try simp only [Sx.sizes]); first | done | omega)) _ _ | exact Blk.put_same (by (try simp only [Sx.sizes]); first | done | omega) _ _ | (apply Blk.put_ne; (focus omega)) | apply Blk.alloc | apply Blk.drew)); done)
  (refine Ga ?_)
  generalize w.alloc (.cells [.slice none 0 0].toArray 43) = w1 at *
  have l1 := k1.lt
  (apply Lst_call; (focus rfl); (focus rfl))
  refine (c_All p w1 _ rfl).mono ?_
  rintro v Z ⟨rfl, rfl⟩
  have hbZ : Below w1.heap.size w1 (w1.alloc (.cells [.pointer (some ⟨p, 0, none⟩)].toArray 27)) := Bel
  have kB : Blk (w1.alloc (.cells [.pointer (some ⟨p, 0, none⟩)].toArray 27)) w1.heap.size [.pointer (some ⟨p, 0, none⟩)] 27 := (by (repeat (first | assumption | (apply Blk.below (hb := hb1); rotate_left; (focus ((try simp only [Sx.sizes]); omega)); rotate_right) | (apply Blk.below (hb := hb2); rotate_left; (focus ((try simp only [Sx.sizes]); omega)); rotate_right) | (apply Blk.below (hb := hb3); rotate_left; (focus ((try simp only [Sx.sizes]); omega)); rotate_right) | (apply Blk.below (hb := hb4); rotate_left; (focus ((try simp only [Sx.sizes]); omega)); rotate_right) | (apply Blk.below (hb := hb5); rotate_left; (focus ((try simp only [Sx.sizes]); omega)); rotate_right) | (apply Blk.below (hb := hb6); rotate_left; (focus ((try simp only [Sx.sizes]); omega)); rotate_right) | (apply Blk.below (hb := hb7); rotate_left; (focus ((try simp only [Sx.sizes]); omega)); rotate_right) | (apply Blk.below (hb := hb8); rotate_left; (focus ((try simp only [Sx.sizes]); omega)); rotate_right) | (apply Blk.below (hb := hb9); rotate_left; (focus ((try simp only [Sx.sizes]); omega)); rotate_right) | exact Blk.newE (by first | rfl | ((try simp only [Sx.sizes]); first | done | omega)) _ _ | exact Blk.put_same (by (try simp only [Sx.sizes]); first | done | omega) _ _ | (apply Blk.put_ne; (focus omega)) | apply Blk.alloc | apply Blk.drew)); done)
  have k2 := k1.below hbZ l1
  have hZ := (h.below hb1).below hbZ
  have b2 := hb1.trans (hbZ.mono hb1.size)
  have sZ : w1.heap.size < (w1.alloc (.cells [.pointer (some ⟨p, 0, none⟩)].toArray 27)).heap.size := kB.lt
  (refine Ga ?_)
  generalize w1.alloc (.cells [.pointer (some ⟨p, 0, none⟩)].toArray 27) = Z at *
  have hFb : ∀ q, (F q ∨ q = w1.heap.size) → q ≠ w.heap.size ∧ q < Z.heap.size := fun q hq => by
    rcases hq with hq | rfl
    · have := h.lt hq
      omega
    · omega
  refine W_rangeA t.sz (encT t) (KeepX (fun g => F g ∨ g = w1.heap.size)) rfl e_All rfl (fun _ => rfl) (g_AllS w1.heap.size kB hZ hlen) KeepX.trans (fun A l r r' hl h => KeepX.put A l r r' hl h)
    (Gat w.heap.size w Z t.ids) (fun _ _ _ => False) (fun _ A A' h hc => h.calm hc b2.size) (fun _ _ _ _ h _ => h) ⟨⟨_, k2, OwnI.nil _ _⟩, b2, Nat.le_refl _⟩
    (fun q x => [(3, .pointer (some ⟨w.heap.size, 0, none⟩)), (5, .pointer (some ⟨x, 0, none⟩))]) (fun q x A => Gat w.heap.size w Z t.ids q A ∧ Blk A x (ucs (t.flat.getD q default)) 34)
    (fun _ _ A A' h hc => ⟨h.1.calm hc b2.size, hc.blk h.2⟩) ?_ ?_ ?_ ?_
  · intro l q A hq hR
    unfold encT
    (refine Ga ?_)
    have hbA : Below A.heap.size A ((A.alloc (.cells [.int .u64 0, .int .u64 0, .int .u64 0, .int .u64 0, .int .u64 0, .int .u64 0].toArray 34)).putObj A.heap.size (.cells (ucs (t.flat.getD q default)).toArray 34)) := Bel
    have kN : Blk ((A.alloc (.cells [.int .u64 0, .int .u64 0, .int .u64 0, .int .u64 0, .int .u64 0, .int .u64 0].toArray 34)).putObj A.heap.size (.cells (ucs (t.flat.getD q default)).toArray 34)) A.heap.size (ucs (t.flat.getD q default)) 34 := (by (repeat (first | assumption | (apply Blk.below (hb := hb1); rotate_left; (focus ((try simp only [Sx.sizes]); omega)); rotate_right) | (apply Blk.below (hb := hb2); rotate_left; (focus ((try simp only [Sx.sizes]); omega)); rotate_right) | (apply Blk.below (hb := hb3); rotate_left; (focus ((try simp only [Sx.sizes]); omega)); rotate_right) | (apply Blk.below (hb := hb4); rotate_left; (focus ((try simp only [Sx.sizes]); omega)); rotate_right) | (apply Blk.below (hb := hb5); rotate_left; (focus ((try simp only [Sx.sizes]); omega)); rotate_right) | (apply Blk.below (hb := hb6); rotate_left; (focus ((try simp only [Sx.sizes]); omega)); rotate_right) | (apply Blk.below (hb := hb7); rotate_left; (focus ((try simp only [Sx.sizes]); omega)); rotate_right) | (apply Blk.below (hb := hb8); rotate_left; (focus ((try simp only [Sx.sizes]); omega)); rotate_right) | (apply Blk.below (hb := hb9); rotate_left; (focus ((try simp only [Sx.sizes]); omega)); rotate_right) | exact Blk.newE (by first | rfl | ((try simp only [Sx.sizes]); first | done | omega)) _ _ | exact Blk.put_same (by (try simp only [Sx.sizes]); first | done | omega) _ _ | (apply Blk.put_ne; (focus omega)) | apply Blk.alloc | apply Blk.drew)); done)
    apply Lst_storeA (hb := Blk.newE rfl _ _) (vs := ucs (t.flat.getD q default)) (l' := ucs (t.flat.getD q default))
    focus rfl
    focus rfl
    focus rfl
    focus rfl
    focus exact ucs_one _
    focus (unfold ucs; repeat constructor)
    apply Lst_nil
    exact ⟨rfl, A.heap.size, ⟨rfl, rfl, trivial⟩, ⟨hR.calm (Sx.Below.calm hbA (Nat.le_refl _)) b2.size, kN⟩, KF.of hbA, KeepX.of hbA.size fun g hg _ => hbA.block g hg⟩
  · rintro l q x J A hq ⟨hR, kU⟩
    obtain ⟨⟨v, kv, ho⟩, hbw, hsz⟩ := hR
    obtain ⟨v1, v2, v3, rfl⟩ := own_slice ho
    have ltU := kU.lt
    have ltv := kv.lt
    have hid : (t.ids.take (q + 1)) = t.ids.take q ++ [(t.flat.getD q default).id] := by
      have h1 : q < t.ids.length := by rw [Fo.ids_len]; exact hq
      rw [List.take_succ_eq_append_getElem h1]
      have h2 : q < t.flat.length := hq
      rw [List.getD_eq_getElem?_getD, List.getElem?_eq_getElem h2]
      simp [Fo.ids]
    generalize t.flat.getD q default = u at *
    unfold ucs at kU
    have hlt : (t.ids.take q).length ≤ t.sz := by rw [List.length_take, Fo.ids_len]; omega
    (refine Ga ?_)
    apply Lst_push (hown := ho) (bytes := 16)
    ((focus constructor); (focus rfl); (focus rfl); (focus rfl); (focus rfl); (focus rfl); (focus rfl); (focus rfl); (focus rfl); (focus rfl); (focus rfl); (focus simp [Value.oneCell']); (focus rfl); (focus rfl); (focus rfl); (focus rfl); (focus omega); (focus omega); (focus omega))
    intro v4 A2 ho2 hg2 _
    have hne : ∀ g, g < Z.heap.size → some g ≠ (Value.slice v1 v2 v3).ownBlock := fun g hg e => by
      have := (ho.lt g e.symm).1
      omega
    have kv2 := Blk_grown kv hg2 (hne _ (by omega))
    have l2 := kv2.lt
    have ho3 : OwnI Z.heap.size A2 v4 (t.ids.take (q + 1)) := by
      unfold OwnI
      rw [hid, List.length_append, List.map_append, List.flatten_append]
      have e : ([u.id].map idcs).flatten = idcs u.id := by simp
      rw [e]
      exact ho2
    have hbw2 : Below w.heap.size w A2 := Below.own hbw ho hg2 (by omega) (by omega)
    have hk2 : KeepsFrom Z.heap.size A A2 := KF.grown ho hg2
    have hs2 := hg2.size
    obtain ⟨y1, y2, y3, rfl⟩ := own_slice ho3
    (refine Ga ?_)
    refine ⟨hk2.trans (KF.put kv2 _), KeepX.of (by rw [World.putObj_size]; exact hs2) fun g hg hx => ?_, ⟨_, Blk.put_same l2 _ _, own_kept ho3 fun g hgo => ?_⟩, Sx.Below.put hbw2 (Nat.le_refl _) _, by rw [World.putObj_size]; omega⟩
    · rw [World.putObj_heap_other (hFb g hx).1]
      exact hg2.block g hg (hne g (hFb g hx).2)
    · have := (ho3.lt g hgo).1
      exact World.putObj_heap_other (by omega)
  · intro d A hd hR hA
    obtain ⟨⟨v, kv, ho⟩, hbw, hsz⟩ := hR
    obtain ⟨v1, v2, v3, rfl⟩ := own_slice ho
    have ltv := kv.lt
    (refine Ga ?_)
    refine retM1 hA rfl ?_
    rw [List.take_of_length_le (by rw [Fo.ids_len]; omega)] at ho
    have hdo : ∀ g, (Value.slice v1 v2 v3).ownBlock = some g → g ≠ d := fun g hgo e => by
      subst e
      rcases ho.2 with ⟨e1, _⟩ | ⟨g', cap, cur, e1, _, hh, _⟩
      · rw [e1] at hgo
        cases hgo
      · rw [e1] at hgo
        cases hgo
        rw [hA] at hh
        cases hh
    exact ⟨own_lowA (own_kept ho fun g hgo => World.putObj_heap_other (hdo g hgo)) (by omega), Sx.Below.put hbw (by omega) _⟩
  · intro d c q A _ _ _ h
    exact h.elim
end Sq
end Go.Proofs.Ytmammcgdjjldbaa
