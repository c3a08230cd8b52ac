/- Program and reference hold the same tree: same tells so. -/
import Derived.Test.YtmammcgdjjldbaaSqPlR
import Derived.Test.YtmammcgdjjldbaaSqWalks
namespace Go.Proofs.Ytmammcgdjjldbaa
set_option maxRecDepth 100000
namespace Sq
open Go Go.RowKit Sx Tl
/-- What a going through needs to stay: the order, the nodes, its own variable. -/
def XE (E : Env) (B : Nat) (g : Nat) : Prop := E.tg g = .order ∨ (∃ k, E.tg g = .node k) ∨ g = B
variable {w : World} {p q : Nat} {F G : Nat → Prop} {t : Fo} {E : Env} {ρ : Id → Rec}
/-- What a comparison has done. -/
structure Sm (p q b c n : Nat) (F G : Nat → Prop) (t : Fo) (E : Env) (ρ : Id → Rec) (w0 Z : World) (A : World) : Prop where
  core : Core A E t.ids t.tips t.ids t.ids ρ
  ref : RefAt A q G t
  b2 : Blk A b [.pointer (some ⟨p, 0, none⟩)] 27
  b3 : Blk A (b + 1) [.pointer (some ⟨q, 0, none⟩)] 55
  b4 : Blk A (b + 2) [.bool false] 4
  b5 : Blk A c [.int .i64 (n : Int)] 3
  turn : Turn F F w0 A
  size : Z.heap.size ≤ A.heap.size
theorem Core.calm {A A' : World} {B : Nat} (h : Core A E t.ids t.tips t.ids t.ids ρ) (hc : Sx.Calm B A A') (hB : ∀ g, B ≤ g → E.tg g = .other) : Core A' E t.ids t.tips t.ids t.ids ρ := by
  refine h.kept (S := fun t => t = .other) ⟨hc.os, hc.tape, hc.output, hc.size, fun g hg hn => ?_⟩ fun _ h => h
  rcases Nat.lt_or_ge g B with h1 | h1
  · exact (hc.same g _ (Array.getElem?_eq_getElem hg) (.inl h1)).trans (Array.getElem?_eq_getElem hg).symm
  · exact absurd (hB g h1) hn
theorem Turn.calm {A A' : World} {B : Nat} (h : Turn F F w A) (hc : Sx.Calm B A A') (hB : w.heap.size ≤ B) : Turn F F w A' :=
  ⟨hc.os.trans h.os, hc.tape.trans h.tape, hc.output.trans h.output, Nat.le_trans h.size hc.size, fun _ _ => Iff.rfl, fun g hg hn => by
    have hl : g < A.heap.size := Nat.lt_of_lt_of_le hg h.size
    rw [← h.block g hg hn]
    exact (hc.same g _ (Array.getElem?_eq_getElem hl) (.inl (by omega))).trans (Array.getElem?_eq_getElem hl).symm⟩
theorem Sm.calm {b c n : Nat} {Z A A' : World} (h : Sm p q b c n F G t E ρ w Z A) (hcl : Sx.Calm Z.heap.size A A') (hE : ∀ g, Z.heap.size ≤ g → E.tg g = .other) (hG : ∀ g, G g → g < Z.heap.size) (hs : w.heap.size ≤ Z.heap.size) : Sm p q b c n F G t E ρ w Z A' :=
  ⟨h.core.calm hcl hE, h.ref.kept hcl.size fun g hg => by
    have hl := h.ref.lt hg
    exact (hcl.same g _ (Array.getElem?_eq_getElem hl) (.inl (hG g hg))).trans (Array.getElem?_eq_getElem hl).symm, hcl.blk h.b2, hcl.blk h.b3, hcl.blk h.b4, hcl.blk h.b5, h.turn.calm hcl hs, Nat.le_trans h.size hcl.size⟩
theorem Sm.find {b c n : Nat} {Z A A' : World} (h : Sm p q b c n F G t E ρ w Z A) (hco : Core A' E t.ids t.tips t.ids t.ids ρ) (hk : Kept E SF A A') (hF : ∀ g, F g ↔ E.tg g ≠ .other) (hFw : ∀ g, F g → g < w.heap.size) (hFG : ∀ g, F g → ¬ G g) (hb : w.heap.size ≤ b) (hcb : w.heap.size ≤ c) : Sm p q b c n F G t E ρ w Z A' := by
  have no : ∀ g, ¬ F g → ¬ SF (E.tg g) := fun g hg hS => hg ((hF g).2 (by rcases hS with h | h <;> rw [h] <;> simp))
  have nb : ∀ g, w.heap.size ≤ g → ¬ SF (E.tg g) := fun g hg => no g fun hf => by have := hFw g hf; omega
  exact ⟨hco, h.ref.kept hk.size fun g hg => hk.block g (h.ref.lt hg) (no g fun hf => hFG g hf hg), hk.blk h.b2 (nb _ hb), hk.blk h.b3 (nb _ (by omega)), hk.blk h.b4 (nb _ (by omega)), hk.blk h.b5 (nb _ hcb),
    h.turn.trans (.kept hF hk fun t ht => by rcases ht with rfl | rfl <;> simp), Nat.le_trans h.size hk.size⟩
theorem Sm.below {b c n : Nat} {Z A A' : World} (h : Sm p q b c n F G t E ρ w Z A) (hb : Below A.heap.size A A') : Sm p q b c n F G t E ρ w Z A' :=
  ⟨h.core.below hb, h.ref.below hb, h.b2.below hb h.b2.lt, h.b3.below hb h.b3.lt, h.b4.below hb h.b4.lt, h.b5.below hb h.b5.lt, h.turn.trans (.of hb), Nat.le_trans h.size hb.size⟩
theorem Sm.sq {b c n : Nat} {Z A : World} (h : Sm E.p q b c n F G t E ρ w Z A) (hF : ∀ g, F g ↔ E.tg g ≠ .other) (hE : ∀ g, Z.heap.size ≤ g → E.tg g = .other) (hft : Fo.Fits ρ none t) (hg : Fo.Good t) : SqAt A E.p F t :=
  ⟨E, ρ, rfl, hF, fun g hg => hE g (Nat.le_trans h.size hg), h.core, hft, hg⟩
theorem SqAt.putP {b : Nat} (h : SqAt w p F t) (hb : ¬ F b) (o : Obj) : SqAt (w.putObj b o) p F t :=
  h.kept rfl rfl rfl (by rw [World.putObj_size]; exact Nat.le_refl _) fun g hg => World.putObj_heap_other fun e => hb (e ▸ hg)
theorem retM_p {P : Program} {rs : List ResultVar} {R : Value → World → Prop} : ∀ c F ds w, ¬ retM P rs R (.panic c) F ds w := fun _ _ _ _ h => h
attribute [local irreducible] W Lst Qst Pu seqQ blkQ rndQ cutQ retQ Does Enters IntKind.wrap bits sb World.alloc World.putObj Blk
set_option maxHeartbeats 2000000 in
theorem g_AllE (B : Nat) (hB : Blk w B [.pointer (some ⟨E.p, 0, none⟩)] 27) (h0 : Core w E t.ids t.tips t.ids t.ids ρ) (hft : Fo.Fits ρ none t) (hlen : t.sz ≤ 1000000000) :
    Gives Try.prog 51 #[.pointer (some ⟨B, 0, none⟩)] t.sz (fun k => (encT t k).toArray) (KeepX (XE E B)) w := by
  intro l J Jx W1 hb1 hJ hJx hY hJ0
  have hB1 := hB.below hb1 hB.lt
  have h1 := h0.below hb1
  obtain ⟨so, sr, fresh, m, hS, hO, _, _, _⟩ := h1.seq
  have hFO : ∀ q, so.ownBlock = some q → XE E B q := fun q hq => .inl (hO.tag q hq)
  have hFN : ∀ j ∈ t.ids, XE E B (E.ad j) := fun j hj => .inr (.inl ⟨j, (h1.nodes j hj).tag⟩)
  obtain ⟨a, c, rfl, hc, hcell⟩ := hO.at
  have hcell : ∀ i (hi : i < t.sz), ∃ g, a = some ⟨g, 0, none⟩ ∧ W1.cell? ⟨g, 0 + i, none⟩ = some (pv E (t.ids[i]'(by rw [Fo.ids_len]; exact hi))) := fun i hi => hcell i _
  rw [Fo.ids_len] at hS hc hFO
  have hd : Does Try.prog 51 #[.func (.yield l) #[] #[], .pointer (some ⟨B, 0, none⟩)] W1 fun v A' => (J t.sz A' ∨ ∃ k, 0 < k ∧ k ≤ t.sz ∧ Jx k A') := by
    refine Does_of (args := [.func (.yield l) #[] #[], .pointer (some ⟨B, 0, none⟩)]) Try.func51 (by kernel_rfl) rfl rfl rfl rfl rfl ?_
    (refine Ga ?_)
    refine W_loop (α := Nat) (fun i => [(0, .func (.yield l) #[] #[]), (8, .slice a t.sz c), (9, .int .i64 (t.sz : Int)), (10, .int .i64 (i : Int))]) (fun i A => i ≤ t.sz ∧ J i A ∧ KeepX (XE E B) W1 A) (fun i _ => t.sz - i) 0 ⟨Nat.zero_le _, hJ0, KeepX.refl _ _⟩ ⟨rfl, rfl, rfl, rfl, trivial⟩ ?_
    rintro K i A ⟨hi, hj, hk⟩
    by_cases hil : i < t.sz
    · have hil' : i < t.ids.length := by rw [Fo.ids_len]; exact hil
      obtain ⟨g, rfl, hci⟩ := hcell i hil
      have hin := List.getElem_mem hil'
      obtain ⟨_, sl, sr', hn, _, _⟩ := h1.nodes _ hin
      have hci := hk.cell (hFO g rfl) hci
      have hn := hk.blk (hFN _ hin) hn
      have hρ : (ρ t.ids[i]).u = t.flat.getD i default := by
        have := fits_ord hft i hil
        rwa [List.getD_eq_getElem?_getD, List.getElem?_eq_getElem hil'] at this
      have hy := hY i A hil hj
      dsimp only at hy
      unfold encT at hy
      rw [← hρ] at hy
      unfold ucs at hy
      unfold ncs pv at *
      generalize t.ids[i] = j at *
      (refine Ga ?_)
      apply Lst_yield
      focus rfl
      focus rfl
      obtain ⟨fn, tmps, assign, body, y1, y2⟩ := hy
      refine ⟨fn, tmps, assign, body, y1, y2.mono ?_⟩
      rintro e A' (⟨rfl, hj', hkp⟩ | ⟨rfl, hjx⟩)
      · refine ⟨_, rfl, ?_⟩
        (refine Ga ?_)
        refine rndQ_n (α := Nat) (i + 1) ⟨hil, hj', hk.trans hkp⟩ ⟨rfl, rfl, rfl, ?_, trivial⟩ (by omega)
        exact congrArg (Value.int .i64) (by omega)
      · refine ⟨_, rfl, ?_⟩
        (refine Ga ?_)
        exact retQ0 (.inr ⟨i + 1, by omega, hil, hjx⟩)
    · obtain rfl : i = t.sz := by omega
      (refine Ga ?_)
      exact retQ0n (.inl hj)
  unfold Does at hd
  refine hd.2.mono ?_
  rintro e A ⟨v, rfl, h⟩
  exact ⟨⟨v, rfl⟩, h⟩
set_option maxHeartbeats 4000000 in
theorem c_same (hlen : t.sz ≤ 1000000000) (hs : SqAt w p F t) (hr : RefAt w q G t) (hd : ∀ g, F g → ¬ G g) : Does Try.prog 29 #[.pointer (some ⟨p, 0, none⟩), .pointer (some ⟨q, 0, none⟩)] w fun v w' => v = .bool true ∧ SqAt w' p F t ∧ Turn F F w w' := by
  refine Does_of_marks (args := [.pointer (some ⟨p, 0, none⟩), .pointer (some ⟨q, 0, none⟩)]) Try.func29 (by kernel_rfl) rfl rfl rfl rfl rfl ?_
  have hFw : ∀ g, F g → g < w.heap.size := fun g hg => hs.lt hg
  have hGw : ∀ g, G g → g < w.heap.size := fun g hg => hr.lt hg
  (refine Ga ?_)
  obtain ⟨w1, hw1⟩ : ∃ w1, ((w.alloc (.cells #[.pointer (some ⟨p, 0, none⟩)] 27)).alloc (.cells #[.pointer (some ⟨q, 0, none⟩)] 55)).alloc (.cells #[.bool false] 4) = w1 := ⟨_, rfl⟩
  have hb0 : Below w.heap.size w w1 := by rw [← hw1]; exact Bel
  have k2 : Blk w1 w.heap.size [.pointer (some ⟨p, 0, none⟩)] 27 := by rw [← hw1]; exact (by (repeat (first | assumption | (apply Blk.below (hb := hb1); rotate_left; (focus ((try simp only [Sx.sizes]); omega)); rotate_right) | (apply Blk.below (hb := hb2); rotate_left; (focus ((try simp only [Sx.sizes]); omega)); rotate_right) | (apply Blk.below (hb := hb3); rotate_left; (focus ((try simp only [Sx.sizes]); omega)); rotate_right) | (apply Blk.below (hb := hb4); rotate_left; (focus ((try simp only [Sx.sizes]); omega)); rotate_right) | (apply Blk.below (hb := hb5); rotate_left; (focus ((try simp only [Sx.sizes]); omega)); rotate_right) | (apply Blk.below (hb := hb6); rotate_left; (focus ((try simp only [Sx.sizes]); omega)); rotate_right) | (apply Blk.below (hb := hb7); rotate_left; (focus ((try simp only [Sx.sizes]); omega)); rotate_right) | (apply Blk.below (hb := hb8); rotate_left; (focus ((try simp only [Sx.sizes]); omega)); rotate_right) | (apply Blk.below (hb := hb9); rotate_left; (focus ((try simp only [Sx.sizes]); omega)); rotate_right) | exact Blk.newE (by first | rfl | ((try simp only [Sx.sizes]); first | done | omega)) _ _ | exact Blk.put_same (by (try simp only [Sx.sizes]); first | done | omega) _ _ | (apply Blk.put_ne; (focus omega)) | apply Blk.alloc | apply Blk.drew)); done)
  have k3 : Blk w1 (w.heap.size + 1) [.pointer (some ⟨q, 0, none⟩)] 55 := by rw [← hw1]; exact (by (repeat (first | assumption | (apply Blk.below (hb := hb1); rotate_left; (focus ((try simp only [Sx.sizes]); omega)); rotate_right) | (apply Blk.below (hb := hb2); rotate_left; (focus ((try simp only [Sx.sizes]); omega)); rotate_right) | (apply Blk.below (hb := hb3); rotate_left; (focus ((try simp only [Sx.sizes]); omega)); rotate_right) | (apply Blk.below (hb := hb4); rotate_left; (focus ((try simp only [Sx.sizes]); omega)); rotate_right) | (apply Blk.below (hb := hb5); rotate_left; (focus ((try simp only [Sx.sizes]); omega)); rotate_right) | (apply Blk.below (hb := hb6); rotate_left; (focus ((try simp only [Sx.sizes]); omega)); rotate_right) | (apply Blk.below (hb := hb7); rotate_left; (focus ((try simp only [Sx.sizes]); omega)); rotate_right) | (apply Blk.below (hb := hb8); rotate_left; (focus ((try simp only [Sx.sizes]); omega)); rotate_right) | (apply Blk.below (hb := hb9); rotate_left; (focus ((try simp only [Sx.sizes]); omega)); rotate_right) | exact Blk.newE (by first | rfl | ((try simp only [Sx.sizes]); first | done | omega)) _ _ | exact Blk.put_same (by (try simp only [Sx.sizes]); first | done | omega) _ _ | (apply Blk.put_ne; (focus omega)) | apply Blk.alloc | apply Blk.drew)); done)
  have k4 : Blk w1 (w.heap.size + 2) [.bool false] 4 := by rw [← hw1]; exact (by (repeat (first | assumption | (apply Blk.below (hb := hb1); rotate_left; (focus ((try simp only [Sx.sizes]); omega)); rotate_right) | (apply Blk.below (hb := hb2); rotate_left; (focus ((try simp only [Sx.sizes]); omega)); rotate_right) | (apply Blk.below (hb := hb3); rotate_left; (focus ((try simp only [Sx.sizes]); omega)); rotate_right) | (apply Blk.below (hb := hb4); rotate_left; (focus ((try simp only [Sx.sizes]); omega)); rotate_right) | (apply Blk.below (hb := hb5); rotate_left; (focus ((try simp only [Sx.sizes]); omega)); rotate_right) | (apply Blk.below (hb := hb6); rotate_left; (focus ((try simp only [Sx.sizes]); omega)); rotate_right) | (apply Blk.below (hb := hb7); rotate_left; (focus ((try simp only [Sx.sizes]); omega)); rotate_right) | (apply Blk.below (hb := hb8); rotate_left; (focus ((try simp only [Sx.sizes]); omega)); rotate_right) | (apply Blk.below (hb := hb9); rotate_left; (focus ((try simp only [Sx.sizes]); omega)); rotate_right) | exact Blk.newE (by first | rfl | ((try simp only [Sx.sizes]); first | done | omega)) _ _ | exact Blk.put_same (by (try simp only [Sx.sizes]); first | done | omega) _ _ | (apply Blk.put_ne; (focus omega)) | apply Blk.alloc | apply Blk.drew)); done)
  rw [hw1, show w.heap.size + 1 + 1 = w.heap.size + 2 from rfl]
  have s1 : w1.heap.size = w.heap.size + 3 := by rw [← hw1]; simp
  clear hw1
  have hs1 := hs.below hb0
  have hr1 := hr.below hb0
  have l2 := k2.lt
  have l3 := k3.lt
  have l4 := k4.lt
  refine W_draw 4 (Grown w1) rfl (by kernel_rfl) (grown_start w1) ?_
  (refine Qb ?_)
  apply Qst_call (.int .i64 (t.sz : Int))
  focus rfl
  focus rfl
  focus exact fun A9 hb9 => (s_Len (hs1.below hb9)).mono fun v w' h => ⟨h.1, h.2 ▸ hb9⟩
  (refine Qb ?_)
  apply Qst_call (.int .i64 (t.sz : Int))
  focus rfl
  focus rfl
  focus exact fun A9 hb9 => (r_Len (hr1.below hb9)).mono fun v w' h => ⟨h.1, h.2 ▸ hb9⟩
  (refine Qb ?_)
  intro w2 hb2
  have k2 := k2.below hb2 l2
  have k3 := k3.below hb2 l3
  have k4 := k4.below hb2 l4
  have hs2 := hs1.below hb2
  have hr2 := hr1.below hb2
  have hb02 := hb0.trans (hb2.mono hb0.size)
  have z2 := hb2.size
  clear hb2 hb0 hs1 hr1
  obtain ⟨w3, hw3⟩ : ∃ w3, (w2.alloc (.cells #[.int .i64 0] 3)).putObj w2.heap.size (.cells #[.int .i64 0] 3) = w3 := ⟨_, rfl⟩
  have hb3 : Below w2.heap.size w2 w3 := by rw [← hw3]; exact Bel
  have k5 : Blk w3 w2.heap.size [.int .i64 0] 3 := by rw [← hw3]; exact (by (repeat (first | assumption | (apply Blk.below (hb := hb1); rotate_left; (focus ((try simp only [Sx.sizes]); omega)); rotate_right) | (apply Blk.below (hb := hb2); rotate_left; (focus ((try simp only [Sx.sizes]); omega)); rotate_right) | (apply Blk.below (hb := hb3); rotate_left; (focus ((try simp only [Sx.sizes]); omega)); rotate_right) | (apply Blk.below (hb := hb4); rotate_left; (focus ((try simp only [Sx.sizes]); omega)); rotate_right) | (apply Blk.below (hb := hb5); rotate_left; (focus ((try simp only [Sx.sizes]); omega)); rotate_right) | (apply Blk.below (hb := hb6); rotate_left; (focus ((try simp only [Sx.sizes]); omega)); rotate_right) | (apply Blk.below (hb := hb7); rotate_left; (focus ((try simp only [Sx.sizes]); omega)); rotate_right) | (apply Blk.below (hb := hb8); rotate_left; (focus ((try simp only [Sx.sizes]); omega)); rotate_right) | (apply Blk.below (hb := hb9); rotate_left; (focus ((try simp only [Sx.sizes]); omega)); rotate_right) | exact Blk.newE (by first | rfl | ((try simp only [Sx.sizes]); first | done | omega)) _ _ | exact Blk.put_same (by (try simp only [Sx.sizes]); first | done | omega) _ _ | (apply Blk.put_ne; (focus omega)) | apply Blk.alloc | apply Blk.drew)); done)
  have k2 := k2.below hb3 k2.lt
  have k3 := k3.below hb3 k3.lt
  have k4 := k4.below hb3 k4.lt
  have hs3 := hs2.below hb3
  have hr3 := hr2.below hb3
  have hb03 := hb02.trans (hb3.mono hb02.size)
  have hc0 : w.heap.size + 3 ≤ w2.heap.size := by omega
  (refine Ga ?_)
  rw [hw3]
  clear hw3 hs2 hr2 hb02 z2
  generalize w2.heap.size = c at *
  have l5 := k5.lt
  (apply Lst_call; (focus rfl); (focus rfl))
  refine (c_All p w3 _ rfl).mono ?_
  rintro v Z ⟨rfl, rfl⟩
  have hbZ : Below w3.heap.size w3 (w3.alloc (.cells [.pointer (some ⟨p, 0, none⟩)].toArray 27)) := Bel
  have kB : Blk (w3.alloc (.cells [.pointer (some ⟨p, 0, none⟩)].toArray 27)) w3.heap.size [.pointer (some ⟨p, 0, none⟩)] 27 := (by (repeat (first | assumption | (apply Blk.below (hb := hb1); rotate_left; (focus ((try simp only [Sx.sizes]); omega)); rotate_right) | (apply Blk.below (hb := hb2); rotate_left; (focus ((try simp only [Sx.sizes]); omega)); rotate_right) | (apply Blk.below (hb := hb3); rotate_left; (focus ((try simp only [Sx.sizes]); omega)); rotate_right) | (apply Blk.below (hb := hb4); rotate_left; (focus ((try simp only [Sx.sizes]); omega)); rotate_right) | (apply Blk.below (hb := hb5); rotate_left; (focus ((try simp only [Sx.sizes]); omega)); rotate_right) | (apply Blk.below (hb := hb6); rotate_left; (focus ((try simp only [Sx.sizes]); omega)); rotate_right) | (apply Blk.below (hb := hb7); rotate_left; (focus ((try simp only [Sx.sizes]); omega)); rotate_right) | (apply Blk.below (hb := hb8); rotate_left; (focus ((try simp only [Sx.sizes]); omega)); rotate_right) | (apply Blk.below (hb := hb9); rotate_left; (focus ((try simp only [Sx.sizes]); omega)); rotate_right) | exact Blk.newE (by first | rfl | ((try simp only [Sx.sizes]); first | done | omega)) _ _ | exact Blk.put_same (by (try simp only [Sx.sizes]); first | done | omega) _ _ | (apply Blk.put_ne; (focus omega)) | apply Blk.alloc | apply Blk.drew)); done)
  have k2 := k2.below hbZ k2.lt
  have k3 := k3.below hbZ k3.lt
  have k4 := k4.below hbZ k4.lt
  have k5 := k5.below hbZ l5
  have hsZ := hs3.below hbZ
  have hrZ := hr3.below hbZ
  have hwZ := hb03.trans (hbZ.mono hb03.size)
  have sZ : w3.heap.size < (w3.alloc (.cells [.pointer (some ⟨p, 0, none⟩)].toArray 27)).heap.size := kB.lt
  have hsw := hwZ.size
  (refine Ga ?_)
  generalize w3.alloc (.cells [.pointer (some ⟨p, 0, none⟩)].toArray 27) = Z at *
  clear hs3 hr3 hb03 hbZ hb3
  obtain ⟨E, ρ, rfl, hF, hE, hZc, hft, hg⟩ := hsZ
  have hFE : ∀ g, w.heap.size ≤ g → E.tg g = .other := fun g hg => Classical.byContradiction fun hn => by have := hFw g ((hF g).2 hn); omega
  have hSm : Sm E.p q w.heap.size c 0 F G t E ρ w Z Z := ⟨hZc, hrZ, k2, k3, k4, k5, .of hwZ, Nat.le_refl _⟩
  have hGZ : ∀ g, G g → g < Z.heap.size := fun g hg => hrZ.lt hg
  have hXE : ∀ g, XE E w3.heap.size g → ¬ SF (E.tg g) ∧ g ≠ c := fun g hx => by
    rcases hx with h | ⟨k, h⟩ | rfl
    · exact ⟨by rw [h]; simp, fun e => by rw [e, hFE c (by omega)] at h; cases h⟩
    · exact ⟨by rw [h]; simp, fun e => by rw [e, hFE c (by omega)] at h; cases h⟩
    · exact ⟨by rw [hFE _ (by omega)]; simp, by omega⟩
  refine W_rangeA t.sz (encT t) (KeepX (XE E w3.heap.size)) rfl e_All rfl (fun _ => rfl) (g_AllE w3.heap.size kB hZc hft hlen) KeepX.trans (fun A l r r' hl h => KeepX.put A l r r' hl h)
    (fun k A => Sm E.p q w.heap.size c k F G t E ρ w Z A) (fun _ _ _ => False) (fun _ A A' h hc => h.calm hc hE hGZ hsw) (fun _ _ _ _ h _ => h) hSm
    (fun k x => [(2, .pointer (some ⟨w.heap.size, 0, none⟩)), (3, .pointer (some ⟨w.heap.size + 1, 0, none⟩)), (4, .pointer (some ⟨w.heap.size + 2, 0, none⟩)), (5, .pointer (some ⟨c, 0, none⟩)), (6, .int .i64 (k : Int)), (7, .pointer (some ⟨x, 0, none⟩))]) (fun k x A => Sm E.p q w.heap.size c k F G t E ρ w Z A ∧ Blk A x (ucs (t.flat.getD k default)) 34 ∧ w.heap.size ≤ x)
    (fun _ _ A A' h hc => ⟨h.1.calm hc hE hGZ hsw, hc.blk h.2.1, h.2.2⟩) ?_ ?_ ?_ ?_
  · intro l k A hk hR
    unfold encT
    (refine Ga ?_)
    have hbA : Below A.heap.size A ((A.alloc (.cells [.int .u64 0, .int .u64 0, .int .u64 0, .int .u64 0, .int .u64 0, .int .u64 0].toArray 34)).putObj A.heap.size (.cells (ucs (t.flat.getD k default)).toArray 34)) := Bel
    have kN : Blk ((A.alloc (.cells [.int .u64 0, .int .u64 0, .int .u64 0, .int .u64 0, .int .u64 0, .int .u64 0].toArray 34)).putObj A.heap.size (.cells (ucs (t.flat.getD k default)).toArray 34)) A.heap.size (ucs (t.flat.getD k default)) 34 := (by (repeat (first | assumption | (apply Blk.below (hb := hb1); rotate_left; (focus ((try simp only [Sx.sizes]); omega)); rotate_right) | (apply Blk.below (hb := hb2); rotate_left; (focus ((try simp only [Sx.sizes]); omega)); rotate_right) | (apply Blk.below (hb := hb3); rotate_left; (focus ((try simp only [Sx.sizes]); omega)); rotate_right) | (apply Blk.below (hb := hb4); rotate_left; (focus ((try simp only [Sx.sizes]); omega)); rotate_right) | (apply Blk.below (hb := hb5); rotate_left; (focus ((try simp only [Sx.sizes]); omega)); rotate_right) | (apply Blk.below (hb := hb6); rotate_left; (focus ((try simp only [Sx.sizes]); omega)); rotate_right) | (apply Blk.below (hb := hb7); rotate_left; (focus ((try simp only [Sx.sizes]); omega)); rotate_right) | (apply Blk.below (hb := hb8); rotate_left; (focus ((try simp only [Sx.sizes]); omega)); rotate_right) | (apply Blk.below (hb := hb9); rotate_left; (focus ((try simp only [Sx.sizes]); omega)); rotate_right) | exact Blk.newE (by first | rfl | ((try simp only [Sx.sizes]); first | done | omega)) _ _ | exact Blk.put_same (by (try simp only [Sx.sizes]); first | done | omega) _ _ | (apply Blk.put_ne; (focus omega)) | apply Blk.alloc | apply Blk.drew)); done)
    apply Lst_storeA (hb := Blk.newE rfl _ _) (vs := ucs (t.flat.getD k default)) (l' := ucs (t.flat.getD k default))
    focus rfl
    focus rfl
    focus rfl
    focus rfl
    focus exact ucs_one _
    focus (unfold ucs; repeat constructor)
    apply Lst_nil
    exact ⟨rfl, A.heap.size, ⟨rfl, rfl, rfl, rfl, rfl, rfl, trivial⟩, ⟨hR.below hbA, kN, hR.turn.size⟩, KF.of hbA, KeepX.of hbA.size fun g hg _ => hbA.block g hg⟩
  · rintro l k x J A hk ⟨hR, kU, hx⟩
    have l2 := hR.b2.lt
    have l3 := hR.b3.lt
    have l4 := hR.b4.lt
    have l5 := hR.b5.lt
    have lU := kU.lt
    have h2 := hR.b2
    have h3 := hR.b3
    (refine Ga ?_)
    (apply Lst_call; (focus rfl); (focus rfl))
    refine (r_At (k : Int) hR.ref).mono ?_
    rintro v A1 ⟨rfl, hb1⟩
    rw [if_pos (show 0 ≤ (k : Int) ∧ (k : Int) < t.sz by omega), Int.toNat_natCast]
    have hR1 := hR.below hb1
    have kU1 := kU.below hb1 lU
    obtain ⟨hpk, hik⟩ := Fo.pos_get hg.nd hk
    generalize t.flat.getD k default = u at *
    unfold ucs at kU1 ⊢
    obtain ⟨A2, hA2⟩ : ∃ A2, (A1.alloc (.cells #[.int .u64 0, .int .u64 0, .int .u64 0, .int .u64 0, .int .u64 0, .int .u64 0] 34)).putObj A1.heap.size (.cells #[.int .u64 (u.id.1 : Int), .int .u64 (u.id.2 : Int), .int .u64 (u.l.1 : Int), .int .u64 (u.l.2 : Int), .int .u64 (u.r.1 : Int), .int .u64 (u.r.2 : Int)] 34) = A2 := ⟨_, rfl⟩
    have hb2 : Below A1.heap.size A1 A2 := by rw [← hA2]; exact Bel
    have kV : Blk A2 A1.heap.size [.int .u64 (u.id.1 : Int), .int .u64 (u.id.2 : Int), .int .u64 (u.l.1 : Int), .int .u64 (u.l.2 : Int), .int .u64 (u.r.1 : Int), .int .u64 (u.r.2 : Int)] 34 := by rw [← hA2]; exact (by (repeat (first | assumption | (apply Blk.below (hb := hb1); rotate_left; (focus ((try simp only [Sx.sizes]); omega)); rotate_right) | (apply Blk.below (hb := hb2); rotate_left; (focus ((try simp only [Sx.sizes]); omega)); rotate_right) | (apply Blk.below (hb := hb3); rotate_left; (focus ((try simp only [Sx.sizes]); omega)); rotate_right) | (apply Blk.below (hb := hb4); rotate_left; (focus ((try simp only [Sx.sizes]); omega)); rotate_right) | (apply Blk.below (hb := hb5); rotate_left; (focus ((try simp only [Sx.sizes]); omega)); rotate_right) | (apply Blk.below (hb := hb6); rotate_left; (focus ((try simp only [Sx.sizes]); omega)); rotate_right) | (apply Blk.below (hb := hb7); rotate_left; (focus ((try simp only [Sx.sizes]); omega)); rotate_right) | (apply Blk.below (hb := hb8); rotate_left; (focus ((try simp only [Sx.sizes]); omega)); rotate_right) | (apply Blk.below (hb := hb9); rotate_left; (focus ((try simp only [Sx.sizes]); omega)); rotate_right) | exact Blk.newE (by first | rfl | ((try simp only [Sx.sizes]); first | done | omega)) _ _ | exact Blk.put_same (by (try simp only [Sx.sizes]); first | done | omega) _ _ | (apply Blk.put_ne; (focus omega)) | apply Blk.alloc | apply Blk.drew)); done)
    have kU2 := kU1.below hb2 kU1.lt
    have hR2 := hR1.below hb2
    have hbA2 := hb1.trans (hb2.mono hb1.size)
    (refine Ga ?_)
    rw [hA2]
    clear hA2
    have h5 := hR2.b5
    have h52 := hR2.b2
    have l52 := h52.lt
    have l55 := h5.lt
    have lU2 := kU2.lt
    have lV := kV.lt
    (refine Ga ?_)
    (apply Lst_call; (focus rfl); (focus rfl))
    refine (c_Find u.id (fun _ => Iff.rfl) (fun j hj => ⟨hj, fits_u hft j hj⟩) hg.nd (by rw [Fo.ids_len]; exact hlen) hR2.core).mono ?_
    rintro v A3 ⟨rfl, hC3, hk3⟩
    rw [findV_pos hik, hpk]
    have hR3 := hR2.find hC3 hk3 hF hFw hd (Nat.le_refl _) (by omega)
    have h5 := hR3.b5
    have l5 := h5.lt
    have hsz3 := hR3.size
    have hKX : KeepX (XE E w3.heap.size) A A3 := (KeepX.of hbA2.size fun g hg _ => hbA2.block g hg).trans (KeepX.of hk3.size fun g hg hx => hk3.block g hg (hXE g hx).1)
    have hKF : KeepsFrom Z.heap.size A A3 := (KF.of hbA2).trans ⟨hk3.size, fun g o hg ho _ => (hk3.block g (lt_of_some ho) (by rw [hE g hg]; simp)).trans ho⟩
    have key : KeepsFrom Z.heap.size A (A3.putObj c (.cells [.int .i64 ((k : Int) + 1)].toArray 3)) ∧ KeepX (XE E w3.heap.size) A (A3.putObj c (.cells [.int .i64 ((k : Int) + 1)].toArray 3)) ∧ Sm E.p q w.heap.size c (k + 1) F G t E ρ w Z (A3.putObj c (.cells [.int .i64 ((k : Int) + 1)].toArray 3)) := by
      have hcF : ¬ F c := fun hf => by have := hFw c hf; omega
      have hcG : ¬ G c := fun hf => by have := hGw c hf; omega
      have ht := hFE c (by omega)
      refine ⟨hKF.trans (KF.put h5 _), hKX.trans (KeepX.of (by rw [World.putObj_size]; exact Nat.le_refl _) fun g hg hx => World.putObj_heap_other (hXE g hx).2), ⟨?_, hR3.ref.put hcG _, Blk.put_ne (by omega) hR3.b2, Blk.put_ne (by omega) hR3.b3, Blk.put_ne (by omega) hR3.b4, Blk.put_same l5 _ _, hR3.turn.putB (by omega) _, by rw [World.putObj_size]; exact hsz3⟩⟩
      exact hR3.core.kept (S := fun t => t = .other) (Kept.put c ht _) fun _ h => h
    (refine Ga ?_)
    exact key
  · intro d A hdd hR hA
    have ld := lt_of_some hA
    have h2 := hR.b2
    have h3 := hR.b3
    have h4 := hR.b4
    have h5 := hR.b5
    have l2 := h2.lt
    have l3 := h3.lt
    have l4 := h4.lt
    have l5 := h5.lt
    have hd4 : w.heap.size + 2 ≠ d := by omega
    have hSA := hR.sq hF hE hft hg
    (refine Ga ?_)
    (apply Lst_call; (focus rfl); (focus rfl))
    refine (s_At (t.sz : Int) hSA).mono ?_
    rintro v A1 ⟨rfl, hb1⟩
    rw [if_neg (show ¬ (0 ≤ (t.sz : Int) ∧ (t.sz : Int) < t.sz) by omega)]
    have hR1 := hR.below hb1
    rw [show (ucs ⟨(0, 0), (0, 0), (0, 0)⟩).toArray = #[.int .u64 0, .int .u64 0, .int .u64 0, .int .u64 0, .int .u64 0, .int .u64 0] from rfl]
    obtain ⟨A2, hA2⟩ : ∃ A2, (A1.alloc (.cells #[.int .u64 0, .int .u64 0, .int .u64 0, .int .u64 0, .int .u64 0, .int .u64 0] 34)).putObj A1.heap.size (.cells #[.int .u64 0, .int .u64 0, .int .u64 0, .int .u64 0, .int .u64 0, .int .u64 0] 34) = A2 := ⟨_, rfl⟩
    have hb2 : Below A1.heap.size A1 A2 := by rw [← hA2]; exact Bel
    have hR2 := hR1.below hb2
    (refine Ga ?_)
    rw [hA2]
    clear hA2
    have h22 := hR2.b2
    have l22 := h22.lt
    have hS2 := hR2.sq hF hE hft hg
    (refine Ga ?_)
    (apply Lst_call; (focus rfl); (focus rfl))
    refine (s_At (-1) hS2).mono ?_
    rintro v A3 ⟨rfl, hb3⟩
    rw [if_neg (show ¬ (0 ≤ (-1 : Int) ∧ (-1 : Int) < t.sz) by omega)]
    have hR3 := hR2.below hb3
    rw [show (ucs ⟨(0, 0), (0, 0), (0, 0)⟩).toArray = #[.int .u64 0, .int .u64 0, .int .u64 0, .int .u64 0, .int .u64 0, .int .u64 0] from rfl]
    obtain ⟨A4, hA4⟩ : ∃ A4, (A3.alloc (.cells #[.int .u64 0, .int .u64 0, .int .u64 0, .int .u64 0, .int .u64 0, .int .u64 0] 34)).putObj A3.heap.size (.cells #[.int .u64 0, .int .u64 0, .int .u64 0, .int .u64 0, .int .u64 0, .int .u64 0] 34) = A4 := ⟨_, rfl⟩
    have hb4 : Below A3.heap.size A3 A4 := by rw [← hA4]; exact Bel
    have hR4 := hR3.below hb4
    (refine Ga ?_)
    rw [hA4]
    clear hA4
    have hA4 := ((((hb1.trans (hb2.mono hb1.size)).trans (hb3.mono (hb1.trans (hb2.mono hb1.size)).size)).trans (hb4.mono ((hb1.trans (hb2.mono hb1.size)).trans (hb3.mono (hb1.trans (hb2.mono hb1.size)).size)).size)).block d ld).trans hA
    have h22 := hR4.b2
    have h23 := hR4.b3
    have h24 := hR4.b4
    have h25 := hR4.b5
    have l22 := h22.lt
    have l23 := h23.lt
    have l24 := h24.lt
    have l25 := h25.lt
    (refine Ga ?_)
    refine W_drawT 13 (fun A' => Grown A4 A') rfl rfl ?_
    refine T_takeV 0 3 12 rfl (by kernel_rfl) (by repeat (first | exact retM_p | apply seqQ_p | apply blkQ_p | apply rndQ_p | apply cutQ_p)) (grown_start A4) ?_
    (refine Qb ?_)
    refine T_takeV 1 2 11 rfl (by kernel_rfl) (by repeat (first | exact retM_p | apply seqQ_p | apply blkQ_p | apply rndQ_p | apply cutQ_p)) (grown_start A4) ?_
    (refine Qb ?_)
    refine T_any [2] 10 rfl (by kernel_rfl) (all1 ?_)
    (apply Lst_call; (focus rfl); (focus rfl))
    refine (r_Len (hR4.ref.below (grown_start A4))).mono ?_
    rintro v A' ⟨rfl, rfl⟩
    apply Lst_nil
    apply rnQ_n
    refine ⟨(grown_start A4), ?_⟩
    refine T_takeV 3 4 9 rfl (by kernel_rfl) (by repeat (first | exact retM_p | apply seqQ_p | apply blkQ_p | apply rndQ_p | apply cutQ_p)) (grown_start A4) ?_
    (refine Qb ?_)
    refine T_takeV 4 7 8 rfl (by kernel_rfl) (by repeat (first | exact retM_p | apply seqQ_p | apply blkQ_p | apply rndQ_p | apply cutQ_p)) (grown_start A4) ?_
    (refine Qb ?_)
    refine T_takeV 5 6 7 rfl (by kernel_rfl) (by repeat (first | exact retM_p | apply seqQ_p | apply blkQ_p | apply rndQ_p | apply cutQ_p)) (grown_start A4) ?_
    (refine Qb ?_)
    refine T_takeV 6 7 6 rfl (by kernel_rfl) (by repeat (first | exact retM_p | apply seqQ_p | apply blkQ_p | apply rndQ_p | apply cutQ_p)) (grown_start A4) ?_
    (refine Qb ?_)
    refine T_takeV 7 8 5 rfl (by kernel_rfl) (by repeat (first | exact retM_p | apply seqQ_p | apply blkQ_p | apply rndQ_p | apply cutQ_p)) (grown_start A4) ?_
    (refine Qb ?_)
    refine T_takeV 8 11 4 rfl (by kernel_rfl) (by repeat (first | exact retM_p | apply seqQ_p | apply blkQ_p | apply rndQ_p | apply cutQ_p)) (grown_start A4) ?_
    (refine Qb ?_)
    refine T_takeV 9 10 3 rfl (by kernel_rfl) (by repeat (first | exact retM_p | apply seqQ_p | apply blkQ_p | apply rndQ_p | apply cutQ_p)) (grown_start A4) ?_
    (refine Qb ?_)
    refine T_takeV 10 11 2 rfl (by kernel_rfl) (by repeat (first | exact retM_p | apply seqQ_p | apply blkQ_p | apply rndQ_p | apply cutQ_p)) (grown_start A4) ?_
    (refine Qb ?_)
    refine T_takeV 11 12 1 rfl (by kernel_rfl) (by repeat (first | exact retM_p | apply seqQ_p | apply blkQ_p | apply rndQ_p | apply cutQ_p)) (grown_start A4) ?_
    (refine Qb ?_)
    refine T_last 12 (by kernel_rfl) ?_
    (refine Ga ?_)
    (apply retM1c; (focus (first | assumption | exact (World.putObj_heap_other (by omega)).trans (by assumption))); (focus rfl); (focus rfl); (focus rfl); (focus ((repeat (first | assumption | (apply Blk.below (hb := hb1); rotate_left; (focus ((try simp only [Sx.sizes]); omega)); rotate_right) | (apply Blk.below (hb := hb2); rotate_left; (focus ((try simp only [Sx.sizes]); omega)); rotate_right) | (apply Blk.below (hb := hb3); rotate_left; (focus ((try simp only [Sx.sizes]); omega)); rotate_right) | (apply Blk.below (hb := hb4); rotate_left; (focus ((try simp only [Sx.sizes]); omega)); rotate_right) | (apply Blk.below (hb := hb5); rotate_left; (focus ((try simp only [Sx.sizes]); omega)); rotate_right) | (apply Blk.below (hb := hb6); rotate_left; (focus ((try simp only [Sx.sizes]); omega)); rotate_right) | (apply Blk.below (hb := hb7); rotate_left; (focus ((try simp only [Sx.sizes]); omega)); rotate_right) | (apply Blk.below (hb := hb8); rotate_left; (focus ((try simp only [Sx.sizes]); omega)); rotate_right) | (apply Blk.below (hb := hb9); rotate_left; (focus ((try simp only [Sx.sizes]); omega)); rotate_right) | exact Blk.newE (by first | rfl | ((try simp only [Sx.sizes]); first | done | omega)) _ _ | exact Blk.put_same (by (try simp only [Sx.sizes]); first | done | omega) _ _ | (apply Blk.put_ne; (focus omega)) | apply Blk.alloc | apply Blk.drew)); done)))
    have hbF : ¬ F (w.heap.size + 2) := fun hf => by have := hFw _ hf; omega
    have hdF : ¬ F d := fun hf => by have := hFw _ hf; omega
    have hS4 := (hR4.sq hF hE hft hg).below (grown_start A4)
    have hT4 := hR4.turn.trans (.of (grown_start A4))
    refine ⟨rfl, SqAt.putP (SqAt.putP hS4 hbF _) hdF _, (hT4.putB (by omega) _).putB (by omega) _⟩
  · intro d c q A _ _ _ h
    exact h.elim
end Sq
end Go.Proofs.Ytmammcgdjjldbaa
