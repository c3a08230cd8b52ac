/- put. -/
import Derived.Test.YtmammcgdjjldbaaSqR
namespace Go.Proofs.Ytmammcgdjjldbaa
set_option maxRecDepth 100000
namespace Sq
open Go Go.RowKit Sx Tl
variable {E : Env} {ord rt N D : List Id} {ρ : Id → Rec} {w : World}
/-- More below these. -/
def bump (d : Nat) (l : List Id) (ρ : Id → Rec) : Id → Rec := fun j => { ρ j with n := (ρ j).n + if j ∈ l then d else 0 }
theorem bump_cons {d : Nat} {j : Id} {l : List Id} (h : j ∉ l) (ρ : Id → Rec) : bump d l (fset ρ j { ρ j with n := (ρ j).n + d }) = bump d (j :: l) ρ := funext fun i => by
  by_cases e : i = j
  · subst e
    unfold bump
    rw [fset_same, if_neg h, if_pos (List.mem_cons_self ..)]
    rfl
  · unfold bump
    rw [fset_ne e]
    have : i ∈ j :: l ↔ i ∈ l := by rw [List.mem_cons]; exact ⟨fun h => h.resolve_left e, .inr⟩
    simp only [this]
theorem bump_nil {d : Nat} (ρ : Id → Rec) : bump d [] ρ = ρ := rfl
/-- Which parent a unit has, and on which side. -/
structure Where where
  left : Bool
  par : Option Id
  k : Nat
def newRec (u : Un) : Rec := ⟨u, none, [], [], 1⟩
/-- The records with a new one at its place. -/
def laid (ρ : Id → Rec) (rt : List Id) (x : Id) (W : Where) : Id → Rec :=
  if W.left then match W.par with
    | none => ρ
    | some p => fset (fset ρ x { ρ x with par := some p }) p { ρ p with L := (ρ p).L.take W.k ++ x :: (ρ p).L.drop W.k }
  else recR (fset ρ x { ρ x with par := W.par }) W.par ((rowOf ρ rt W.par).take W.k ++ x :: (rowOf ρ rt W.par).drop W.k)
/-- Those above, the nearest first. -/
def ChainL (ρ : Id → Rec) (N : List Id) : List Id → Prop
  | [] => True
  | j :: l => j ∈ N ∧ (ρ j).par = l.head? ∧ ChainL ρ N l
theorem ChainL.chain {ρ : Id → Rec} {N : List Id} : ∀ {l : List Id} {k : Id}, ChainL ρ N l → (ρ k).par = l.head? → Chain ρ N k l
  | [], _, _, h => h
  | _ :: _, _, h, hk => ⟨hk, h.1, ChainL.chain h.2.2 h.2.1⟩
theorem ChainL.congr {ρ σ : Id → Rec} {N M : List Id} (hN : ∀ j ∈ N, j ∈ M ∧ (σ j).par = (ρ j).par) : ∀ {l : List Id}, ChainL ρ N l → ChainL σ M l
  | [], _ => trivial
  | j :: _, h => ⟨(hN j h.1).1, ((hN j h.1).2).trans h.2.1, ChainL.congr hN h.2.2⟩
theorem sumN_congr {ρ σ : Id → Rec} {l : List Id} (h : ∀ j ∈ l, (σ j).n = (ρ j).n) : sumN σ l = sumN ρ l := congrArg List.sum (List.map_congr_left h)
/-- A left child. -/
structure LeftOk (ρ : Id → Rec) (D : List Id) (u : Un) (rc : List Id) (k : Nat) : Prop where
  r : u.r ∈ D
  l : u.l ∈ D → u.l ∈ rc
  kl : k ≤ (ρ u.r).L.length
  k1 : ∀ i (hi : i < (ρ u.r).L.length), k ≤ i → Fo.lt u.id (ρ u.r).L[i] = true
  k2 : ∀ i (hi : i < (ρ u.r).L.length), i + 1 = k → Fo.lt u.id (ρ u.r).L[i] = false
def parOf (D : List Id) (u : Un) : Option Id := if u.l ∈ D then some u.l else none
/-- A right child. -/
structure RightOk (ρ : Id → Rec) (ord rt D : List Id) (u : Un) (rc : List Id) (k : Nat) : Prop where
  r : u.r ∈ D → u.l ∈ D ∧ u.l ∉ rc
  kl : k ≤ (rowOf ρ rt (parOf D u)).length
  k1 : ∀ i (hi : i < (rowOf ρ rt (parOf D u)).length), i < k → aheadV ord D (ρ (rowOf ρ rt (parOf D u))[i]).u u = true
  k2 : ∀ i (hi : i < (rowOf ρ rt (parOf D u)).length), i = k → aheadV ord D (ρ (rowOf ρ rt (parOf D u))[i]).u u = false
structure Sizes (rt N : List Id) (ρ : Id → Rec) : Prop where
  n : ∀ j ∈ N, (ρ j).n ≤ 1000000000 - 1
  L : ∀ j ∈ N, (ρ j).L.length ≤ 1000000000 - 1
  R : ∀ j ∈ N, (ρ j).R.length ≤ 1000000000 - 1
  rt : rt.length ≤ 1000000000 - 1
structure Selfs (N : List Id) (ρ : Id → Rec) : Prop where
  u : ∀ j ∈ N, (ρ j).u.id = j
  l : ∀ j ∈ N, ∀ i ∈ (ρ j).L, i ≠ j
theorem Kept.step {E0 E1 : Env} {S : Tag → Prop} {X A A' : World} (h : Kept E0 SA X A) (k : Kept E1 S A A') (ho : ∀ g, g < X.heap.size → E1.tg g = E0.tg g) (hs : ∀ t, S t → t ≠ .other) : Kept E0 SA X A' :=
  ⟨k.os.trans h.os, k.tape.trans h.tape, k.output.trans h.output, Nat.le_trans h.size k.size, fun g h1 h2 => (k.block g (Nat.lt_of_lt_of_le h1 h.size) fun h3 => h2 (by have := hs _ h3; rwa [ho g h1] at this)).trans (h.block g h1 h2)⟩
theorem Kept.base {E0 : Env} {X A : World} (hb : Below w.heap.size w X) (h : Kept E0 SA X A) (ho : ∀ g, g < w.heap.size → E0.tg g = E.tg g) : Kept E SA w A :=
  ⟨h.os.trans hb.os, h.tape.trans hb.tape, h.output.trans hb.output, Nat.le_trans hb.size h.size, fun g h1 h2 => (h.block g (Nat.lt_of_lt_of_le h1 hb.size) (by rw [ho g h1]; exact h2)).trans (hb.block g h1)⟩
theorem laid_x {rt : List Id} {x : Id} {V : Where} (h : V.left = true → ∃ p, V.par = some p) (hp : ∀ p, V.par = some p → p ≠ x) (_ : (ρ x).par = none) : (laid ρ rt x V x).par = V.par := by
  unfold laid recR
  cases e : V.par with
  | none =>
    split
    · rename_i hl
      obtain ⟨p, h⟩ := h hl
      rw [e] at h
      cases h
    · dsimp only
      rw [fset_same]
  | some p =>
    have := hp p e
    split
    · dsimp only
      rw [fset_ne (Ne.symm this), fset_same]
    · dsimp only
      rw [fset_ne (Ne.symm this), fset_same]
theorem laid_o {rt : List Id} {x j : Id} {V : Where} (hj : j ≠ x) (hp : ∀ p, V.par = some p → p ≠ x) : (laid ρ rt x V j).par = (ρ j).par ∧ (laid ρ rt x V j).n = (ρ j).n ∧ (laid ρ rt x V j).u = (ρ j).u := by
  unfold laid recR
  cases e : V.par with
  | none =>
    split
    · exact ⟨rfl, rfl, rfl⟩
    · dsimp only
      rw [fset_ne hj]
      exact ⟨rfl, rfl, rfl⟩
  | some p =>
    have h1 := hp p e
    by_cases hjp : j = p
    · subst hjp
      split
      · dsimp only
        rw [fset_same]
        exact ⟨rfl, rfl, rfl⟩
      · dsimp only
        rw [fset_same, fset_ne hj]
        exact ⟨rfl, rfl, rfl⟩
    · split
      · dsimp only
        rw [fset_ne hjp, fset_ne hj]
        exact ⟨rfl, rfl, rfl⟩
      · dsimp only
        rw [fset_ne hjp, fset_ne hj]
        exact ⟨rfl, rfl, rfl⟩
attribute [local irreducible] W Lst Qst Pu seqQ blkQ rndQ cutQ retQ Does Enters IntKind.wrap bits sb World.alloc World.putObj Blk
set_option maxHeartbeats 2000000 in
theorem c_put (u : Un) (rc c : List Id) (V : Where) (P : Nat) (hfar : ∀ g, w.heap.size ≤ g → E.tg g = .other) (hc : Clo ord rt N D ρ) (hsz : Sizes rt N ρ) (hse : Selfs N ρ) (hxN : u.id ∉ N) (hD : ∀ j, j ∈ ord ↔ j ∈ D) (hN : ∀ j ∈ ord, j ∈ N ∧ (ρ j).u.id = j) (hnd : ord.Nodup) (hlen : ord.length ≤ 1000000000 - 1) (h : Core w E ord rt N D ρ)
    (hrc : u.r ∈ D → ChainL ρ N rc ∧ (ρ u.r).par = rc.head?) (hW : if V.left then LeftOk ρ D u rc V.k ∧ V.par = some u.r else RightOk ρ ord rt D u rc V.k ∧ V.par = parOf D u)
    (hch : ChainL ρ N c ∧ V.par = c.head? ∧ c.Nodup) (hP : (P : Int) = if V.left then findV ord D u.r - (sumN ρ ((ρ u.r).L.drop V.k) : Int) else place0 ord D V.par + (sumN ρ ((rowOf ρ rt V.par).take V.k) : Int)) (hPl : P ≤ ord.length) :
    Does Try.prog 33 #[.pointer (some ⟨E.p, 0, none⟩), .agg (ucs u).toArray] w fun v w' => v = .tuple #[] ∧ ∃ E', E'.p = E.p ∧ (∀ g, g < w.heap.size → E'.tg g = E.tg g) ∧ (∀ g, w'.heap.size ≤ g → E'.tg g = .other) ∧ Kept E SA w w' ∧
      Core w' E' (ord.take P ++ u.id :: ord.drop P) (if V.left then rt else rtR rt V.par ((rowOf ρ rt V.par).take V.k ++ u.id :: (rowOf ρ rt V.par).drop V.k)) (u.id :: N) (u.id :: D) (bump 1 c (laid (fset ρ u.id (newRec u)) rt u.id V)) := by
  refine Does_of (args := [.pointer (some ⟨E.p, 0, none⟩), .agg (ucs u).toArray]) Try.func33 (by kernel_rfl) rfl rfl rfl rfl rfl ?_
  have hcu : ucs u = [.int .u64 (u.id.1 : Int), .int .u64 (u.id.2 : Int), .int .u64 (u.l.1 : Int), .int .u64 (u.l.2 : Int), .int .u64 (u.r.1 : Int), .int .u64 (u.r.2 : Int)] := rfl
  rw [hcu]
  (refine Ga ?_)
  obtain ⟨X, hXe⟩ : ∃ X, (w.alloc (.cells [.int .u64 (u.id.1 : Int), .int .u64 (u.id.2 : Int), .int .u64 (u.l.1 : Int), .int .u64 (u.l.2 : Int), .int .u64 (u.r.1 : Int), .int .u64 (u.r.2 : Int)].toArray 34)).alloc (.cells [.int .u64 (u.id.1 : Int), .int .u64 (u.id.2 : Int), .int .u64 (u.l.1 : Int), .int .u64 (u.l.2 : Int), .int .u64 (u.r.1 : Int), .int .u64 (u.r.2 : Int), .pointer none, .slice none 0 0, .slice none 0 0, .int .i64 1].toArray 78) = X := ⟨_, rfl⟩
  have hbX : Below w.heap.size w X := by rw [← hXe]; exact Bel
  have kU : Blk X w.heap.size (ucs u) 34 := by rw [← hXe, hcu]; exact (by (repeat (first | assumption | (apply Blk.below (hb := hb1); rotate_left; (focus ((try simp only [Sx.sizes]); omega)); rotate_right) | (apply Blk.below (hb := hb2); rotate_left; (focus ((try simp only [Sx.sizes]); omega)); rotate_right) | (apply Blk.below (hb := hb3); rotate_left; (focus ((try simp only [Sx.sizes]); omega)); rotate_right) | (apply Blk.below (hb := hb4); rotate_left; (focus ((try simp only [Sx.sizes]); omega)); rotate_right) | (apply Blk.below (hb := hb5); rotate_left; (focus ((try simp only [Sx.sizes]); omega)); rotate_right) | (apply Blk.below (hb := hb6); rotate_left; (focus ((try simp only [Sx.sizes]); omega)); rotate_right) | (apply Blk.below (hb := hb7); rotate_left; (focus ((try simp only [Sx.sizes]); omega)); rotate_right) | (apply Blk.below (hb := hb8); rotate_left; (focus ((try simp only [Sx.sizes]); omega)); rotate_right) | (apply Blk.below (hb := hb9); rotate_left; (focus ((try simp only [Sx.sizes]); omega)); rotate_right) | exact Blk.newE (by first | rfl | ((try simp only [Sx.sizes]); first | done | omega)) _ _ | exact Blk.put_same (by (try simp only [Sx.sizes]); first | done | omega) _ _ | (apply Blk.put_ne; (focus omega)) | apply Blk.alloc | apply Blk.drew)); done)
  have kX : Blk X (w.heap.size + 1) (ncs (E.node u.id (w.heap.size + 1)) (newRec u) (.slice none 0 0) (.slice none 0 0)) 78 := by
    show Blk X (w.heap.size + 1) [.int .u64 (u.id.1 : Int), .int .u64 (u.id.2 : Int), .int .u64 (u.l.1 : Int), .int .u64 (u.l.2 : Int), .int .u64 (u.r.1 : Int), .int .u64 (u.r.2 : Int), .pointer none, .slice none 0 0, .slice none 0 0, .int .i64 1] 78
    rw [← hXe]
    exact (by (repeat (first | assumption | (apply Blk.below (hb := hb1); rotate_left; (focus ((try simp only [Sx.sizes]); omega)); rotate_right) | (apply Blk.below (hb := hb2); rotate_left; (focus ((try simp only [Sx.sizes]); omega)); rotate_right) | (apply Blk.below (hb := hb3); rotate_left; (focus ((try simp only [Sx.sizes]); omega)); rotate_right) | (apply Blk.below (hb := hb4); rotate_left; (focus ((try simp only [Sx.sizes]); omega)); rotate_right) | (apply Blk.below (hb := hb5); rotate_left; (focus ((try simp only [Sx.sizes]); omega)); rotate_right) | (apply Blk.below (hb := hb6); rotate_left; (focus ((try simp only [Sx.sizes]); omega)); rotate_right) | (apply Blk.below (hb := hb7); rotate_left; (focus ((try simp only [Sx.sizes]); omega)); rotate_right) | (apply Blk.below (hb := hb8); rotate_left; (focus ((try simp only [Sx.sizes]); omega)); rotate_right) | (apply Blk.below (hb := hb9); rotate_left; (focus ((try simp only [Sx.sizes]); omega)); rotate_right) | exact Blk.newE (by first | rfl | ((try simp only [Sx.sizes]); first | done | omega)) _ _ | exact Blk.put_same (by (try simp only [Sx.sizes]); first | done | omega) _ _ | (apply Blk.put_ne; (focus omega)) | apply Blk.alloc | apply Blk.drew)); done)
  rw [hXe]
  clear hXe
  have hX := h.newNode (r := newRec u) hc hxN hbX (Nat.le_succ _) kX ⟨⟨rfl, .inl ⟨rfl, rfl⟩⟩, fun g hg => by cases hg⟩ ⟨⟨rfl, .inl ⟨rfl, rfl⟩⟩, fun g hg => by cases hg⟩
  have htU : (E.node u.id (w.heap.size + 1)).tg w.heap.size = .other := (if_neg (by omega)).trans (hfar _ (Nat.le_refl _))
  have hfX : ∀ g, X.heap.size ≤ g → (E.node u.id (w.heap.size + 1)).tg g = .other := fun g hg => (if_neg (by have := kX.lt; omega)).trans (hfar _ (Nat.le_trans hbX.size hg))
  have hoX : ∀ g, g < w.heap.size → (E.node u.id (w.heap.size + 1)).tg g = E.tg g := fun g hg => if_neg (by omega)
  have hax : (E.node u.id (w.heap.size + 1)).ad u.id = w.heap.size + 1 := if_pos rfl
  have hEp : (E.node u.id (w.heap.size + 1)).p = E.p := rfl
  generalize E.node u.id (w.heap.size + 1) = E0 at *
  have ltU := kU.lt
  have hlen' : ord.length ≤ 1000000000 := by omega
  have hρx : fset ρ u.id (newRec u) u.id = newRec u := fset_same _ _ _
  have hρo : ∀ j ∈ N, fset ρ u.id (newRec u) j = ρ j := fun j hj => fset_ne fun e => hxN (e ▸ hj)
  have hN1 : ∀ j ∈ ord, j ∈ u.id :: N ∧ (fset ρ u.id (newRec u) j).u.id = j := fun j hj => ⟨List.mem_cons_of_mem _ (hN j hj).1, by rw [hρo j (hN j hj).1]; exact (hN j hj).2⟩
  obtain ⟨so, sr, fresh, m, hS, hOo, hR, hM, hF⟩ := id hX.seq
  rw [hEp] at hS
  have ltP := hS.lt
  obtain ⟨lo, hlo⟩ : ∃ lo, (if u.l ∈ D then pv E0 u.l else .pointer none) = Value.pointer lo := by split <;> exact ⟨_, rfl⟩
  obtain ⟨ro, hro⟩ : ∃ ro, (if u.r ∈ D then pv E0 u.r else .pointer none) = Value.pointer ro := by split <;> exact ⟨_, rfl⟩
  have hroN : ro.isNone = decide (u.r ∉ D) := by
    by_cases e : u.r ∈ D
    · rw [if_pos e] at hro
      cases hro
      rw [decide_eq_false (fun h => h e)]
      rfl
    · rw [if_neg e] at hro
      cases hro
      rw [decide_eq_true e]
      rfl
  have hloN : lo.isNone = decide (u.l ∉ D) := by
    by_cases e : u.l ∈ D
    · rw [if_pos e] at hlo
      cases hlo
      rw [decide_eq_false (fun h => h e)]
      rfl
    · rw [if_neg e] at hlo
      cases hlo
      rw [decide_eq_true e]
      rfl
  refine W_draws (Grown _) rfl (by kernel_rfl) (grown_start _) ?_
  (refine Qb ?_)
  apply Qst_lookup
  focus rfl
  focus rfl
  focus exact fun A9 hA9 => ((hX.below hA9).lookAll u.l).trans (by rw [hlo])
  focus rfl
  (refine Qb ?_)
  apply Qst_lookup
  focus rfl
  focus rfl
  focus exact fun A9 hA9 => ((hX.below hA9).lookAll u.r).trans (by rw [hro])
  focus rfl
  (refine Qb ?_)
  intro w8 hb8
  have h8 := hX.below hb8
  have hK8 : Kept E0 SA X w8 := .of hb8
  have hs8 := hb8.size
  apply seqQ_n
  apply W_seq
  apply W_region
  apply Lst_pu
  · apply P_assign
    focus constructor
  focus rfl
  apply Lst_nil
  apply seqQ_n
  apply W_seq
  refine W_cutS (α := Env) (fun _ => [(0, .pointer (some ⟨E.p, 0, none⟩)), (3, .pointer (some ⟨w.heap.size, 0, none⟩)), (4, .pointer (some ⟨w.heap.size + 1, 0, none⟩)), (7, .int .i64 (P : Int))]) (fun E1 A => Ex E0 X E1 A ∧ Kept E0 SA X A ∧ Core A E1 ord (if V.left then rt else rtR rt V.par ((rowOf ρ rt V.par).take V.k ++ u.id :: (rowOf ρ rt V.par).drop V.k)) (u.id :: N) D (laid (fset ρ u.id (newRec u)) rt u.id V)) ?_ ?_
  · have hav : ∀ j ∈ N, j ≠ u.id := fun j hj e => hxN (e ▸ hj)
    have hin : ∀ j ∈ N, j ∈ u.id :: N := fun j hj => List.mem_cons_of_mem _ hj
    have hchu : u.r ∈ D → Chain (fset ρ u.id (newRec u)) (u.id :: N) u.r rc := fun hr =>
      (ChainL.congr (fun j hj => ⟨hin j hj, by rw [hρo j hj]⟩) (hrc hr).1).chain (by rw [hρo _ (hc.D _ hr)]; exact (hrc hr).2)
    have hund : u.r ∈ D → u.l ∈ D → Does Try.prog 47 #[.pointer (some ⟨E.p, 0, none⟩), pv E0 u.r, pv E0 u.l] w8 fun v w' => v = .bool (decide (u.l ∈ rc)) ∧ w8 = w' := fun hr hl => by
      have := c_under (E := E0) (N := u.id :: N) u.r u.l rc (hin _ (hc.D _ hr)) (hin _ (hc.D _ hl)) (hchu hr) h8
      rwa [hEp] at this
    cases hVl : V.left with
    | true =>
      rw [hVl, if_pos rfl] at hW hP
      obtain ⟨hL, hVp⟩ := hW
      have hr : u.r ∈ D := hL.r
      have hrN := hc.D _ hr
      rw [if_pos hr] at hro
      cases hro
      have e1 := hρo _ hrN
      have key : Does Try.prog 48 #[.pointer (some ⟨E.p, 0, none⟩), .pointer (some ⟨w.heap.size + 1, 0, none⟩), pv E0 u.r] w8 fun v w' => v = .int .i64 (P : Int) ∧
          ∃ E', Ex E0 w8 E' w' ∧ Kept E0 SA w8 w' ∧ Core w' E' ord rt (u.id :: N) D (laid (fset ρ u.id (newRec u)) rt u.id V) := by
        have := c_leftOf (E := E0) (N := u.id :: N) u.id u.r V.k (List.mem_cons_self ..) (hin _ hrN) (Ne.symm (hav _ hrN)) (by rw [hρx]; rfl) (by rw [e1]; exact hse.u _ hrN)
          (fun j hj => by rw [e1] at hj; have hjN := hc.L _ hrN j hj; exact ⟨hin _ hjN, by rw [hρo _ hjN]; exact hse.u _ hjN, hav _ hjN, hse.l _ hrN j hj⟩) (by rw [e1]; exact hsz.L _ hrN)
          (fun j hj => by rw [e1] at hj; have hjN := hc.L _ hrN j hj; rw [hρo _ hjN]; have := hsz.n _ hjN; omega) (by rw [e1]; exact hL.kl) (by rw [e1]; exact hL.k1) (by rw [e1]; exact hL.k2) hD hN1 hnd hlen' h8
        rw [hEp, pv, hax, e1] at this
        refine this.mono ?_
        rintro v w' ⟨rfl, E', h1, h2, h3⟩
        refine ⟨congrArg (Value.int .i64) ?_, E', h1, h2, ?_⟩
        · rw [hP, sumN_congr (fun j hj => by rw [hρo _ (hc.L _ hrN j (List.mem_of_mem_drop hj))])]
        · unfold laid
          rw [hVl, if_pos rfl, hVp]
          dsimp only
          rw [e1]
          exact h3
      have fin : ∀ w', (∃ E', Ex E0 w8 E' w' ∧ Kept E0 SA w8 w' ∧ Core w' E' ord rt (u.id :: N) D (laid (fset ρ u.id (newRec u)) rt u.id V)) → ∃ E', Ex E0 X E' w' ∧ Kept E0 SA X w' ∧ Core w' E' ord (if true then rt else rtR rt V.par ((rowOf ρ rt V.par).take V.k ++ u.id :: (rowOf ρ rt V.par).drop V.k)) (u.id :: N) D (laid (fset ρ u.id (newRec u)) rt u.id V) := fun w' ⟨E', h1, h2, h3⟩ =>
        ⟨E', (Ex.refl E0 X w8).trans h1 hs8 h2.size, hK8.trans h2, h3⟩
      by_cases hl : u.l ∈ D
      · rw [if_pos hl] at hlo
        cases hlo
        (refine Ga ?_)
        (apply Lst_call; (focus rfl); (focus rfl))
        refine (hund hr hl).mono ?_
        rintro v w' ⟨rfl, rfl⟩
        rw [decide_eq_true (hL.l hl)]
        (refine Ga ?_)
        (apply Lst_call; (focus rfl); (focus rfl))
        refine key.mono ?_
        rintro v w9 ⟨rfl, hE⟩
        (refine Ga ?_)
        obtain ⟨E', hE⟩ := fin _ hE
        exact cutQ_n E' hE ⟨rfl, rfl, rfl, rfl, trivial⟩
      · rw [if_neg hl] at hlo
        cases hlo
        (refine Ga ?_)
        (apply Lst_call; (focus rfl); (focus rfl))
        refine key.mono ?_
        rintro v w9 ⟨rfl, hE⟩
        (refine Ga ?_)
        obtain ⟨E', hE⟩ := fin _ hE
        exact cutQ_n E' hE ⟨rfl, rfl, rfl, rfl, trivial⟩
    | false =>
      rw [hVl, if_neg (by simp)] at hW hP
      obtain ⟨hL, hVp⟩ := hW
      have hlp : Value.pointer lo = parv E0 V.par := by
        rw [hVp, ← hlo]
        unfold parOf
        split <;> rfl
      have hparN : ∀ p, V.par = some p → p ∈ N := fun p e => by
        rw [hVp] at e
        unfold parOf at e
        split at e
        · rename_i hl
          cases e
          exact hc.D _ hl
        · cases e
      have hrow : rowOf (fset ρ u.id (newRec u)) rt V.par = rowOf ρ rt V.par := by
        cases e : V.par with
        | none => rfl
        | some p => exact congrArg Rec.R (hρo p (hparN p e))
      have hrowN : ∀ j ∈ rowOf ρ rt V.par, j ∈ N := fun j hj => by
        cases e : V.par with
        | none => rw [e] at hj; exact hc.rt j hj
        | some p => rw [e] at hj; exact hc.R p (hparN p e) j hj
      have hrowl : (rowOf ρ rt V.par).length ≤ 1000000000 - 1 := by
        cases e : V.par with
        | none => exact hsz.rt
        | some p => exact hsz.R p (hparN p e)
      obtain ⟨hLr, hLkl, hLk1, hLk2⟩ := hL
      rw [← hVp] at hLkl hLk1 hLk2
      have key : Does Try.prog 49 #[.pointer (some ⟨E.p, 0, none⟩), .pointer (some ⟨w.heap.size + 1, 0, none⟩), .pointer lo] w8 fun v w' => v = .int .i64 (P : Int) ∧
          ∃ E', Ex E0 w8 E' w' ∧ Kept E0 SA w8 w' ∧ Core w' E' ord (rtR rt V.par ((rowOf ρ rt V.par).take V.k ++ u.id :: (rowOf ρ rt V.par).drop V.k)) (u.id :: N) D (laid (fset ρ u.id (newRec u)) rt u.id V) := by
        have := c_rightOf (E := E0) (N := u.id :: N) u.id V.par V.k (List.mem_cons_self ..) (fun p e => by have := hparN p e; exact ⟨hin _ this, hav _ this, by rw [hρo _ this]; exact hse.u _ this⟩) (by rw [hρx]; rfl)
          (fun j hj => by rw [hrow] at hj; exact ⟨hin _ (hrowN j hj), hav _ (hrowN j hj)⟩) (by rw [hrow]; exact hrowl) (fun j hj => by rw [hrow] at hj; rw [hρo _ (hrowN j hj)]; have := hsz.n _ (hrowN j hj); omega)
          (by rw [hrow]; exact hLkl) (by rw [hrow, hρx]; exact fun i hi hk => by rw [hρo _ (hrowN _ (List.getElem_mem hi))]; exact hLk1 i hi hk) (by rw [hrow, hρx]; exact fun i hi hk => by rw [hρo _ (hrowN _ (List.getElem_mem hi))]; exact hLk2 i hi hk) hD hN1 hnd hlen' h8
        rw [hEp, pv, hax, ← hlp, hrow] at this
        refine this.mono ?_
        rintro v w' ⟨rfl, E', h1, h2, h3⟩
        refine ⟨congrArg (Value.int .i64) ?_, E', h1, h2, ?_⟩
        · rw [hP, sumN_congr (fun j hj => by rw [hρo _ (hrowN j (List.mem_of_mem_take hj))])]
        · unfold laid
          rw [hVl, if_neg (by simp), hrow]
          exact h3
      have fin : ∀ w', (∃ E', Ex E0 w8 E' w' ∧ Kept E0 SA w8 w' ∧ Core w' E' ord (rtR rt V.par ((rowOf ρ rt V.par).take V.k ++ u.id :: (rowOf ρ rt V.par).drop V.k)) (u.id :: N) D (laid (fset ρ u.id (newRec u)) rt u.id V)) → ∃ E', Ex E0 X E' w' ∧ Kept E0 SA X w' ∧ Core w' E' ord (if false then rt else rtR rt V.par ((rowOf ρ rt V.par).take V.k ++ u.id :: (rowOf ρ rt V.par).drop V.k)) (u.id :: N) D (laid (fset ρ u.id (newRec u)) rt u.id V) := fun w' ⟨E', h1, h2, h3⟩ =>
        ⟨E', (Ex.refl E0 X w8).trans h1 hs8 h2.size, hK8.trans h2, h3⟩
      clear hlp
      by_cases hr : u.r ∈ D
      · obtain ⟨hl, hnr⟩ := hLr hr
        rw [if_pos hr] at hro
        rw [if_pos hl] at hlo
        cases hro
        cases hlo
        (refine Ga ?_)
        (apply Lst_call; (focus rfl); (focus rfl))
        refine (hund hr hl).mono ?_
        rintro v w' ⟨rfl, rfl⟩
        rw [decide_eq_false hnr]
        (refine Ga ?_)
        (apply Lst_call; (focus rfl); (focus rfl))
        refine key.mono ?_
        rintro v w9 ⟨rfl, hE⟩
        (refine Ga ?_)
        obtain ⟨E', hE⟩ := fin _ hE
        exact cutQ_n E' hE ⟨rfl, rfl, rfl, rfl, trivial⟩
      · rw [if_neg hr] at hro
        cases hro
        (refine Ga ?_)
        (apply Lst_call; (focus rfl); (focus rfl))
        refine key.mono ?_
        rintro v w9 ⟨rfl, hE⟩
        (refine Ga ?_)
        obtain ⟨E', hE⟩ := fin _ hE
        exact cutQ_n E' hE ⟨rfl, rfl, rfl, rfl, trivial⟩
  · rintro J E1 A1 ⟨hE1, hK1, h1⟩
    have hsX1 := hK1.size
    have hVpN : ∀ p, V.par = some p → p ≠ u.id := fun p e he => by
      have h2 := hch.2.1
      rw [e] at h2
      cases c with
      | nil => cases h2
      | cons q c =>
        cases h2
        exact hxN (he ▸ hch.1.1)
    have hVl : V.left = true → ∃ p, V.par = some p := fun e => by
      rw [e, if_pos rfl] at hW
      exact ⟨_, hW.2⟩
    have hρ2x : (laid (fset ρ u.id (newRec u)) rt u.id V u.id).par = c.head? := (laid_x hVl hVpN (by rw [hρx]; rfl)).trans hch.2.1
    have hρ2o : ∀ j ∈ N, (laid (fset ρ u.id (newRec u)) rt u.id V j).par = (ρ j).par ∧ (laid (fset ρ u.id (newRec u)) rt u.id V j).n = (ρ j).n := fun j hj => by
      have hne : j ≠ u.id := fun e => hxN (e ▸ hj)
      obtain ⟨a1, a2, _⟩ := laid_o (ρ := fset ρ u.id (newRec u)) (rt := rt) hne hVpN
      exact ⟨a1.trans (by rw [hρo j hj]), a2.trans (by rw [hρo j hj])⟩
    have hcN : ∀ {l : List Id}, ChainL ρ N l → ∀ j ∈ l, j ∈ N := fun {l} => by
      induction l with
      | nil => intro _ j hj; cases hj
      | cons a l ih =>
        intro hl j hj
        rcases List.mem_cons.1 hj with rfl | hj
        · exact hl.1
        · exact ih hl.2.2 j hj
    have hc2 : ChainL (laid (fset ρ u.id (newRec u)) rt u.id V) (u.id :: N) c := ChainL.congr (fun j hj => ⟨List.mem_cons_of_mem _ hj, (hρ2o j hj).1⟩) hch.1
    have hn2 : ∀ j ∈ c, (laid (fset ρ u.id (newRec u)) rt u.id V j).n ≤ 1000000000 - 1 := fun j hj => by
      rw [(hρ2o j (hcN hch.1 j hj)).2]
      exact hsz.n j (hcN hch.1 j hj)
    have hax1 : E1.ad u.id = w.heap.size + 1 := by rw [hE1.ad]; exact hax
    have hEp1 : E1.p = E.p := hE1.p.trans hEp
    generalize laid (fset ρ u.id (newRec u)) rt u.id V = ρ2 at *
    generalize (if V.left = true then rt else rtR rt V.par ((rowOf ρ rt V.par).take V.k ++ u.id :: (rowOf ρ rt V.par).drop V.k)) = rt' at *
    have hkU : ∀ A', Kept E0 SA X A' → Blk A' w.heap.size (ucs u) 34 := fun A' hk => hk.blk kU (by rw [htU]; exact fun h => h rfl)
    clear hS hOo hR hM hF ltP hX h8 hK8 hs8 hb8 hlo hro hroN hloN hW hP h
    apply W_seq
    refine W_cutS (α := Unit) (fun _ => [(0, .pointer (some ⟨E.p, 0, none⟩)), (3, .pointer (some ⟨w.heap.size, 0, none⟩)), (4, .pointer (some ⟨w.heap.size + 1, 0, none⟩)), (7, .int .i64 (P : Int))]) (fun _ A => A1.heap.size ≤ A.heap.size ∧ Kept E0 SA X A ∧ Core A E1 ord rt' (u.id :: N) D (bump 1 c ρ2)) ?_ ?_
    · obtain ⟨_, xl, xr, hbx, _, _⟩ := h1.nodes u.id (List.mem_cons_self ..)
      rw [hax1] at hbx
      have hpar : parv E1 (ρ2 u.id).par = parv E1 c.head? := congrArg _ hρ2x
      obtain ⟨co, hco⟩ : ∃ co, parv E1 c.head? = .pointer co := by cases c.head? <;> exact ⟨_, rfl⟩
      unfold ncs at hbx
      rw [hpar, hco] at hbx
      (refine Ga ?_)
      refine W_loop (α := List Id × (Id → Rec)) (fun y => [(0, .pointer (some ⟨E.p, 0, none⟩)), (3, .pointer (some ⟨w.heap.size, 0, none⟩)), (4, .pointer (some ⟨w.heap.size + 1, 0, none⟩)), (7, .int .i64 (P : Int)), (8, parv E1 y.1.head?)])
        (fun y A => ChainL y.2 (u.id :: N) y.1 ∧ bump 1 y.1 y.2 = bump 1 c ρ2 ∧ y.1.Nodup ∧ (∀ j ∈ y.1, (y.2 j).n ≤ 1000000000 - 1) ∧ A1.heap.size ≤ A.heap.size ∧ Kept E0 SA X A ∧ Core A E1 ord rt' (u.id :: N) D y.2) (fun y _ => y.1.length) (c, ρ2) ⟨hc2, rfl, hch.2.2, hn2, Nat.le_refl _, hK1, h1⟩ ⟨rfl, rfl, rfl, rfl, ?_, trivial⟩ ?_
      · exact hco.symm
      clear h1 hK1 hc2 hn2 hbx hpar hco
      rintro J ⟨l, σ⟩ A ⟨hl, hb, hnd, hn, hsA, hK, h1⟩
      cases l with
      | nil =>
        unfold List.head? parv
        (refine Ga ?_)
        refine cutQ_n () ⟨hsA, hK, ?_⟩ ⟨rfl, rfl, rfl, rfl, trivial⟩
        rw [← hb]
        exact h1
      | cons j l =>
        obtain ⟨hjN, hjp, hl⟩ := hl
        dsimp only at hjp hl hn hb h1
        rw [List.nodup_cons] at hnd
        have hnj := hn j (List.mem_cons_self ..)
        obtain ⟨htj, jl, jr, hbj, hjl, hjr⟩ := h1.nodes j hjN
        have hltj := hbj.lt
        have hcell : (ncs E1 { σ j with n := (σ j).n + 1 } jl jr) = [.int .u64 ((σ j).u.id.1 : Int), .int .u64 ((σ j).u.id.2 : Int), .int .u64 ((σ j).u.l.1 : Int), .int .u64 ((σ j).u.l.2 : Int), .int .u64 ((σ j).u.r.1 : Int), .int .u64 ((σ j).u.r.2 : Int), parv E1 (σ j).par, jl, jr, .int .i64 (((σ j).n : Int) + 1)] := by
          unfold ncs
          simp only [Int.natCast_add]
          rfl
        have hKp := Kept.put (S := fun t => t = .node j) (w := A) (E1.ad j) htj (.cells (ncs E1 { σ j with n := (σ j).n + 1 } jl jr).toArray 78)
        have h2 := h1.updNode (r := { σ j with n := (σ j).n + 1 }) hKp (fun t ht => .inr (.inl ht)) ⟨htj, jl, jr, Blk.put_same hltj _ _, hKp.row hjl (by simp), hKp.row hjr (by simp)⟩
        have hE0 := hK.step hKp hE1.old (fun t ht => by rw [ht]; simp)
        have hpj : parv E1 (σ j).par = parv E1 l.head? := congrArg _ hjp
        obtain ⟨lo, hlo⟩ : ∃ lo, parv E1 l.head? = .pointer lo := by cases l.head? <;> exact ⟨_, rfl⟩
        rw [hcell] at h2 hE0
        unfold ncs at hbj
        rw [hpj, hlo] at hbj h2 hE0
        unfold List.head? parv pv
        (refine Ga ?_)
        refine rndQ_n (α := List Id × (Id → Rec)) (l, fset σ j { σ j with n := (σ j).n + 1 }) ⟨ChainL.congr (fun i hi => ⟨hi, ?_⟩) hl, ?_, hnd.2, fun i hi => ?_, by rw [World.putObj_size]; exact hsA, hE0, h2⟩ ⟨rfl, rfl, rfl, rfl, ?_, trivial⟩ (by simp)
        · dsimp only
          by_cases e : i = j
          · subst e
            rw [fset_same]
          · rw [fset_ne e]
        · exact (bump_cons hnd.1 σ).trans hb
        · dsimp only
          rw [fset_ne (fun e : i = j => hnd.1 (e ▸ hi))]
          exact hn i (List.mem_cons_of_mem _ hi)
        · exact hlo.symm
    · rintro J _ A ⟨hsA, hK, h2⟩
      clear h1 hK1 hc2 hn2
      obtain ⟨so, sr, fresh, m, hS, hOo, hR, hM, hF⟩ := id h2.seq
      obtain ⟨es, hes, hlk⟩ := id h2.all
      have kUA := hkU A hK
      unfold ucs at kUA
      rw [hEp1] at hS
      have ltP := hS.lt
      have ltU := kUA.lt
      (refine Ga ?_)
      refine W_draw 7 (Grown A) rfl (by kernel_rfl) (grown_start A) ?_
      (refine Qb ?_)
      intro w8 hb8
      have hes8 := (Kept.of (E := E1) (S := fun _ => False) hb8).map hes (fun h => h)
      have hs8 := hb8.size
      have h8 := h2.below hb8
      have hK8 := hK.step (Kept.of (E := E1) (S := fun _ => False) hb8) hE1.old (fun t h => h.elim)
      apply SxG.Lst_mapput (k := u.id) (ky := idv) (R := RP) (v := .pointer (some ⟨w.heap.size + 1, 0, none⟩)) (w.heap.size + 1)
      focus rfl
      focus rfl
      focus rfl
      focus rfl
      focus exact idKey
      focus exact hes8
      focus rfl
      intro w7 hm7 hc7 hs7
      have hk7 : Kept E1 (fun t => t = .all) w8 w7 := .ofChg hc7 (fun b hb => by rw [List.mem_singleton.1 hb]; exact h2.tma)
      have h7 : Core w7 E1 ord rt' (u.id :: N) (u.id :: D) (bump 1 c ρ2) := h8.updAll hk7 (fun t ht => .inr ht) ⟨_, hm7, fun k => by
        rw [SxG.look_put, hlk]
        by_cases e : k = u.id
        · subst e
          rw [if_pos rfl, if_pos (List.mem_cons_self ..), hax1]
        · rw [if_neg e]
          by_cases e' : k ∈ D
          · rw [if_pos e', if_pos (List.mem_cons_of_mem _ e')]
          · rw [if_neg e', if_neg (fun hm => (List.mem_cons.1 hm).elim e e')]⟩
      have hK7 := hK8.step hk7 hE1.old (fun t ht => by rw [ht]; simp)
      clear h8 hK8 hk7 hm7 hc7 hes8 hes hlk h2 hK hb8 hS hOo hR hM hF ltP
      obtain ⟨so, sr, fresh, m, hS, hOo, hR, hM, hF⟩ := id h7.seq
      rw [hEp1] at hS
      have hrowO := hOo
      obtain ⟨a, ca, rfl, hac, hat⟩ := hOo.at
      clear hat
      (refine Ga ?_)
      (apply Lst_slit; (focus rfl); (focus rfl); (focus rfl); (focus rfl); (focus rfl); (focus rfl); (focus rfl); (focus rfl); (focus rfl); (focus (repeat (first | apply FillO.nil | (apply FillO.cons; (focus constructor); (focus rfl); (focus rfl); (focus (repeat constructor)))))); (focus ((try simp only [Sx.sizes]); first | done | rfl)); (focus rfl))
      (refine Ga ?_)
      have hbY : Below w7.heap.size w7 (w7.alloc (.cells [.pointer (some ⟨w.heap.size + 1, 0, none⟩)].toArray 73)) := Bel
      have kY : Blk (w7.alloc (.cells [.pointer (some ⟨w.heap.size + 1, 0, none⟩)].toArray 73)) w7.heap.size [.pointer (some ⟨w.heap.size + 1, 0, none⟩)] 73 := (by (repeat (first | assumption | (apply Blk.below (hb := hb1); rotate_left; (focus ((try simp only [Sx.sizes]); omega)); rotate_right) | (apply Blk.below (hb := hb2); rotate_left; (focus ((try simp only [Sx.sizes]); omega)); rotate_right) | (apply Blk.below (hb := hb3); rotate_left; (focus ((try simp only [Sx.sizes]); omega)); rotate_right) | (apply Blk.below (hb := hb4); rotate_left; (focus ((try simp only [Sx.sizes]); omega)); rotate_right) | (apply Blk.below (hb := hb5); rotate_left; (focus ((try simp only [Sx.sizes]); omega)); rotate_right) | (apply Blk.below (hb := hb6); rotate_left; (focus ((try simp only [Sx.sizes]); omega)); rotate_right) | (apply Blk.below (hb := hb7); rotate_left; (focus ((try simp only [Sx.sizes]); omega)); rotate_right) | (apply Blk.below (hb := hb8); rotate_left; (focus ((try simp only [Sx.sizes]); omega)); rotate_right) | (apply Blk.below (hb := hb9); rotate_left; (focus ((try simp only [Sx.sizes]); omega)); rotate_right) | exact Blk.newE (by first | rfl | ((try simp only [Sx.sizes]); first | done | omega)) _ _ | exact Blk.put_same (by (try simp only [Sx.sizes]); first | done | omega) _ _ | (apply Blk.put_ne; (focus omega)) | apply Blk.alloc | apply Blk.drew)); done)
      have hrY : RowAt (w7.alloc (.cells [.pointer (some ⟨w.heap.size + 1, 0, none⟩)].toArray 73)) E1 .order (.slice a ord.length ca) ord := (Kept.of (E := E1) (S := fun _ => False) hbY).row hrowO (fun h => h)
      have hvne : ∀ g, (Value.slice a ord.length ca).ownBlock = some g → g < w7.heap.size := fun g hg => own_ltg hrowO.own hg
      have hpx : pv E1 u.id = .pointer (some ⟨w.heap.size + 1, 0, none⟩) := by unfold pv; rw [hax1]
      (apply Lst_call; (focus rfl); (focus rfl))
      refine (c_Ins 0 ord.length P 1 _ _ (ord.map (pv E1)) [pv E1 u.id] [pv E1 u.id] w7.heap.size 0 1 73 hPl (by decide) (by omega) (w7.alloc (.cells [.pointer (some ⟨w.heap.size + 1, 0, none⟩)].toArray 73)) hrY.own (Nat.zero_le _) rfl rfl (by rw [hpx]; exact kY) (fun j u hu => by rwa [Nat.zero_add]) (fun u hu => by obtain ⟨q, _, rfl⟩ := List.mem_map.1 hu; rfl) (fun u hu => by rw [List.mem_singleton.1 hu]; rfl) (fun hg => by have := hvne _ hg; omega)).mono ?_
      rintro v w4 ⟨ho, hg, hb⟩
      obtain ⟨E2, hE2, hrow4, hkp⟩ := row_ins hrY ho hPl hg hb
      have hY := h7.below hbY
      have hKY := hK7.step (Kept.of (E := E1) (S := fun _ => False) hbY) hE1.old (fun t h => h.elim)
      clear hrY ho hg hb hvne kY hrowO hOo hS hR hM hF
      obtain ⟨v1, v2, v3, rfl⟩ := own_slice hrow4.own
      generalize w7.alloc (.cells [.pointer (some ⟨w.heap.size + 1, 0, none⟩)].toArray 73) = Y at *
      have hC4 := hY.ext hE2 (Nat.le_refl _)
      obtain ⟨so, sr, fresh, m, hS, hOo, hR, hM, hF⟩ := id hC4.seq
      have hS4 := hkp.blk hS (by rw [hC4.tp]; simp)
      have ht4 := hC4.tp
      rw [hE2.p, hEp1] at hS4 ht4
      have hl4 := hS4.lt
      (refine Ga ?_)
      have hkq : Kept E2 (fun t => t = .seq ∨ t = .order) Y ((w4.putObj E.p (.cells [.map (some E2.ma), .slice v1 v2 v3, sr, .map (some E2.mt), .bool fresh].toArray 71)).putObj E.p (.cells [.map (some E2.ma), .slice v1 v2 v3, sr, .map (some E2.mt), .bool false].toArray 71)) :=
        ((hkp.mono fun t ht => .inr ht).trans (.put _ (.inl ht4) _)).trans (.put _ (.inl ht4) _)
      have hfin : Core ((w4.putObj E.p (.cells [.map (some E2.ma), .slice v1 v2 v3, sr, .map (some E2.mt), .bool fresh].toArray 71)).putObj E.p (.cells [.map (some E2.ma), .slice v1 v2 v3, sr, .map (some E2.mt), .bool false].toArray 71)) E2 (ord.take P ++ u.id :: ord.drop P) rt' (u.id :: N) (u.id :: D) (bump 1 c ρ2) :=
        hC4.updSeq hkq (fun t ht => ht.elim (fun h => .inr (.inl h)) (fun h => .inr (.inr (.inl h)))) ⟨.slice v1 v2 v3, sr, false, m, by rw [hE2.p, hEp1]; exact Blk.put_same (by rw [World.putObj_size]; exact hl4) _ _,
          ((Kept.put (S := fun t => t = .seq) _ ht4 _).trans (Kept.put (S := fun t => t = .seq) _ ht4 _)).row hrow4 (by simp), hkq.row hR (by simp), hkq.map hM (by rw [hC4.tmt]; simp), fun e => by cases e⟩
      have hKf := hKY.step hkq (fun g hg => (hE2.old g (Nat.lt_of_lt_of_le hg hKY.size)).trans (hE1.old g hg)) (fun t ht => by rcases ht with rfl | rfl <;> simp)
      refine retQ0n ⟨rfl, E2, hE2.p.trans hEp1, fun g hg => ?_, fun g hg => ?_, hKf.base hbX hoX, hfin⟩
      · have hgX := Nat.lt_of_lt_of_le hg hbX.size
        exact (hE2.old g (Nat.lt_of_lt_of_le hgX hKY.size)).trans ((hE1.old g hgX).trans (hoX g hg))
      · rw [World.putObj_size, World.putObj_size] at hg
        have hs4 := hkp.size
        have hsY := hbY.size
        exact (hE2.far g hg).trans ((hE1.far g (by omega)).trans (hfX g (by omega)))
end Sq
end Go.Proofs.Ytmammcgdjjldbaa
