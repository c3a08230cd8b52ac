/- chain, Run. -/
import Derived.Test.YtmammcgdjjldbaaSqZ
namespace Go.Proofs.Ytmammcgdjjldbaa
set_option maxRecDepth 100000
namespace Sq
open Go Go.RowKit Sx Tl
variable {E : Env} {ord rt N D : List Id} {ρ : Id → Rec} {w : World}
/-- The one behind, of the same writer. -/
def nx (u : Un) : Un := ⟨(u.id.1, u.id.2 + 1), u.id, u.r⟩
def tow (u : Un) : Nat → List Un
  | 0 => []
  | m + 1 => nx u :: tow (nx u) m
def towI (u : Un) (m : Nat) : List Id := (tow u m).map (·.id)
def towL (N : List Id) (u : Un) : Nat → List Id
  | 0 => N
  | m + 1 => towL ((nx u).id :: N) (nx u) m
def towR (ρ : Id → Rec) (u : Un) : Nat → Id → Rec
  | 0 => ρ
  | m + 1 => towR (fset (fset ρ (nx u).id ⟨nx u, some u.id, [], [], m + 1⟩) u.id { ρ u.id with R := [(nx u).id] }) (nx u) m
theorem towI_succ (u : Un) (m : Nat) : towI u (m + 1) = (nx u).id :: towI (nx u) m := rfl
theorem tow_mem : ∀ {m : Nat} {u : Un} {k : Id}, k ∈ towI u m → k.1 = u.id.1 ∧ u.id.2 < k.2 ∧ k.2 ≤ u.id.2 + m
  | m + 1, u, k, h => by
    rw [towI_succ] at h
    rcases List.mem_cons.1 h with rfl | h
    · exact ⟨rfl, by show u.id.2 < u.id.2 + 1; omega, by show u.id.2 + 1 ≤ _; omega⟩
    · obtain ⟨h1, h2, h3⟩ := tow_mem h
      have e1 : (nx u).id.1 = u.id.1 := rfl
      have e2 : (nx u).id.2 = u.id.2 + 1 := rfl
      exact ⟨h1.trans e1, by omega, by omega⟩
theorem tow_len : ∀ (m : Nat) (u : Un), (towI u m).length = m
  | 0, _ => rfl
  | m + 1, u => congrArg (· + 1) (tow_len m (nx u))
theorem nx_ne (u : Un) : (nx u).id ≠ u.id := fun e => by have := congrArg Prod.snd e; exact absurd this (by show u.id.2 + 1 ≠ u.id.2; omega)
theorem row_insL {τ : Tag} {v u : Value} {l ns : List Id} {k : Nat} {A : World} (hr : RowAt w E τ v l)
    (ho : A.ownsRow 0 73 1 u (l.length + ns.length) ((l.map (pv E)).take k ++ ns.map (pv E) ++ (l.map (pv E)).drop k)) (hk : k ≤ l.length) (hg : w.grownBy A v.ownBlock) (hb : u.ownBlock = v.ownBlock ∨ u.ownBlock = some w.heap.size) :
    ∃ E', Ex E w E' A ∧ RowAt A E' τ u (l.take k ++ ns ++ l.drop k) ∧ Kept E' (fun t => t = τ) w A := by
  have e1 : (l.map (pv E)).take k ++ ns.map (pv E) ++ (l.map (pv E)).drop k = (l.take k ++ ns ++ l.drop k).map (pv E) := by simp
  have e2 : l.length + ns.length = (l.take k ++ ns ++ l.drop k).length := by simp only [List.length_append, List.length_take, List.length_drop]; omega
  rw [e1, e2] at ho
  rcases hb with hb | hb
  · refine ⟨E, .refl _ _ _, ⟨ho, fun g hg' => hr.tag g (hb ▸ hg')⟩, .grown hg fun g hg' => hr.tag g hg'⟩
  · have hlt := own_ltg ho hb
    refine ⟨E.tag w.heap.size τ, .tag τ (Nat.le_refl _) hlt, ⟨ho, fun g hg' => ?_⟩, .grown hg fun g hg' => ?_⟩
    · rw [hb] at hg'
      cases hg'
      exact if_pos rfl
    · have := own_ltg hr.own hg'
      show (if g = w.heap.size then τ else E.tg g) = τ
      rw [if_neg (by omega)]
      exact hr.tag g hg'
structure Ch where
  u : Un
  i : Nat
  ρ : Id → Rec
  N : List Id
  D : List Id
  E : Env
  v : Value
  done : List Id
/-- How far the chain has come. -/
structure ChI (E0 : Env) (X : World) (ord rt : List Id) (R : Id → Rec) (NN DD all : List Id) (s : Ch) (A : World) : Prop where
  core : Core A s.E ord rt s.N s.D s.ρ
  kept : Kept E0 SA X A
  p : s.E.p = E0.p
  old : ∀ g, g < X.heap.size → s.E.tg g = E0.tg g
  far : ∀ g, A.heap.size ≤ g → s.E.tg g = .other
  clo : Clo ord rt s.N s.D s.ρ
  uN : s.u.id ∈ s.N
  uu : (s.ρ s.u.id).u = s.u
  uR : (s.ρ s.u.id).R = []
  clk : s.u.id.2 + s.i ≤ 9007199254740991
  new : ∀ k ∈ towI s.u s.i, k ∉ s.N
  rc : towR s.ρ s.u s.i = R
  n : towL s.N s.u s.i = NN
  d : towL s.D s.u s.i = DD
  al : s.done ++ towI s.u s.i = all
  own : A.ownsRow X.heap.size 73 1 s.v s.done.length (s.done.map (pv s.E))
  tag : ∀ g, s.v.ownBlock = some g → s.E.tg g = .other
  dn : ∀ j ∈ s.done, j ∈ s.N
theorem own_ge {v : Value} {B e n nn : Nat} {xs : List Value} (h : w.ownsRow B e n v nn xs) {g : Nat} (hg : v.ownBlock = some g) : B ≤ g := by
  rcases h.2 with ⟨rfl, _⟩ | ⟨g', cap, cur, rfl, hb, _⟩
  · cases hg
  · cases hg
    exact hb
/-- A new row of one. -/
theorem row_one {τ : Tag} {b : Nat} {x : Id} (h : Blk w b [pv E x] 73) (ht : E.tg b = τ) : RowAt w E τ (.slice (some ⟨b, 0, none⟩) 1 1) [x] :=
  ⟨⟨rfl, .inr ⟨b, 1, #[pv E x], rfl, Nat.zero_le _, h, Nat.le_refl _, by decide, rfl, rfl⟩⟩, fun g hg => by cases hg; exact ht⟩
theorem Kept.grownNew {E0 : Env} {X A A' : World} {v : Value} (h : Kept E0 SA X A) (hg : A.grownBy A' v.ownBlock) (hb : ∀ g, v.ownBlock = some g → X.heap.size ≤ g) : Kept E0 SA X A' :=
  ⟨hg.os.trans h.os, hg.tape.trans h.tape, hg.output.trans h.output, Nat.le_trans h.size hg.size, fun g h1 h2 => (hg.block g (Nat.lt_of_lt_of_le h1 h.size) (fun e => by have := hb g e.symm; omega)).trans (h.block g h1 h2)⟩
attribute [local irreducible] W Lst Qst Pu seqQ blkQ rndQ cutQ retQ Does Enters IntKind.wrap bits sb World.alloc World.putObj Blk
set_option maxHeartbeats 2000000 in
theorem c_chain (u : Un) (m : Nat) (c : List Id) (hfar : ∀ g, w.heap.size ≤ g → E.tg g = .other) (hc : Clo ord rt N D ρ) (hn : ∀ j ∈ N, (ρ j).n ≤ 1000000000) (hm0 : 0 < m) (hm : m ≤ 1000000000) (hu : u.id ∈ D) (hρu : (ρ u.id).u = u) (hR : (ρ u.id).R = []) (hclk : u.id.2 + m ≤ 9007199254740991) (hnew : ∀ k ∈ towI u m, k ∉ N)
    (hch : ChainL ρ N (u.id :: c) ∧ (u.id :: c).Nodup) (hD : ∀ j, j ∈ ord ↔ j ∈ D) (hN : ∀ j ∈ ord, j ∈ N ∧ (ρ j).u.id = j) (hnd : ord.Nodup) (hlen : ord.length + m ≤ 1000000000) (h : Core w E ord rt N D ρ) :
    Does Try.prog 37 #[.pointer (some ⟨E.p, 0, none⟩), pv E u.id, .int .i64 (m : Int)] w fun v w' => v = .tuple #[] ∧ ∃ E', E'.p = E.p ∧ (∀ g, g < w.heap.size → E'.tg g = E.tg g) ∧ (∀ g, w'.heap.size ≤ g → E'.tg g = .other) ∧ Kept E SA w w' ∧
      Core w' E' (ord.take (ord.idxOf u.id + 1) ++ towI u m ++ ord.drop (ord.idxOf u.id + 1)) rt (towL N u m) (towL D u m) (towR (bump m (u.id :: c) ρ) u m) := by
  refine Does_of (args := [.pointer (some ⟨E.p, 0, none⟩), pv E u.id, .int .i64 (m : Int)]) Try.func37 (by kernel_rfl) rfl rfl rfl rfl rfl ?_
  have huN := hc.D _ hu
  obtain ⟨htu, ul, ur, hbu, _, _⟩ := h.nodes u.id huN
  unfold ncs at hbu
  rw [hρu] at hbu
  unfold pv
  have hV : findV ord D u.id = (ord.idxOf u.id : Int) := if_pos hu
  have hix : ord.idxOf u.id < ord.length := List.idxOf_lt_length_iff.2 ((hD _).2 hu)
  (refine Ga ?_)
  (apply Lst_call; (focus rfl); (focus rfl))
  refine (c_Find u.id hD hN hnd (by omega) h).mono ?_
  rintro v w2 ⟨rfl, h2, hk2⟩
  rw [hV]
  have hK2 : Kept E SA w w2 := hk2.mono (T := SA) fun t ht => by rcases ht with rfl | rfl <;> simp
  have hpi : ((ord.idxOf u.id : Int) + 1) = ((ord.idxOf u.id + 1 : Nat) : Int) := by omega
  clear h hbu hk2
  (refine Ga ?_)
  refine W_cutB (α := Unit) (fun _ => [(0, .pointer (some ⟨E.p, 0, none⟩)), (1, .pointer (some ⟨E.ad u.id, 0, none⟩)), (2, .int .i64 (m : Int)), (6, .int .i64 ((ord.idxOf u.id + 1 : Nat) : Int))]) (fun _ A => Kept E SA w A ∧ Core A E ord rt N D (bump m (u.id :: c) ρ)) ?_ ?_
  · refine W_loop (α := List Id × (Id → Rec)) (fun y => [(0, .pointer (some ⟨E.p, 0, none⟩)), (1, .pointer (some ⟨E.ad u.id, 0, none⟩)), (2, .int .i64 (m : Int)), (6, .int .i64 ((ord.idxOf u.id + 1 : Nat) : Int)), (7, parv E y.1.head?)])
      (fun y A => ChainL y.2 N y.1 ∧ bump m y.1 y.2 = bump m (u.id :: c) ρ ∧ y.1.Nodup ∧ (∀ j ∈ y.1, (y.2 j).n ≤ 1000000000) ∧ Kept E SA w A ∧ Core A E ord rt N D y.2) (fun y _ => y.1.length) (u.id :: c, ρ) ⟨hch.1, rfl, hch.2, ?_, hK2, h2⟩ ⟨rfl, rfl, rfl, congrArg (Value.int .i64) hpi, rfl, trivial⟩ ?_
    · have hcN : ∀ {l : List Id}, ChainL ρ N l → ∀ j ∈ l, j ∈ N := fun {l} => by
        induction l with
        | nil => intro _ j hj; cases hj
        | cons a l ih =>
          intro hl j hj
          rcases List.mem_cons.1 hj with rfl | hj
          · exact hl.1
          · exact ih hl.2.2 j hj
      exact fun j hj => hn j (hcN hch.1 j hj)
    clear h2 hK2 hch hn
    rintro J ⟨l, σ⟩ A ⟨hl, hb, hnd, hn, hK, h1⟩
    cases l with
    | nil =>
      unfold List.head? parv
      (refine Ga ?_)
      refine cutQ_n () ⟨hK, ?_⟩ ⟨rfl, rfl, rfl, rfl, trivial⟩
      rw [← hb]
      exact h1
    | cons j l =>
      obtain ⟨hjN, hjp, hl⟩ := hl
      dsimp only at hjp hl hn hb h1
      rw [List.nodup_cons] at hnd
      have hnj := hn j (List.mem_cons_self ..)
      obtain ⟨htj, jl, jr, hbj, hjl, hjr⟩ := h1.nodes j hjN
      have hltj := hbj.lt
      have hcell : (ncs E { σ j with n := (σ j).n + m } jl jr) = [.int .u64 ((σ j).u.id.1 : Int), .int .u64 ((σ j).u.id.2 : Int), .int .u64 ((σ j).u.l.1 : Int), .int .u64 ((σ j).u.l.2 : Int), .int .u64 ((σ j).u.r.1 : Int), .int .u64 ((σ j).u.r.2 : Int), parv E (σ j).par, jl, jr, .int .i64 (((σ j).n : Int) + (m : Int))] := by
        unfold ncs
        simp only [Int.natCast_add]
      have hKp := Kept.put (S := fun t => t = .node j) (w := A) (E.ad j) htj (.cells (ncs E { σ j with n := (σ j).n + m } jl jr).toArray 78)
      have h2 := h1.updNode (r := { σ j with n := (σ j).n + m }) hKp (fun t ht => .inr (.inl ht)) ⟨htj, jl, jr, Blk.put_same hltj _ _, hKp.row hjl (by simp), hKp.row hjr (by simp)⟩
      have hE0 := hK.step hKp (fun _ _ => rfl) (fun t ht => by rw [ht]; simp)
      have hpj : parv E (σ j).par = parv E l.head? := congrArg _ hjp
      obtain ⟨lo, hlo⟩ : ∃ lo, parv E l.head? = .pointer lo := by cases l.head? <;> exact ⟨_, rfl⟩
      rw [hcell] at h2 hE0
      unfold ncs at hbj
      rw [hpj, hlo] at hbj h2 hE0
      unfold List.head? parv pv
      (refine Ga ?_)
      refine rndQ_n (α := List Id × (Id → Rec)) (l, fset σ j { σ j with n := (σ j).n + m }) ⟨ChainL.congr (fun i hi => ⟨hi, ?_⟩) hl, ?_, hnd.2, fun i hi => ?_, hE0, h2⟩ ⟨rfl, rfl, rfl, rfl, ?_, trivial⟩ (by simp)
      · dsimp only
        by_cases e : i = j
        · subst e
          rw [fset_same]
        · rw [fset_ne e]
      · exact (bump_cons hnd.1 σ).trans hb
      · dsimp only
        rw [fset_ne (fun e : i = j => hnd.1 (e ▸ hi))]
        exact hn i (List.mem_cons_of_mem _ hi)
      · exact hlo.symm
  · rintro J _ A ⟨hK, h3⟩
    clear h2 hK2 hch
    have hb1 : ∀ j, (bump m (u.id :: c) ρ j).u = (ρ j).u ∧ (bump m (u.id :: c) ρ j).L = (ρ j).L ∧ (bump m (u.id :: c) ρ j).R = (ρ j).R ∧ (bump m (u.id :: c) ρ j).par = (ρ j).par := fun j => ⟨rfl, rfl, rfl, rfl⟩
    generalize bump m (u.id :: c) ρ = ρ1 at *
    have hc1 : Clo ord rt N D ρ1 := ⟨hc.ord, hc.rt, hc.D, fun k hk j hj => hc.L k hk j (by rw [(hb1 k).2.1] at hj; exact hj), fun k hk j hj => hc.R k hk j (by rw [(hb1 k).2.2.1] at hj; exact hj), fun k hk j hj => hc.par k hk j (by rw [(hb1 k).2.2.2] at hj; exact hj)⟩
    (refine Ga ?_)
    refine W_cutB (α := Ch) (fun s => [(0, .pointer (some ⟨E.p, 0, none⟩)), (6, .int .i64 ((ord.idxOf u.id + 1 : Nat) : Int)), (8, s.v)]) (fun s A' => ChI E A ord rt (towR ρ1 u m) (towL N u m) (towL D u m) (towI u m) s A' ∧ s.i = 0) ?_ ?_
    · refine W_loop (α := Ch) (fun s => [(0, .pointer (some ⟨E.p, 0, none⟩)), (1, .pointer (some ⟨s.E.ad s.u.id, 0, none⟩)), (6, .int .i64 ((ord.idxOf u.id + 1 : Nat) : Int)), (8, s.v), (9, .int .i64 (s.i : Int))]) (fun s A' => ChI E A ord rt (towR ρ1 u m) (towL N u m) (towL D u m) (towI u m) s A') (fun s _ => s.i)
        ⟨u, m, ρ1, N, D, E, .slice none 0 0, []⟩ ⟨h3, .refl _ _ _, rfl, fun _ _ => rfl, fun g hg => hfar g (Nat.le_trans hK.size hg), hc1, huN, (hb1 _).1.trans hρu, (hb1 _).2.2.1.trans hR, hclk, hnew, rfl, rfl, rfl, rfl, ⟨rfl, .inl ⟨rfl, rfl⟩⟩, (fun g hg => by cases hg), (fun j hj => by cases hj)⟩ ⟨rfl, rfl, rfl, rfl, rfl, trivial⟩ ?_
      clear h3 hc hc1 hnew hclk hR hρu hb1
      rintro J ⟨cu, i, σ, N1, D1, E1, v, done⟩ A1 hI
      dsimp only
      cases i with
      | zero =>
        (refine Ga ?_)
        exact cutQ_n _ ⟨hI, rfl⟩ ⟨rfl, rfl, rfl, trivial⟩
      | succ i =>
        obtain ⟨hcore, hkept, hp, hold, hfar1, hclo, huN1, huu, huR, hclk, hnew, hrc, hnn, hdd, hal, hown, htag, hdn⟩ := hI
        dsimp only at *
        obtain ⟨va, vc, rfl, hvc⟩ := own_form hown
        have hdl : done.length + (i + 1) = m := by
          have := congrArg List.length hal
          rwa [List.length_append, tow_len, tow_len] at this
        obtain ⟨htcu, cl, cr, hbcu, hrl, hrr⟩ := hcore.nodes _ huN1
        unfold ncs at hbcu
        rw [huu] at hbcu
        have hltc := hbcu.lt
        have hcpos : ((i + 1 : Nat) : Int) > 0 := by omega
        (refine Ga ?_)
        refine W_draw 28 (Grown A1) rfl (by kernel_rfl) (grown_start A1) ?_
        (refine Qb ?_)
        intro w8 hb8
        have hx : (nx cu).id ∉ N1 := hnew _ (by rw [towI_succ]; exact List.mem_cons_self ..)
        have hxne : cu.id ≠ (nx cu).id := Ne.symm (nx_ne cu)
        have hs8 := hb8.size
        obtain ⟨W2, hW2⟩ : ∃ W2, w8.alloc (.cells [.int .u64 (cu.id.1 : Int), .int .u64 ((cu.id.2 : Int) + 1), .int .u64 (cu.id.1 : Int), .int .u64 (cu.id.2 : Int), .int .u64 (cu.r.1 : Int), .int .u64 (cu.r.2 : Int), .pointer (some ⟨E1.ad cu.id, 0, none⟩), .slice none 0 0, .slice none 0 0, .int .i64 ((i + 1 : Nat) : Int)].toArray 78) = W2 := ⟨_, rfl⟩
        have hb2 : Below A1.heap.size A1 W2 := by rw [← hW2]; exact hb8.trans (Below.mono (show Below w8.heap.size w8 _ from Bel) hs8)
        have hs2 : W2.heap.size = w8.heap.size + 1 := by rw [← hW2]; simp only [Sx.sizes]
        have kXe : Blk W2 w8.heap.size [.int .u64 (cu.id.1 : Int), .int .u64 ((cu.id.2 : Int) + 1), .int .u64 (cu.id.1 : Int), .int .u64 (cu.id.2 : Int), .int .u64 (cu.r.1 : Int), .int .u64 (cu.r.2 : Int), .pointer (some ⟨E1.ad cu.id, 0, none⟩), .slice none 0 0, .slice none 0 0, .int .i64 ((i + 1 : Nat) : Int)] 78 := by rw [← hW2]; exact (by (repeat (first | assumption | (apply Blk.below (hb := hb1); rotate_left; (focus ((try simp only [Sx.sizes]); omega)); rotate_right) | (apply Blk.below (hb := hb2); rotate_left; (focus ((try simp only [Sx.sizes]); omega)); rotate_right) | (apply Blk.below (hb := hb3); rotate_left; (focus ((try simp only [Sx.sizes]); omega)); rotate_right) | (apply Blk.below (hb := hb4); rotate_left; (focus ((try simp only [Sx.sizes]); omega)); rotate_right) | (apply Blk.below (hb := hb5); rotate_left; (focus ((try simp only [Sx.sizes]); omega)); rotate_right) | (apply Blk.below (hb := hb6); rotate_left; (focus ((try simp only [Sx.sizes]); omega)); rotate_right) | (apply Blk.below (hb := hb7); rotate_left; (focus ((try simp only [Sx.sizes]); omega)); rotate_right) | (apply Blk.below (hb := hb8); rotate_left; (focus ((try simp only [Sx.sizes]); omega)); rotate_right) | (apply Blk.below (hb := hb9); rotate_left; (focus ((try simp only [Sx.sizes]); omega)); rotate_right) | exact Blk.newE (by first | rfl | ((try simp only [Sx.sizes]); first | done | omega)) _ _ | exact Blk.put_same (by (try simp only [Sx.sizes]); first | done | omega) _ _ | (apply Blk.put_ne; (focus omega)) | apply Blk.alloc | apply Blk.drew)); done)
        have hpar : parv (E1.node (nx cu).id w8.heap.size) (some cu.id) = .pointer (some ⟨E1.ad cu.id, 0, none⟩) := by
          show Value.pointer (some ⟨if cu.id = (nx cu).id then w8.heap.size else E1.ad cu.id, 0, none⟩) = _
          rw [if_neg hxne]
        have kX : Blk W2 w8.heap.size (ncs (E1.node (nx cu).id w8.heap.size) ⟨nx cu, some cu.id, [], [], i + 1⟩ (.slice none 0 0) (.slice none 0 0)) 78 := by
          unfold ncs
          dsimp only
          rw [hpar]
          exact kXe
        have hC2 := hcore.newNode (r := ⟨nx cu, some cu.id, [], [], i + 1⟩) hclo hx hb2 hs8 kX ⟨⟨rfl, .inl ⟨rfl, rfl⟩⟩, fun g hg => by cases hg⟩ ⟨⟨rfl, .inl ⟨rfl, rfl⟩⟩, fun g hg => by cases hg⟩
        have e2p : (E1.node (nx cu).id w8.heap.size).p = E1.p := rfl
        have e2x : (E1.node (nx cu).id w8.heap.size).ad (nx cu).id = w8.heap.size := if_pos rfl
        have e2o : ∀ j, j ≠ (nx cu).id → (E1.node (nx cu).id w8.heap.size).ad j = E1.ad j := fun j hj => if_neg hj
        have e2t : ∀ g, g ≠ w8.heap.size → (E1.node (nx cu).id w8.heap.size).tg g = E1.tg g := fun g hg => if_neg hg
        generalize E1.node (nx cu).id w8.heap.size = E2 at *
        (refine Ga ?_)
        rw [hW2]
        clear hW2
        (apply Lst_slit; (focus rfl); (focus rfl); (focus rfl); (focus rfl); (focus rfl); (focus rfl); (focus rfl); (focus rfl); (focus rfl); (focus (repeat (first | apply FillO.nil | (apply FillO.cons; (focus constructor); (focus rfl); (focus rfl); (focus (repeat constructor)))))); (focus ((try simp only [Sx.sizes]); first | done | rfl)); (focus rfl))
        have hpx : pv E2 (nx cu).id = .pointer (some ⟨w8.heap.size, 0, none⟩) := by unfold pv; rw [e2x]
        obtain ⟨W3, hW3⟩ : ∃ W3, W2.alloc (.cells (.pointer (some ⟨w8.heap.size, 0, none⟩) :: [].append (List.replicate 0 [Value.pointer none]).flatten).toArray 73) = W3 := ⟨_, rfl⟩
        have hW3' : W2.alloc (.cells [.pointer (some ⟨w8.heap.size, 0, none⟩)].toArray 73) = W3 := hW3
        have hb3 : Below W2.heap.size W2 W3 := by rw [← hW3']; exact Bel
        have hs3 : W3.heap.size = W2.heap.size + 1 := by rw [← hW3']; simp only [Sx.sizes]
        have kR : Blk W3 W2.heap.size [.pointer (some ⟨w8.heap.size, 0, none⟩)] 73 := by rw [← hW3']; exact (by (repeat (first | assumption | (apply Blk.below (hb := hb1); rotate_left; (focus ((try simp only [Sx.sizes]); omega)); rotate_right) | (apply Blk.below (hb := hb2); rotate_left; (focus ((try simp only [Sx.sizes]); omega)); rotate_right) | (apply Blk.below (hb := hb3); rotate_left; (focus ((try simp only [Sx.sizes]); omega)); rotate_right) | (apply Blk.below (hb := hb4); rotate_left; (focus ((try simp only [Sx.sizes]); omega)); rotate_right) | (apply Blk.below (hb := hb5); rotate_left; (focus ((try simp only [Sx.sizes]); omega)); rotate_right) | (apply Blk.below (hb := hb6); rotate_left; (focus ((try simp only [Sx.sizes]); omega)); rotate_right) | (apply Blk.below (hb := hb7); rotate_left; (focus ((try simp only [Sx.sizes]); omega)); rotate_right) | (apply Blk.below (hb := hb8); rotate_left; (focus ((try simp only [Sx.sizes]); omega)); rotate_right) | (apply Blk.below (hb := hb9); rotate_left; (focus ((try simp only [Sx.sizes]); omega)); rotate_right) | exact Blk.newE (by first | rfl | ((try simp only [Sx.sizes]); first | done | omega)) _ _ | exact Blk.put_same (by (try simp only [Sx.sizes]); first | done | omega) _ _ | (apply Blk.put_ne; (focus omega)) | apply Blk.alloc | apply Blk.drew)); done)
        rw [hW3]
        clear hW3 hW3'
        have hE3 : Ex E2 W2 (E2.tag W2.heap.size (.right cu.id)) W3 := .tag _ (Nat.le_refl _) (by omega)
        have e3r : (E2.tag W2.heap.size (.right cu.id)).tg W2.heap.size = .right cu.id := if_pos rfl
        have e3t : ∀ g, g ≠ W2.heap.size → (E2.tag W2.heap.size (.right cu.id)).tg g = E2.tg g := fun g hg => if_neg hg
        generalize E2.tag W2.heap.size (.right cu.id) = E3 at *
        have hC3 := (hC2.ext hE3 (Nat.le_refl _)).below (hb3)
        have hb13 : Below A1.heap.size A1 W3 := hb2.trans (hb3.mono hb2.size)
        have hbc3 := hbcu.below hb13 hltc
        have hlc3 := hbc3.lt
        have kX3 := kXe.below hb3 kXe.lt
        have e3o : ∀ j, j ≠ (nx cu).id → E3.ad j = E1.ad j := fun j hj => by rw [hE3.ad]; exact e2o j hj
        have e3x : E3.ad (nx cu).id = w8.heap.size := by rw [hE3.ad]; exact e2x
        have e3p : E3.p = E1.p := hE3.p.trans e2p
        have e31 : ∀ g, g < A1.heap.size → E3.tg g = E1.tg g := fun g hg => (e3t g (by omega)).trans (e2t g (by omega))
        have hcN3 : cu.id ∈ (nx cu).id :: N1 := List.mem_cons_of_mem _ huN1
        have htc3 : E3.tg (E1.ad cu.id) = .node cu.id := (e31 _ hltc).trans htcu
        have hnc := hC3.nodes cu.id hcN3
        rw [fset_ne hxne] at hnc
        obtain ⟨_, cl3, cr3, hbc3', hrl3, _⟩ := hnc
        have hacu : E3.ad cu.id = E1.ad cu.id := e3o _ hxne
        rw [hacu] at hbc3'
        unfold ncs at hbc3'
        rw [huu] at hbc3'
        have hlc3 := hbc3'.lt
        have hKp := Kept.put (S := fun t => t = .node cu.id) (w := W3) (E1.ad cu.id) htc3 (.cells (ncs E3 { σ cu.id with R := [(nx cu).id] } cl3 (.slice (some ⟨W2.heap.size, 0, none⟩) 1 1)).toArray 78)
        have hpx3 : pv E3 (nx cu).id = .pointer (some ⟨w8.heap.size, 0, none⟩) := by unfold pv; rw [e3x]
        have hrow3 : RowAt W3 E3 (.right cu.id) (.slice (some ⟨W2.heap.size, 0, none⟩) 1 1) [(nx cu).id] := row_one (by rw [hpx3]; exact kR) e3r
        have hC4 := hC3.updNode (r := { σ cu.id with R := [(nx cu).id] }) hKp (fun t ht => .inr (.inl ht)) ⟨by rw [hacu]; exact htc3, cl3, .slice (some ⟨W2.heap.size, 0, none⟩) 1 1, by rw [hacu]; exact Blk.put_same hlc3 _ _, hKp.row hrl3 (by simp), hKp.row hrow3 (by simp)⟩
        have hK13 : Kept E1 SA A1 W3 := .of hb13
        have hK14 := hK13.step hKp e31 (fun t ht => by rw [ht]; simp)
        have kX4 := hKp.blk kX3 (by rw [e3t _ (by omega)]; have := hC2.nodes (nx cu).id (List.mem_cons_self ..); have := this.tag; rw [e2x] at this; rw [this]; simpa using Ne.symm hxne)
        have hcell : ncs E3 { σ cu.id with R := [(nx cu).id] } cl3 (.slice (some ⟨W2.heap.size, 0, none⟩) 1 1) = [.int .u64 (cu.id.1 : Int), .int .u64 (cu.id.2 : Int), .int .u64 (cu.l.1 : Int), .int .u64 (cu.l.2 : Int), .int .u64 (cu.r.1 : Int), .int .u64 (cu.r.2 : Int), parv E3 (σ cu.id).par, cl3, .slice (some ⟨W2.heap.size, 0, none⟩) 1 1, .int .i64 ((σ cu.id).n : Int)] := by
          unfold ncs
          dsimp only
          rw [huu]
        rw [hcell] at hKp hC4 hK14 kX4
        obtain ⟨W4, hW4⟩ : ∃ W4, W3.putObj (E1.ad cu.id) (.cells [.int .u64 (cu.id.1 : Int), .int .u64 (cu.id.2 : Int), .int .u64 (cu.l.1 : Int), .int .u64 (cu.l.2 : Int), .int .u64 (cu.r.1 : Int), .int .u64 (cu.r.2 : Int), parv E3 (σ cu.id).par, cl3, .slice (some ⟨W2.heap.size, 0, none⟩) 1 1, .int .i64 ((σ cu.id).n : Int)].toArray 78) = W4 := ⟨_, rfl⟩
        have hs4 : W4.heap.size = W3.heap.size := by rw [← hW4, World.putObj_size]
        rw [hW4] at hKp hC4 hK14 kX4
        clear hbc3 hbcu
        (refine Ga ?_)
        rw [hW4]
        clear hW4 hbc3' hC3 hC2 hKp hrl3 hrow3 kX kXe kX3 kR hK13 hcell hcore
        obtain ⟨so, sr, fresh, mm, hS, hOo, hR, hM, hF⟩ := id hC4.seq
        obtain ⟨es, hes, hlk⟩ := id hC4.all
        rw [e3p, hp] at hS
        have ltP := hS.lt
        have ltX := kX4.lt
        refine W_draw 10 (Grown W4) rfl (by kernel_rfl) (grown_start W4) ?_
        (refine Qb ?_)
        intro w5 hb5
        have hes5 := (Kept.of (E := E3) (S := fun _ => False) hb5).map hes (fun h => h)
        have hC5 := hC4.below hb5
        have hK5 := hK14.step (Kept.of (E := E3) (S := fun _ => False) hb5) e31 (fun t h => h.elim)
        apply SxG.Lst_mapput (k := (nx cu).id) (ky := idv) (R := RP) (v := .pointer (some ⟨w8.heap.size, 0, none⟩)) w8.heap.size
        focus rfl
        focus rfl
        focus rfl
        focus rfl
        focus exact idKey
        focus exact hes5
        focus rfl
        intro w6 hm6 hc6 hs6
        have hk6 : Kept E3 (fun t => t = .all) w5 w6 := .ofChg hc6 (fun b hb => by rw [List.mem_singleton.1 hb]; exact hC5.tma)
        have hC6 : Core w6 E3 ord rt ((nx cu).id :: N1) ((nx cu).id :: D1) _ := hC5.updAll hk6 (fun t ht => .inr ht) ⟨_, hm6, fun k => by
          rw [SxG.look_put, hlk]
          by_cases e : k = (nx cu).id
          · subst e
            rw [if_pos rfl, if_pos (List.mem_cons_self ..), e3x]
          · rw [if_neg e]
            by_cases e' : k ∈ D1
            · rw [if_pos e', if_pos (List.mem_cons_of_mem _ e')]
            · rw [if_neg e', if_neg (fun hm => (List.mem_cons.1 hm).elim e e')]⟩
        have hK6 := hK5.step hk6 e31 (fun t ht => by rw [ht]; simp)
        have hs5 := hb5.size
        clear hC5 hK5 hk6 hm6 hc6 hes5 hes hlk hC4 hK14 hb5 hS hOo hR hM hF ltP kX4
        have hown6 := own_kept hown fun g hg => hK6.block g (own_ltg hown hg) (by rw [htag g hg]; exact fun h => h rfl)
        (refine Ga ?_)
        (apply Lst_slit; (focus rfl); (focus rfl); (focus rfl); (focus rfl); (focus rfl); (focus rfl); (focus rfl); (focus rfl); (focus rfl); (focus (repeat (first | apply FillO.nil | (apply FillO.cons; (focus constructor); (focus rfl); (focus rfl); (focus (repeat constructor)))))); (focus ((try simp only [Sx.sizes]); first | done | rfl)); (focus rfl))
        (refine Ga ?_)
        obtain ⟨W7, hW7⟩ : ∃ W7, w6.alloc (.cells (.pointer (some ⟨w8.heap.size, 0, none⟩) :: [].append (List.replicate 0 [Value.pointer none]).flatten).toArray 73) = W7 := ⟨_, rfl⟩
        have hW7' : w6.alloc (.cells [.pointer (some ⟨w8.heap.size, 0, none⟩)].toArray 73) = W7 := hW7
        have hb7 : Below w6.heap.size w6 W7 := by rw [← hW7']; exact Bel
        have hs7 : W7.heap.size = w6.heap.size + 1 := by rw [← hW7']; simp only [Sx.sizes]
        have k7 : Blk W7 w6.heap.size [.pointer (some ⟨w8.heap.size, 0, none⟩)] 73 := by rw [← hW7']; exact (by (repeat (first | assumption | (apply Blk.below (hb := hb1); rotate_left; (focus ((try simp only [Sx.sizes]); omega)); rotate_right) | (apply Blk.below (hb := hb2); rotate_left; (focus ((try simp only [Sx.sizes]); omega)); rotate_right) | (apply Blk.below (hb := hb3); rotate_left; (focus ((try simp only [Sx.sizes]); omega)); rotate_right) | (apply Blk.below (hb := hb4); rotate_left; (focus ((try simp only [Sx.sizes]); omega)); rotate_right) | (apply Blk.below (hb := hb5); rotate_left; (focus ((try simp only [Sx.sizes]); omega)); rotate_right) | (apply Blk.below (hb := hb6); rotate_left; (focus ((try simp only [Sx.sizes]); omega)); rotate_right) | (apply Blk.below (hb := hb7); rotate_left; (focus ((try simp only [Sx.sizes]); omega)); rotate_right) | (apply Blk.below (hb := hb8); rotate_left; (focus ((try simp only [Sx.sizes]); omega)); rotate_right) | (apply Blk.below (hb := hb9); rotate_left; (focus ((try simp only [Sx.sizes]); omega)); rotate_right) | exact Blk.newE (by first | rfl | ((try simp only [Sx.sizes]); first | done | omega)) _ _ | exact Blk.put_same (by (try simp only [Sx.sizes]); first | done | omega) _ _ | (apply Blk.put_ne; (focus omega)) | apply Blk.alloc | apply Blk.drew)); done)
        rw [hW7]
        clear hW7 hW7'
        have hC7 := hC6.below hb7
        have hK7 := hK6.step (Kept.of (E := E3) (S := fun _ => False) hb7) e31 (fun t h => h.elim)
        have hown7 := own_kept hown6 fun g hg => hb7.block g (own_ltg hown6 hg)
        have hpx3' := hpx3
        apply Lst_appendAt (hown := hown7) (bytes := 8) (news := [pv E3 (nx cu).id])
        focus rfl
        focus rfl
        focus rfl
        focus rfl
        focus rfl
        focus rfl
        focus rfl
        focus rfl
        focus rfl
        focus (intro j u hu; rw [add_none, Nat.zero_add, k7.cell]; rw [hpx3'] at hu; exact hu)
        focus rfl
        focus (intro u hu; rw [List.mem_singleton.1 hu]; rfl)
        focus omega
        focus omega
        focus exact Nat.le_trans hkept.size (Nat.le_trans hK7.size (Nat.le_refl _))
        focus rfl
        intro v' w9 ho hg hat
        have hs9 := hg.size
        have hvt : ∀ g, (Value.slice va done.length vc).ownBlock = some g → E3.tg g = .other := fun g hgo => by
          have hlt := own_ltg hown hgo
          rw [e31 g hlt]
          exact htag g hgo
        have hC9 : Core w9 E3 ord rt _ _ _ := hC7.kept (S := fun t => t = .other) (.grown hg hvt) (fun t ht => ht)
        have hK7' : Kept E SA A W7 := hkept.step hK7 hold (fun t ht => ht)
        have hK9 : Kept E SA A w9 := hK7'.grownNew hg (fun g hgo => own_ge hown hgo)
        obtain ⟨x1, x2, x3, rfl⟩ := own_slice ho
        (refine Ga ?_)
        have e1x : E1.ad cu.id = E1.ad cu.id := rfl
        have hmap : (done.map (pv E1)) ++ [pv E3 (nx cu).id] = (done ++ [(nx cu).id]).map (pv E3) := by
          rw [List.map_append, List.map_singleton]
          congr 1
          refine List.map_congr_left fun j hj => ?_
          unfold pv
          rw [e3o j (fun e => hx (e ▸ hdn j hj))]
        refine rndQ_n (α := Ch) ⟨nx cu, i, fset (fset σ (nx cu).id ⟨nx cu, some cu.id, [], [], i + 1⟩) cu.id { σ cu.id with R := [(nx cu).id] }, (nx cu).id :: N1, (nx cu).id :: D1, E3, .slice x1 x2 x3, done ++ [(nx cu).id]⟩ ⟨hC9, hK9, e3p.trans hp, fun g hg => (e31 g (Nat.lt_of_lt_of_le hg hkept.size)).trans (hold g hg), fun g hg => ?_, ⟨?_, ?_, ?_, ?_, ?_, ?_⟩, List.mem_cons_self .., ?_, ?_, ?_, fun k hk hm => ?_, hrc, hnn, hdd, ?_, ?_, fun g hgo => ?_, fun j hj => ?_⟩ ⟨rfl, ?_, rfl, rfl, ?_, trivial⟩ (Nat.lt_succ_self _)
        · rw [e3t g (by omega), e2t g (by omega)]
          exact hfar1 g (by omega)
        · exact fun j hj => List.mem_cons_of_mem _ (hclo.ord j hj)
        · exact fun j hj => List.mem_cons_of_mem _ (hclo.rt j hj)
        · exact fun j hj => (List.mem_cons.1 hj).elim (fun e => e ▸ List.mem_cons_self ..) fun h => List.mem_cons_of_mem _ (hclo.D j h)
        · intro k hk j hj
          dsimp only at hk hj
          by_cases e1 : k = cu.id
          · subst e1
            rw [fset_same] at hj
            exact List.mem_cons_of_mem _ (hclo.L _ huN1 j hj)
          · rw [fset_ne e1] at hj
            by_cases e2 : k = (nx cu).id
            · subst e2
              rw [fset_same] at hj
              cases hj
            · rw [fset_ne e2] at hj
              exact List.mem_cons_of_mem _ (hclo.L _ ((List.mem_cons.1 hk).resolve_left e2) j hj)
        · intro k hk j hj
          dsimp only at hk hj
          by_cases e1 : k = cu.id
          · subst e1
            rw [fset_same] at hj
            rw [List.mem_singleton.1 hj]
            exact List.mem_cons_self ..
          · rw [fset_ne e1] at hj
            by_cases e2 : k = (nx cu).id
            · subst e2
              rw [fset_same] at hj
              cases hj
            · rw [fset_ne e2] at hj
              exact List.mem_cons_of_mem _ (hclo.R _ ((List.mem_cons.1 hk).resolve_left e2) j hj)
        · intro k hk j hj
          dsimp only at hk hj
          by_cases e1 : k = cu.id
          · subst e1
            rw [fset_same] at hj
            exact List.mem_cons_of_mem _ (hclo.par _ huN1 j hj)
          · rw [fset_ne e1] at hj
            by_cases e2 : k = (nx cu).id
            · subst e2
              rw [fset_same] at hj
              cases hj
              exact List.mem_cons_of_mem _ huN1
            · rw [fset_ne e2] at hj
              exact List.mem_cons_of_mem _ (hclo.par _ ((List.mem_cons.1 hk).resolve_left e2) j hj)
        · dsimp only
          rw [fset_ne (Ne.symm hxne), fset_same]
        · dsimp only
          rw [fset_ne (Ne.symm hxne), fset_same]
        · show cu.id.2 + 1 + i ≤ _
          omega
        · rcases List.mem_cons.1 hm with rfl | hm
          · have := (tow_mem hk).2.1
            exact Nat.lt_irrefl _ this
          · exact hnew k (by rw [towI_succ]; exact List.mem_cons_of_mem _ hk) hm
        · rw [← hal, towI_succ]
          simp
        · dsimp only
          rw [← hmap, List.length_append]
          exact ho
        · rcases hat with h | h
          · exact hvt g (by rw [← h]; exact hgo)
          · rw [h] at hgo
            cases hgo
            rw [e3t _ (by omega), e2t _ (by omega)]
            exact hfar1 _ (by omega)
        · rcases List.mem_append.1 hj with h | h
          · exact List.mem_cons_of_mem _ (hdn j h)
          · rw [List.mem_singleton.1 h]
            exact List.mem_cons_self ..
        · dsimp only
          rw [e3x]
          rfl
        · exact congrArg (Value.int .i64) (by dsimp only; omega)
    · rintro J ⟨cu, i, σ, N1, D1, E1, v, done⟩ A' ⟨hI, hs0⟩
      dsimp only at hs0 ⊢
      subst hs0
      obtain ⟨hcore, hkept, hp, hold, hfar1, hclo, huN1, huu, huR, hclk1, hnew1, hrc, hnn, hdd, hal, hown, htag, hdn⟩ := hI
      dsimp only at *
      have hrc' : σ = towR ρ1 u m := hrc
      have hnn' : N1 = towL N u m := hnn
      have hdd' : D1 = towL D u m := hdd
      have hal' : done = towI u m := by rw [← hal]; exact (List.append_nil _).symm
      subst hrc' hnn' hdd' hal'
      rw [tow_len] at hown
      have hK' := hK.trans hkept
      clear hnew hnew1 hrc hnn hdd hal h3 hc hc1 huR hclo hdn hn
      obtain ⟨_, hown2⟩ := hown
      rcases hown2 with ⟨_, h0⟩ | ⟨g, cap, cur, rfl, hbg, hg, hnc, hcm, hcs, htk⟩
      · omega
      rw [Nat.mul_one] at hcs htk
      have hcur : Blk A' g cur.toList 73 := by
        unfold Blk
        rw [Array.toArray_toList]
        exact hg
      obtain ⟨so, sr, fresh, mm, hS, hOo, hR2, hM, hF⟩ := id hcore.seq
      rw [hp] at hS
      have hrowO := hOo
      obtain ⟨oa, oc, rfl, hac, hat⟩ := hOo.at
      clear hat
      (refine Ga ?_)
      (apply Lst_call; (focus rfl); (focus rfl))
      refine (c_Ins 0 ord.length (ord.idxOf u.id + 1) m _ _ (ord.map (pv E1)) ((towI u m).map (pv E1)) cur.toList g 0 cap 73 (by omega) hm0 (by omega) A' hrowO.own (Nat.zero_le _) rfl (by rw [List.length_map, tow_len]) hcur (fun j u hu => by
        rw [← htk, List.getElem?_take] at hu
        rw [Nat.zero_add]
        split at hu
        · exact hu
        · cases hu) (fun u hu => by obtain ⟨q, _, rfl⟩ := List.mem_map.1 hu; rfl) (fun u hu => by obtain ⟨q, _, rfl⟩ := List.mem_map.1 hu; rfl) (fun hg => by have h1 := hrowO.tag _ hg; rw [htag g rfl] at h1; cases h1)).mono ?_
      rintro v w4 ⟨ho, hg4, hb4⟩
      obtain ⟨E2, hE2, hrow4, hkp⟩ := row_insL (ns := towI u m) hrowO (by rw [tow_len]; exact ho) (by omega) hg4 hb4
      obtain ⟨v1, v2, v3, rfl⟩ := own_slice hrow4.own
      have hC4 := hcore.ext hE2 (Nat.le_refl _)
      clear hrowO ho hg4 hb4 hS hOo hR2 hM hF
      obtain ⟨so, sr, fresh, mm, hS, hOo, hR2, hM, hF⟩ := id hC4.seq
      have hS4 := hkp.blk hS (by rw [hC4.tp]; simp)
      have ht4 := hC4.tp
      rw [hE2.p, hp] at hS4 ht4
      have hl4 := hS4.lt
      (refine Ga ?_)
      have hkq : Kept E2 (fun t => t = .seq ∨ t = .order) A' ((w4.putObj E.p (.cells [.map (some E2.ma), .slice v1 v2 v3, sr, .map (some E2.mt), .bool fresh].toArray 71)).putObj E.p (.cells [.map (some E2.ma), .slice v1 v2 v3, sr, .map (some E2.mt), .bool false].toArray 71)) :=
        ((hkp.mono fun t ht => .inr ht).trans (.put _ (.inl ht4) _)).trans (.put _ (.inl ht4) _)
      have hfin : Core ((w4.putObj E.p (.cells [.map (some E2.ma), .slice v1 v2 v3, sr, .map (some E2.mt), .bool fresh].toArray 71)).putObj E.p (.cells [.map (some E2.ma), .slice v1 v2 v3, sr, .map (some E2.mt), .bool false].toArray 71)) E2 (ord.take (ord.idxOf u.id + 1) ++ towI u m ++ ord.drop (ord.idxOf u.id + 1)) rt (towL N u m) (towL D u m) (towR ρ1 u m) :=
        hC4.updSeq hkq (fun t ht => ht.elim (fun h => .inr (.inl h)) (fun h => .inr (.inr (.inl h)))) ⟨.slice v1 v2 v3, sr, false, mm, by rw [hE2.p, hp]; exact Blk.put_same (by rw [World.putObj_size]; exact hl4) _ _,
          ((Kept.put (S := fun t => t = .seq) _ ht4 _).trans (Kept.put (S := fun t => t = .seq) _ ht4 _)).row hrow4 (by simp), hkq.row hR2 (by simp), hkq.map hM (by rw [hC4.tmt]; simp), fun e => by cases e⟩
      have hKf := hkept.step hkq (fun g hg => (hE2.old g (Nat.lt_of_lt_of_le hg hkept.size)).trans (hold g hg)) (fun t ht => by rcases ht with rfl | rfl <;> simp)
      refine retQ0n ⟨rfl, E2, hE2.p.trans hp, fun g hg => ?_, fun g hg => ?_, hK.trans hKf, hfin⟩
      · have hgA := Nat.lt_of_lt_of_le hg hK.size
        exact (hE2.old g (Nat.lt_of_lt_of_le hgA hkept.size)).trans (hold g hgA)
      · rw [World.putObj_size, World.putObj_size] at hg
        have hs4 := hkp.size
        exact (hE2.far g hg).trans (hfar1 g (by omega))
end Sq
end Go.Proofs.Ytmammcgdjjldbaa
