/- A view's runs, plainly: unit by unit. -/
import Derived.Test.YtglfoofclicfpaaDoorVwM
namespace Go.Proofs.YtglfoofclicfpaaDoor
set_option maxRecDepth 100000
namespace Vw
open Go Go.RowKit Sx Fl Val Mk
open Utf (rs tl Tabs cutS)
structure Rn where
  tx : ByteArray
  em : Bool
  v : Vl
  ms : List Mk
abbrev clM (q : Mk) : Mk := (q.1, cleanV q.2)
/-- A run, its values cleaned. -/
def cl (r : Rn) : Rn := { r with v := cleanV r.v, ms := r.ms.map clM }
/-- A unit: a rune or an embed, with its marks, cleaned. -/
inductive Un where
  | ch (c : Int) (m : List Mk)
  | emb (v : Vl) (m : List Mk)
def usR (r : Rn) : List Un := if r.em then [.emb (cleanV r.v) (r.ms.map clM)] else (rs (tl r.tx)).map fun c => .ch c (r.ms.map clM)
def us (L : List Rn) : List Un := L.flatMap usR
def zeroV : Vl := ⟨0, 0, 0, ⟨#[]⟩⟩
structure OkR (r : Rn) : Prop where
  val : Lib.validD (tl r.tx) = true
  em : r.em = true → r.tx = ⟨#[]⟩
  ok : okV r.v = true
  fit : r.v.Fit
  nz : r.em = false → r.v = zeroV
  ms : ∀ q ∈ r.ms, okV q.2 = true ∧ q.2.Fit
def Ne (r : Rn) : Prop := r.em = true ∨ rs (tl r.tx) ≠ []
def Joins (q r : Rn) : Prop := q.em = false ∧ r.em = false ∧ q.ms.map clM = r.ms.map clM
def Neat : List Rn → Prop
  | [] => True
  | [r] => Ne r
  | r :: s :: l => Ne r ∧ ¬ Joins r s ∧ Neat (s :: l)
theorem clean_clean (x : Vl) : cleanV (cleanV x) = cleanV x := by
  unfold cleanV
  dsimp only
  congr 1
  unfold nbits
  cases h : isNaN x.f with
  | true => simp only [if_true]; rw [if_pos (by decide)]
  | false => simp [h]
theorem clM_clM (q : Mk) : clM (clM q) = clM q := Prod.ext rfl (clean_clean q.2)
theorem map_clM (l : List Mk) : (l.map clM).map clM = l.map clM := by
  rw [List.map_map]
  exact List.map_congr_left fun q _ => clM_clM q
theorem cl_cl (r : Rn) : cl (cl r) = cl r := by
  unfold cl
  dsimp only
  rw [clean_clean, map_clM]
theorem usR_cl (r : Rn) : usR (cl r) = usR r := by
  unfold usR cl
  dsimp only
  rw [clean_clean, map_clM]
theorem us_cl : ∀ L : List Rn, us (L.map cl) = us L
  | [] => rfl
  | r :: L => by
    show usR (cl r) ++ us (L.map cl) = usR r ++ us L
    rw [usR_cl, us_cl L]
theorem us_append (a b : List Rn) : us (a ++ b) = us a ++ us b := List.flatMap_append
theorem us_one (r : Rn) : us [r] = usR r := by unfold us; rw [List.flatMap_cons, List.flatMap_nil, List.append_nil]
theorem sameM_cl {x y : Mk} (hx : x.2.Fit) (hy : y.2.Fit) : sameM x y = true ↔ clM x = clM y := by
  unfold sameM
  rw [Bool.and_eq_true, decide_eq_true_eq, decide_eq_true_eq, cmpV_zero hx.f1 hy.f1]
  constructor
  · rintro ⟨h1, h2, h3, h4, h5⟩
    refine Prod.ext h1 (show cleanV x.2 = cleanV y.2 from ?_)
    unfold cleanV
    simp only [Vl.mk.injEq]
    exact ⟨h2, h3, h4, h5⟩
  · intro h
    have h1 := congrArg Prod.fst h
    have h2 : cleanV x.2 = cleanV y.2 := congrArg Prod.snd h
    unfold cleanV at h2
    simp only [Vl.mk.injEq] at h2
    exact ⟨h1, h2.1, h2.2.1, h2.2.2.1, h2.2.2.2⟩
theorem sameL_cl : ∀ {l m : List Mk}, (∀ q ∈ l, q.2.Fit) → (∀ q ∈ m, q.2.Fit) → (sameL l m = true ↔ l.map clM = m.map clM)
  | [], [], _, _ => ⟨fun _ => rfl, fun _ => rfl⟩
  | x :: l, y :: m, hl, hm => by
    unfold sameL
    rw [Bool.and_eq_true, sameM_cl (hl x List.mem_cons_self) (hm y List.mem_cons_self), sameL_cl (fun q h => hl q (List.mem_cons_of_mem _ h)) (fun q h => hm q (List.mem_cons_of_mem _ h)), List.map_cons, List.map_cons, List.cons.injEq]
  | [], _ :: _, _, _ => ⟨fun h => (by cases h), fun h => (by cases h)⟩
  | _ :: _, [], _, _ => ⟨fun h => (by cases h), fun h => (by cases h)⟩
/-- Are two runs alike? -/
def sameR (x y : Rn) : Bool := decide (x.em = y.em) && (decide (x.tx = y.tx) && (decide (cmpV x.v y.v = 0) && sameL x.ms y.ms))
theorem sameR_cl {x y : Rn} (hx : OkR x) (hy : OkR y) : sameR x y = true ↔ cl x = cl y := by
  unfold sameR
  rw [Bool.and_eq_true, Bool.and_eq_true, Bool.and_eq_true, decide_eq_true_eq, decide_eq_true_eq, decide_eq_true_eq, cmpV_zero hx.fit.f1 hy.fit.f1, sameL_cl (fun q h => (hx.ms q h).2) (fun q h => (hy.ms q h).2)]
  unfold cl cleanV
  simp only [Rn.mk.injEq, Vl.mk.injEq]
  constructor
  · rintro ⟨h1, h2, ⟨h3, h4, h5, h6⟩, h7⟩
    exact ⟨h2, h1, ⟨h3, h4, h5, h6⟩, h7⟩
  · rintro ⟨h2, h1, ⟨h3, h4, h5, h6⟩, h7⟩
    exact ⟨h1, h2, ⟨h3, h4, h5, h6⟩, h7⟩
theorem rs_inj {s t : ByteArray} (hs : Lib.validD (tl s) = true) (ht : Lib.validD (tl t) = true) (h : rs (tl s) = rs (tl t)) : s = t := by
  have h1 := Utf.enc_rs hs
  have h2 := Utf.enc_rs ht
  rw [h, h2] at h1
  exact Utf.bytes_ext h1.symm
theorem Neat.tail {r : Rn} {L : List Rn} (h : Neat (r :: L)) : Neat L := by
  cases L with
  | nil => trivial
  | cons s L => exact h.2.2
theorem Neat.head {r : Rn} {L : List Rn} (h : Neat (r :: L)) : Ne r := by
  cases L with
  | nil => exact h
  | cons s L => exact h.1
theorem Ne.us {r : Rn} (h : Ne r) : usR r ≠ [] := by
  unfold usR
  split
  · exact List.cons_ne_nil _ _
  · rename_i he
    rcases h with h | h
    · exact absurd h he
    · intro e
      exact h (List.map_eq_nil_iff.1 e)
/-- What a neat list begins with, unit and marks. -/
theorem neat_nil {L : List Rn} (h : Neat L) (hu : us L = []) : L = [] := by
  cases L with
  | nil => rfl
  | cons r L =>
    have := h.head.us
    rw [show us (r :: L) = usR r ++ us L from rfl, List.append_eq_nil_iff] at hu
    exact absurd hu.1 this
theorem usR_text {r : Rn} (h : r.em = false) : usR r = (rs (tl r.tx)).map fun c => .ch c (r.ms.map clM) := by unfold usR; rw [if_neg (by rw [h]; simp)]
theorem usR_emb {r : Rn} (h : r.em = true) : usR r = [.emb (cleanV r.v) (r.ms.map clM)] := by unfold usR; rw [if_pos h]
theorem map_pre {m : List Mk} : ∀ {R S : List Int} {A B : List Un}, R.map (Un.ch · m) ++ A = S.map (Un.ch · m) ++ B → (∃ T, S = R ++ T ∧ A = T.map (Un.ch · m) ++ B) ∨ (∃ T, R = S ++ T ∧ B = T.map (Un.ch · m) ++ A)
  | [], S, A, B, h => .inl ⟨S, rfl, h⟩
  | R, [], A, B, h => .inr ⟨R, rfl, h.symm⟩
  | c :: R, d :: S, A, B, h => by
    rw [List.map_cons, List.map_cons, List.cons_append, List.cons_append, List.cons.injEq, Un.ch.injEq] at h
    obtain ⟨⟨rfl, _⟩, h⟩ := h
    rcases map_pre h with ⟨T, h1, h2⟩ | ⟨T, h1, h2⟩
    · exact .inl ⟨T, by rw [h1]; rfl, h2⟩
    · exact .inr ⟨T, by rw [h1]; rfl, h2⟩
/-- Behind a text run of a neat list there is no unit of its marks that is a rune. -/
theorem neat_stop {r : Rn} {L : List Rn} (h : Neat (r :: L)) (he : r.em = false) {c : Int} {A : List Un} (hu : us L = .ch c (r.ms.map clM) :: A) : False := by
  cases L with
  | nil => cases hu
  | cons s L =>
    obtain ⟨_, hj, hn⟩ := h
    cases hs : s.em with
    | true =>
      rw [show us (s :: L) = usR s ++ us L from rfl, usR_emb hs] at hu
      cases hu
    | false =>
      rw [show us (s :: L) = usR s ++ us L from rfl, usR_text hs] at hu
      have hne : rs (tl s.tx) ≠ [] := by
        rcases hn.head with h | h
        · rw [hs] at h; cases h
        · exact h
      obtain ⟨d, R, hR⟩ : ∃ d R, rs (tl s.tx) = d :: R := by
        cases hq : rs (tl s.tx) with
        | nil => exact absurd hq hne
        | cons d R => exact ⟨d, R, rfl⟩
      rw [hR, List.map_cons, List.cons_append, List.cons.injEq, Un.ch.injEq] at hu
      exact hj ⟨he, hs, hu.1.2.symm⟩
/-- Two neat lists of the same units are the same. -/
theorem neat_unique : ∀ {a b : List Rn}, (∀ r ∈ a, OkR r) → (∀ r ∈ b, OkR r) → Neat a → Neat b → us a = us b → a.map cl = b.map cl
  | [], b, _, _, _, nb, h => by rw [neat_nil nb h.symm]
  | a, [], _, _, na, _, h => by rw [neat_nil na h]
  | r :: a, s :: b, ha, hb, na, nb, h => by
    have or := ha r List.mem_cons_self
    have os := hb s List.mem_cons_self
    have ih := neat_unique (a := a) (b := b) (fun x hx => ha x (List.mem_cons_of_mem _ hx)) (fun x hx => hb x (List.mem_cons_of_mem _ hx)) na.tail nb.tail
    rw [show us (r :: a) = usR r ++ us a from rfl, show us (s :: b) = usR s ++ us b from rfl] at h
    have fin : cl r = cl s → us a = us b → (r :: a).map cl = (s :: b).map cl := fun e1 e2 => by rw [List.map_cons, List.map_cons, e1, ih e2]
    cases hr : r.em with
    | true =>
      rw [usR_emb hr] at h
      cases hs : s.em with
      | true =>
        rw [usR_emb hs, List.singleton_append, List.singleton_append, List.cons.injEq, Un.emb.injEq] at h
        obtain ⟨⟨h1, h2⟩, h3⟩ := h
        refine fin ?_ h3
        unfold cl
        rw [h1, h2, hr, hs, or.em hr, os.em hs]
      | false =>
        rw [usR_text hs] at h
        have hne : rs (tl s.tx) ≠ [] := by
          rcases nb.head with h | h
          · rw [hs] at h; cases h
          · exact h
        cases hq : rs (tl s.tx) with
        | nil => exact absurd hq hne
        | cons d R => rw [hq] at h; cases h
    | false =>
      have hne : rs (tl r.tx) ≠ [] := by
        rcases na.head with h | h
        · rw [hr] at h; cases h
        · exact h
      rw [usR_text hr] at h
      cases hs : s.em with
      | true =>
        rw [usR_emb hs] at h
        cases hq : rs (tl r.tx) with
        | nil => exact absurd hq hne
        | cons d R => rw [hq] at h; cases h
      | false =>
        have hne2 : rs (tl s.tx) ≠ [] := by
          rcases nb.head with h | h
          · rw [hs] at h; cases h
          · exact h
        rw [usR_text hs] at h
        have hm : r.ms.map clM = s.ms.map clM := by
          cases hq : rs (tl r.tx) with
          | nil => exact absurd hq hne
          | cons d R =>
            cases hp : rs (tl s.tx) with
            | nil => exact absurd hp hne2
            | cons e S =>
              rw [hq, hp, List.map_cons, List.map_cons, List.cons_append, List.cons_append, List.cons.injEq, Un.ch.injEq] at h
              exact h.1.2
        rw [hm] at h
        rcases map_pre h with ⟨T, h1, h2⟩ | ⟨T, h1, h2⟩
        · cases T with
          | nil =>
            rw [List.append_nil] at h1
            refine fin ?_ h2
            unfold cl
            rw [hm, hr, hs, or.nz hr, os.nz hs, rs_inj os.val or.val h1]
          | cons c T =>
            rw [List.map_cons, List.cons_append, ← hm] at h2
            exact (neat_stop na hr h2).elim
        · cases T with
          | nil =>
            rw [List.append_nil] at h1
            refine fin ?_ h2.symm
            unfold cl
            rw [hm, hr, hs, or.nz hr, os.nz hs, rs_inj or.val os.val h1]
          | cons c T =>
            rw [List.map_cons, List.cons_append] at h2
            exact (neat_stop nb hs h2).elim
/-- Two lists alike, run by run. -/
theorem neat_snoc : ∀ {L : List Rn} {r : Rn}, Neat L → Ne r → (∀ q, L.getLast? = some q → ¬ Joins q r) → Neat (L ++ [r])
  | [], _, _, hr, _ => hr
  | [q], r, hq, hr, hj => ⟨hq, hj q rfl, hr⟩
  | _ :: s :: L, _, h, hr, hj => ⟨h.1, h.2.1, neat_snoc (L := s :: L) h.2.2 hr fun x hx => hj x (by rw [List.getLast?_cons_cons]; exact hx)⟩
theorem neat_grow : ∀ {L : List Rn} {q : Rn} {t : ByteArray}, q.em = false → rs (tl t) ≠ [] → Neat (L ++ [q]) → Neat (L ++ [{ q with tx := t }])
  | [], _, _, _, ht, _ => .inr ht
  | [_], _, _, _, ht, h => ⟨h.1, fun hj => h.2.1 ⟨hj.1, hj.2.1, hj.2.2⟩, .inr ht⟩
  | _ :: s :: L, _, _, hq, ht, h => ⟨h.1, h.2.1, neat_grow (L := s :: L) hq ht h.2.2⟩
theorem neat_last {L : List Rn} {q : Rn} (h : Neat (L ++ [q])) : Ne q := by
  induction L with
  | nil => exact h
  | cons r L ih => exact ih (Neat.tail h)
end Vw
end Go.Proofs.YtglfoofclicfpaaDoor
