/- Plain: what two know of one another. -/
import Derived.Test.YtoljcnlmockpcaaAwP2
namespace Go.Proofs.Ytoljcnlmockpcaa
set_option maxRecDepth 100000
namespace Aw
open Go Go.RowKit Sx Wire
/-- What is known of a client. -/
def Awr.pm (a : Awr) (c : Nat) : Option Pr := (lk a.es c).map (·.p)
def mx (x y : Option Pr) : Option Pr := match y with
  | none => x
  | some q => if q.k ≤ (match x with | some r => r.k | none => 0) then x else some q
def fp : List Pr → Nat → Option Pr
  | [], _ => none
  | p :: l, c => if p.c = c then some p else fp l c
theorem clock_pm {a : Awr} {c : Nat} (h : c ≠ a.client) : a.clock c = (match a.pm c with | some r => r.k | none => 0) := by
  unfold Awr.clock Awr.pm
  rw [if_neg h]
  cases lk a.es c with
  | none => rfl
  | some e => rfl
/-- Entries that others told. -/
structure Awr.Good (a : Awr) : Prop where
  srt : Srt a.es
  ok : ∀ e ∈ a.es, e.p.Ok ∧ e.p.c ≤ 900 ∧ 0 < e.p.c
  cl : 900 < a.client
theorem take1_pm {a : Awr} {p : Pr} (hs : Srt a.es) (hc : p.c ≠ a.client) (c : Nat) : (a.take1 p).1.pm c = if p.c = c then mx (a.pm c) (some p) else a.pm c := by
  by_cases hk : p.k ≤ a.clock p.c
  · rw [take1_old hk]
    by_cases e : p.c = c
    · subst e
      rw [if_pos rfl]
      show _ = (if p.k ≤ (match a.pm p.c with | some r => r.k | none => 0) then a.pm p.c else some p)
      rw [if_pos (by rw [← clock_pm hc]; exact hk)]
    · rw [if_neg e]
  · rw [take1_new hk hc]
    show ((lk (ins a.es ⟨p, a.now⟩) c).map (·.p)) = _
    rw [lk_ins _ _ _ hs]
    by_cases e : p.c = c
    · subst e
      rw [if_pos rfl, if_pos rfl]
      show _ = (if p.k ≤ (match a.pm p.c with | some r => r.k | none => 0) then a.pm p.c else some p)
      rw [if_neg (by rw [← clock_pm hc]; exact hk)]
      rfl
    · rw [if_neg e, if_neg e]
      rfl
theorem take1_good {a : Awr} {p : Pr} (h : a.Good) (hp : p.Ok) (h9 : p.c ≤ 900) (h0 : 0 < p.c) : (a.take1 p).1.Good ∧ (a.take1 p).1.client = a.client ∧ (a.take1 p).1.es.length ≤ a.es.length + 1 := by
  have hc : p.c ≠ a.client := by have := h.cl; omega
  by_cases hk : p.k ≤ a.clock p.c
  · rw [take1_old hk]
    exact ⟨h, rfl, Nat.le_succ _⟩
  · rw [take1_new hk hc]
    refine ⟨⟨ins_srt _ h.srt, fun e he => ?_, h.cl⟩, rfl, ins_len _ _⟩
    rcases ins_mem he with rfl | he
    · exact ⟨hp, h9, h0⟩
    · exact h.ok e he
theorem takeL_good : ∀ {l : List Pr} {a : Awr}, a.Good → (∀ p ∈ l, p.Ok ∧ p.c ≤ 900 ∧ 0 < p.c) → (a.takeL l).1.Good ∧ (a.takeL l).1.client = a.client ∧ (a.takeL l).1.es.length ≤ a.es.length + l.length
  | [], a, h, _ => ⟨h, rfl, Nat.le_refl _⟩
  | p :: l, a, h, hl => by
    obtain ⟨o1, o2, o3⟩ := hl p (by simp)
    obtain ⟨g1, g2, g3⟩ := take1_good h o1 o2 o3
    obtain ⟨k1, k2, k3⟩ := takeL_good (l := l) g1 fun q hq => hl q (by simp [hq])
    refine ⟨k1, k2.trans g2, ?_⟩
    show ((a.take1 p).1.takeL l).1.es.length ≤ _
    rw [List.length_cons]
    omega
theorem uvarint_pos' (n : Nat) : 1 ≤ (Lib.uvarint n).length := by
  rw [Lib.uvarint]; split <;> simp
theorem fp_cons (p : Pr) (l : List Pr) (c : Nat) : fp (p :: l) c = if p.c = c then some p else fp l c := rfl
theorem fp_none : ∀ {l : List Pr} {c : Nat}, (∀ q ∈ l, q.c ≠ c) → fp l c = none
  | [], _, _ => rfl
  | p :: l, c, h => by
    rw [fp_cons, if_neg (h p (by simp)), fp_none fun q hq => h q (by simp [hq])]
theorem takeL_pm : ∀ {l : List Pr} {a : Awr}, a.Good → (∀ p ∈ l, p.Ok ∧ p.c ≤ 900 ∧ 0 < p.c) → l.Pairwise (fun x y => x.c < y.c) → ∀ c, (a.takeL l).1.pm c = mx (a.pm c) (fp l c)
  | [], a, _, _, _, c => rfl
  | p :: l, a, h, hl, hs, c => by
    obtain ⟨o1, o2, o3⟩ := hl p (by simp)
    obtain ⟨g1, _, _⟩ := take1_good h o1 o2 o3
    have hp := List.pairwise_cons.1 hs
    have ih := takeL_pm g1 (fun q hq => hl q (by simp [hq])) hp.2 c
    have hc : p.c ≠ a.client := by have := h.cl; omega
    rw [take1_pm h.srt hc] at ih
    show ((a.take1 p).1.takeL l).1.pm c = _
    rw [ih, fp_cons]
    by_cases e : p.c = c
    · subst e
      rw [if_pos rfl, if_pos rfl, fp_none (fun q hq => by have := hp.1 q hq; omega)]
      rfl
    · rw [if_neg e, if_neg e]
theorem takeL_old : ∀ {l : List Pr} {a : Awr}, (∀ p ∈ l, p.k ≤ a.clock p.c) → a.takeL l = (a, false)
  | [], _, _ => rfl
  | p :: l, a, h => by
    show (((a.take1 p).1.takeL l).1, (a.take1 p).2 || ((a.take1 p).1.takeL l).2) = _
    rw [take1_old (h p (by simp)), takeL_old fun q hq => h q (by simp [hq])]
    rfl
theorem fp_es : ∀ (es : List En) (c : Nat), fp (es.map (·.p)) c = (lk es c).map (·.p)
  | [], _ => rfl
  | e :: es, c => by
    rw [List.map_cons, lk_cons, fp_cons]
    by_cases h : e.p.c = c
    · rw [if_pos h, if_pos h]; rfl
    · rw [if_neg h, if_neg h, fp_es es c]
theorem lk_lt : ∀ {es : List En} {c : Nat}, (∀ e ∈ es, c < e.p.c) → lk es c = none
  | [], _, _ => rfl
  | e :: es, c, h => by
    have := h e (by simp)
    rw [lk_cons, if_neg (by omega), lk_lt fun x hx => h x (by simp [hx])]
/-- Those who know the same of all tell the same. -/
theorem same_es : ∀ {es fs : List En}, Srt es → Srt fs → (∀ c, (lk es c).map (·.p) = (lk fs c).map (·.p)) → es.map (·.p) = fs.map (·.p)
  | [], [], _, _, _ => rfl
  | [], f :: fs, _, _, h => by
    have := h f.p.c
    rw [lk_cons, if_pos rfl] at this
    cases this
  | e :: es, [], _, _, h => by
    have := h e.p.c
    rw [lk_cons, if_pos rfl] at this
    cases this
  | e :: es, f :: fs, h1, h2, h => by
    have p1 := List.pairwise_cons.1 h1
    have p2 := List.pairwise_cons.1 h2
    have hc : e.p.c = f.p.c := by
      rcases Nat.lt_trichotomy e.p.c f.p.c with hlt | heq | hgt
      · have := h e.p.c
        rw [lk_cons, if_pos rfl, lk_cons, if_neg (by omega), lk_lt (fun x hx => by have := p2.1 x hx; omega)] at this
        cases this
      · exact heq
      · have := h f.p.c
        rw [lk_cons, if_neg (by omega), lk_lt (fun x hx => by have := p1.1 x hx; omega), lk_cons, if_pos rfl] at this
        cases this
    have hp : e.p = f.p := by
      have := h e.p.c
      rw [lk_cons, if_pos rfl, lk_cons, if_pos hc.symm] at this
      exact Option.some.inj this
    rw [List.map_cons, List.map_cons, hp]
    congr 1
    refine same_es p1.2 p2.2 fun c => ?_
    have := h c
    rw [lk_cons, lk_cons] at this
    by_cases hec : e.p.c = c
    · subst hec
      rw [lk_lt p1.1, hc, lk_lt p2.1]
    · rw [if_neg hec, if_neg (by omega)] at this
      exact this
theorem lk_mem : ∀ {es : List En} {c : Nat} {e : En}, lk es c = some e → e ∈ es ∧ e.p.c = c
  | [], _, _, h => by cases h
  | x :: es, c, e, h => by
    rw [lk_cons] at h
    by_cases hx : x.p.c = c
    · rw [if_pos hx] at h
      cases h
      exact ⟨by simp, hx⟩
    · rw [if_neg hx] at h
      have := lk_mem h
      exact ⟨by simp [this.1], this.2⟩
def Cons (a b : Awr) : Prop := ∀ e ∈ a.es, ∀ f ∈ b.es, e.p.c = f.p.c → e.p.k = f.p.k → e.p = f.p
theorem es_good {a : Awr} (h : a.Good) : (∀ p ∈ a.es.map (·.p), p.Ok ∧ p.c ≤ 900 ∧ 0 < p.c) ∧ (a.es.map (·.p)).Pairwise (fun x y => x.c < y.c) := by
  refine ⟨fun p hp => ?_, List.Pairwise.map _ (fun _ _ h => h) h.srt⟩
  obtain ⟨e, he, rfl⟩ := List.mem_map.1 hp
  exact h.ok e he
theorem Oks_of : ∀ {l : List Pr} {last : Nat}, (∀ p ∈ l, p.Ok) → (∀ p ∈ l, last < p.c) → l.Pairwise (fun x y => x.c < y.c) → Oks last l
  | [], _, _, _, _ => trivial
  | p :: l, last, h1, h2, h3 => by
    have hp := List.pairwise_cons.1 h3
    exact ⟨h2 p (by simp), h1 p (by simp), Oks_of (fun q hq => h1 q (by simp [hq])) hp.1 hp.2⟩
/-- What they tell one another. -/
theorem all_take {a b : Awr} (hb : b.Good) (hl : b.es.length < 100000000) : a.take (wrL (b.es.map (·.p))) = ((a.takeL (b.es.map (·.p))).1, (a.takeL (b.es.map (·.p))).2, 0) := by
  have h := es_good hb
  exact take_wr a _ (Oks_of (fun p hp => (h.1 p hp).1) (fun p hp => (h.1 p hp).2.2) h.2) (by rw [List.length_map]; omega)
theorem both_same {a b : Awr} (ha : a.Good) (hb : b.Good) (hc : Cons a b) :
    (b.takeL ((a.takeL (b.es.map (·.p))).1.es.map (·.p))).1.es.map (·.p) = (a.takeL (b.es.map (·.p))).1.es.map (·.p) := by
  have eb := es_good hb
  have ga := (takeL_good ha eb.1).1
  have ea := es_good ga
  have gb := (takeL_good hb ea.1).1
  refine same_es gb.srt ga.srt fun c => ?_
  have m1 := takeL_pm ha eb.1 eb.2 c
  have m2 := takeL_pm hb ea.1 ea.2 c
  rw [fp_es] at m1 m2
  show (b.takeL _).1.pm c = (a.takeL _).1.pm c
  rw [m2]
  show mx (b.pm c) ((a.takeL (b.es.map (·.p))).1.pm c) = _
  rw [m1]
  show mx (b.pm c) (mx (a.pm c) (b.pm c)) = mx (a.pm c) (b.pm c)
  have pos : ∀ (x : Awr), x.Good → ∀ r, x.pm c = some r → 0 < r.k ∧ ∃ e ∈ x.es, e.p = r ∧ e.p.c = c := by
    intro x hx r hr
    unfold Awr.pm at hr
    cases hl : lk x.es c with
    | none => rw [hl] at hr; cases hr
    | some e =>
      rw [hl] at hr
      cases hr
      have := lk_mem hl
      exact ⟨(hx.ok e this.1).1.2.1, e, this.1, rfl, this.2⟩
  cases hy : b.pm c with
  | none =>
    show mx none (a.pm c) = a.pm c
    cases hx : a.pm c with
    | none => rfl
    | some r =>
      have := (pos a ha r hx).1
      show (if r.k ≤ 0 then none else some r) = some r
      rw [if_neg (by omega)]
  | some q =>
    have hq := pos b hb q hy
    have hin : mx (a.pm c) (some q) = if q.k ≤ (match a.pm c with | some r => r.k | none => 0) then a.pm c else some q := rfl
    rw [hin]
    by_cases hk : q.k ≤ (match a.pm c with | some r => r.k | none => 0)
    · rw [if_pos hk]
      cases hx : a.pm c with
      | none => rw [hx] at hk; have : q.k ≤ 0 := hk; omega
      | some r =>
        rw [hx] at hk
        have hk : q.k ≤ r.k := hk
        show (if r.k ≤ q.k then some q else some r) = some r
        by_cases h2 : r.k ≤ q.k
        · rw [if_pos h2]
          obtain ⟨_, e, he, hep, hec⟩ := pos a ha r hx
          obtain ⟨_, f, hf, hfp, hfc⟩ := hq
          have := hc e he f hf (by rw [hec, hfc]) (by rw [hep, hfp]; omega)
          rw [← hep, ← hfp, this]
        · rw [if_neg h2]
    · rw [if_neg hk]
      show (if q.k ≤ q.k then some q else some q) = some q
      rw [if_pos (Nat.le_refl _)]
/-- Nothing new. -/
theorem take_self {a : Awr} (ha : a.Good) : a.takeL (a.es.map (·.p)) = (a, false) := by
  refine takeL_old fun p hp => ?_
  obtain ⟨e, he, rfl⟩ := List.mem_map.1 hp
  obtain ⟨i, hi, rfl⟩ := List.getElem_of_mem he
  have hne : a.es[i].p.c ≠ a.client := by have := (ha.ok _ he).2.1; have := ha.cl; omega
  have hl : lk a.es a.es[i].p.c = some a.es[i] := lk_at ha.srt hi
  unfold Awr.clock
  rw [if_neg hne, hl]
  exact Nat.le_refl _
theorem wrs_bound : ∀ {l : List Pr}, (∀ p ∈ l, p.Ok) → (wrs l).length ≤ 300 * l.length
  | [], _ => Nat.le_refl _
  | p :: l, h => by
    have ih := wrs_bound (l := l) fun q hq => h q (by simp [hq])
    have h1 := wrL_one_len p (h p (by simp))
    have h2 := uvarint_pos' 1
    have h3 : (wrL [p]).length = (Lib.uvarint 1).length + (wrP p).length := by
      unfold wrL wrs wrs
      rw [List.length_append, List.append_nil]
      rfl
    show (wrP p ++ wrs l).length ≤ _
    rw [List.length_append, List.length_cons]
    omega
theorem wrL_bound {l : List Pr} (h : ∀ p ∈ l, p.Ok) (hl : l.length ≤ 3000) : (wrL l).length ≤ 100000000 := by
  have h1 := wrs_bound h
  have h2 := Lib.uvarint_length64 (show l.length < 18446744073709551616 by omega)
  unfold wrL
  rw [List.length_append]
  omega
/-- A number above the bound is not read. -/
theorem rdU_over (most : Nat) (more : List UInt8) : ∀ (m i n : Nat), most < n + m * 2 ^ (7 * i) → rdU most i n (Lib.uvarint m ++ more) = none := by
  intro m
  induction m using Nat.strongRecOn with
  | ind m ih =>
  intro i n hmo
  by_cases hb : m < 128
  · rw [Lib.uvarint_small hb, List.cons_append, List.nil_append, rdU]
    have e : m.toUInt8.toNat = m := by simp; omega
    have e2 : m % 128 = m := by omega
    rw [e, e2]
    by_cases h9 : i = 9 ∧ 1 < m
    · rw [if_pos h9]
    rw [if_neg h9, if_neg (by omega)]
    by_cases h0 : m = 0 ∧ 0 < i
    · rw [if_pos h0]
    rw [if_neg h0, if_pos hmo]
  · rw [Lib.uvarint_big (by omega), List.cons_append, rdU]
    have e : (m % 128 + 128).toUInt8.toNat = m % 128 + 128 := by simp; omega
    rw [e]
    by_cases h9 : i = 9 ∧ 1 < m % 128 + 128
    · rw [if_pos h9]
    rw [if_neg h9, if_pos (by omega)]
    have hp : 2 ^ (7 * (i + 1)) = 128 * 2 ^ (7 * i) := by rw [Nat.mul_succ, Nat.pow_add, Nat.mul_comm]
    have hq : m / 128 * 2 ^ (7 * (i + 1)) + m % 128 * 2 ^ (7 * i) = m * 2 ^ (7 * i) := by
      rw [hp, ← Nat.mul_assoc, ← Nat.add_mul]
      congr 1
      omega
    have e3 : (m % 128 + 128) % 128 = m % 128 := by omega
    rw [e3]
    exact ih (m / 128) (by omega) (i + 1) (n + m % 128 * 2 ^ (7 * i)) (by omega)
theorem mUint_over (most m : Nat) (more : List UInt8) (h : most < m) : mUint most (some (Lib.uvarint m ++ more)) = (0, none) := by
  have := rdU_over most more m 0 0 (by simpa using h)
  unfold mUint
  show (match rdU most 0 0 (Lib.uvarint m ++ more) with | some (n, l) => (n, some l) | none => (0, none)) = _
  rw [this]
def Pr.Right (p : Pr) : Prop := 0 < p.c ∧ 0 < p.k ∧ p.k ≤ 9007199254740991
instance (p : Pr) : Decidable p.Right := by unfold Pr.Right; infer_instance
structure Pr.Fine (p : Pr) : Prop where
  c : p.c ≤ 900
  k : p.k < 18446744073709551616
  s : p.s.size ≤ 256
  g : p.g = true → p.s = ⟨#[]⟩
theorem Pr.Fine.ok {p : Pr} (h : p.Fine) (hr : p.Right) : p.Ok := ⟨by have := h.c; omega, hr.2.1, hr.2.2, h.s, h.g⟩
theorem Pr.Fine.fit {p : Pr} (h : p.Fine) : p.Fit := ⟨by have := h.c; omega, h.k, by have := h.s; omega⟩
theorem rd_bad {p : Pr} (h : p.Fine) (hr : ¬ p.Right) : rdL (wrL [p]) = none := by
  have h1 := wrs_len [p]
  have c1 := mUint_uvarint (wrL [p]).length 1 (wrs [p]) (by unfold wrL; rw [List.length_append, List.length_singleton] at *; omega) (by omega)
  have hw : wrs [p] = wrP p := by unfold wrs wrs; rw [List.append_nil]
  have hn : rdP 0 (some (wrs [p])) = none := by
    rw [hw]
    unfold wrP rdP
    have c2 := mUint_uvarint 9007199254740991 p.c (Lib.uvarint p.k ++ ((if p.g then 1 else 0) :: (Lib.uvarint p.s.size ++ p.s.data.toList))) (by have := h.c; omega) (by have := h.c; omega)
    simp only [c2]
    by_cases h0 : p.c = 0
    · rw [if_pos (Or.inl (by omega))]
    by_cases hk : p.k ≤ 9007199254740991
    · have c3 := mUint_uvarint 9007199254740991 p.k ((if p.g then 1 else 0) :: (Lib.uvarint p.s.size ++ p.s.data.toList)) hk (by omega)
      simp only [c3]
      have : p.k = 0 := by
        unfold Pr.Right at hr
        omega
      rw [if_pos (Or.inr (Or.inl this))]
    · have c3 := mUint_over 9007199254740991 p.k ((if p.g then 1 else 0) :: (Lib.uvarint p.s.size ++ p.s.data.toList)) (by omega)
      simp only [c3]
      rw [if_pos (Or.inr (Or.inl trivial))]
  unfold rdL
  rw [show Lib.uvarint 1 ++ wrs [p] = wrL [p] from rfl] at c1
  rw [c1]
  show (match rdN 1 0 (some (wrs [p])) with | some (ps, some []) => some ps | _ => none) = none
  have : rdN 1 0 (some (wrs [p])) = none := by
    show (match rdP 0 (some (wrs [p])) with | none => none | some (q, s) => match rdN 0 q.c s with | none => none | some (ps, s') => some (q :: ps, s')) = none
    rw [hn]
  rw [this]
/-- What is taken of one entry's bytes. -/
theorem take_fine (a : Awr) {p : Pr} (h : p.Fine) : (a.take (wrL [p])).1 = if p.Right then (a.take1 p).1 else a := by
  by_cases hr : p.Right
  · rw [if_pos hr, take_one a p (h.ok hr) hr.1]
  · rw [if_neg hr]
    unfold Awr.take
    rw [rd_bad h hr]
/-- One who is gone has no state. -/
def nm (p : Pr) : Pr := if p.g then { p with s := ⟨#[]⟩ } else p
theorem nm_c (p : Pr) : (nm p).c = p.c := by unfold nm; split <;> rfl
theorem nm_k (p : Pr) : (nm p).k = p.k := by unfold nm; split <;> rfl
theorem nm_gone {p : Pr} (h : p.g = true) : nm p = { p with s := ⟨#[]⟩ } := if_pos h
theorem nm_here {p : Pr} (h : p.g = false) : nm p = p := if_neg (by rw [h]; decide)
def Okp (p : Pr) : Prop := p.c ≤ 900 ∧ p.s.size ≤ 256
theorem nm_fine {p : Pr} (h : Okp p) (hk : p.k < 18446744073709551616) : (nm p).Fine := by
  refine ⟨by rw [nm_c]; exact h.1, by rw [nm_k]; exact hk, ?_, ?_⟩
  · unfold nm
    split
    · exact Nat.zero_le _
    · exact h.2
  · intro hg
    unfold nm at hg ⊢
    split
    · rfl
    · rename_i hn
      rw [if_neg hn] at hg
      exact absurd hg hn
def giveL : List Pr → Awr → Awr
  | [], a => a
  | p :: l, a => giveL l (a.take (wrL [nm p])).1
theorem giveL_snoc : ∀ (l : List Pr) (a : Awr) (p : Pr), giveL (l ++ [p]) a = ((giveL l a).take (wrL [nm p])).1
  | [], _, _ => rfl
  | _ :: l, _, p => giveL_snoc l _ p
theorem giveL_good : ∀ {l : List Pr} {a : Awr}, a.Good → (∀ p ∈ l, Okp p ∧ p.k < 18446744073709551616) → (giveL l a).Good ∧ (giveL l a).client = a.client ∧ (giveL l a).es.length ≤ a.es.length + l.length ∧ ∀ e ∈ (giveL l a).es, e ∈ a.es ∨ ∃ p ∈ l, e.p = nm p
  | [], a, h, _ => ⟨h, rfl, Nat.le_refl _, fun e he => .inl he⟩
  | p :: l, a, h, hl => by
    have hp := hl p (by simp)
    have hf := nm_fine hp.1 hp.2
    have hstep : ((a.take (wrL [nm p])).1).Good ∧ ((a.take (wrL [nm p])).1).client = a.client ∧ ((a.take (wrL [nm p])).1).es.length ≤ a.es.length + 1 ∧ ∀ e ∈ ((a.take (wrL [nm p])).1).es, e ∈ a.es ∨ e.p = nm p := by
      rw [take_fine a hf]
      by_cases hr : (nm p).Right
      · rw [if_pos hr]
        obtain ⟨g1, g2, g3⟩ := take1_good h (hf.ok hr) hf.c hr.1
        refine ⟨g1, g2, g3, fun e he => ?_⟩
        have hc : (nm p).c ≠ a.client := by have := h.cl; have := hf.c; omega
        by_cases hk : (nm p).k ≤ a.clock (nm p).c
        · rw [take1_old hk] at he
          exact .inl he
        · rw [take1_new hk hc] at he
          rcases ins_mem he with rfl | he
          · exact .inr rfl
          · exact .inl he
      · rw [if_neg hr]
        exact ⟨h, rfl, Nat.le_succ _, fun e he => .inl he⟩
    obtain ⟨s1, s2, s3, s4⟩ := hstep
    obtain ⟨r1, r2, r3, r4⟩ := giveL_good (l := l) s1 fun q hq => hl q (by simp [hq])
    refine ⟨r1, r2.trans s2, ?_, fun e he => ?_⟩
    · show (giveL l (a.take (wrL [nm p])).1).es.length ≤ _
      rw [List.length_cons]
      omega
    · rcases r4 e he with he | ⟨q, hq, he⟩
      · rcases s4 e he with he | he
        · exact .inl he
        · exact .inr ⟨p, by simp, he⟩
      · exact .inr ⟨q, by simp [hq], he⟩
theorem good_new {c : Nat} (h : 900 < c) (n : Nat) : (⟨c, n, 0, 0, []⟩ : Awr).Good := ⟨List.Pairwise.nil, fun _ he => absurd he (List.not_mem_nil), h⟩
/-- A clock is told once. -/
def Once (l : List Pr) : Prop := ∀ (i k : Nat) (hi : i < l.length) (hk : k < l.length), k < i → (l[i]).c = (l[k]).c → (l[i]).k = (l[k]).k → nm l[i] = nm l[k]
theorem cons_of {l m : List Pr} {c d n : Nat} (h : Once (l ++ m)) (hl : ∀ p ∈ l, Okp p ∧ p.k < 18446744073709551616) (hm : ∀ p ∈ m, Okp p ∧ p.k < 18446744073709551616) (hc : 900 < c) (hd : 900 < d) : Cons (giveL l ⟨c, n, 0, 0, []⟩) (giveL m ⟨d, n, 0, 0, []⟩) := by
  intro e he f hf hce hke
  obtain ⟨_, _, _, h1⟩ := giveL_good (good_new hc n) hl
  obtain ⟨_, _, _, h2⟩ := giveL_good (good_new hd n) hm
  rcases h1 e he with he' | ⟨p, hp, hep⟩
  · cases he'
  rcases h2 f hf with hf' | ⟨q, hq, hfq⟩
  · cases hf'
  rw [hep, hfq] at hce hke ⊢
  rw [nm_c, nm_c] at hce
  rw [nm_k, nm_k] at hke
  obtain ⟨k, hk, rfl⟩ := List.getElem_of_mem hp
  obtain ⟨i, hi, rfl⟩ := List.getElem_of_mem hq
  have := h (l.length + i) k (by rw [List.length_append]; omega) (by rw [List.length_append]; omega) (by omega)
  rw [List.getElem_append_right (by omega), List.getElem_append_left hk] at this
  simp only [Nat.add_sub_cancel_left] at this
  exact (this hce.symm hke.symm).symm
end Aw
end Go.Proofs.Ytoljcnlmockpcaa
