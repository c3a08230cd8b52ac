/- The document's awareness: plain; in memory; New, at, Clock, put. -/
import Derived.Test.YtoljcnlmockpcaaAwAllP
import Derived.Test.YtoljcnlmockpcaaSxR
import Derived.Test.YtoljcnlmockpcaaAwT
import Derived.Test.YtoljcnlmockpcaaSxE
namespace Go.Proofs.Ytoljcnlmockpcaa
set_option maxRecDepth 100000
namespace Aw
open Go Go.RowKit Sx Wire
/-- How many entries stand ahead of a client's. -/
def pos : List En → Nat → Nat
  | [], _ => 0
  | e :: l, c => if e.p.c < c then pos l c + 1 else 0
def has (es : List En) (c : Nat) : Bool := (lk es c).isSome
theorem pos_cons (e : En) (l : List En) (c : Nat) : pos (e :: l) c = if e.p.c < c then pos l c + 1 else 0 := rfl
theorem pos_le : ∀ (es : List En) (c : Nat), pos es c ≤ es.length
  | [], _ => Nat.le_refl _
  | e :: l, c => by
    have := pos_le l c
    rw [pos_cons, List.length_cons]
    split <;> omega
theorem pos_step : ∀ (es : List En) (c i : Nat) (hi : i < es.length), i ≤ pos es c → (es[i].p.c < c ↔ i < pos es c)
  | e :: l, c, 0, _, _ => by
    rw [pos_cons]
    show e.p.c < c ↔ _
    by_cases h : e.p.c < c
    · rw [if_pos h]
      exact ⟨fun _ => Nat.succ_pos _, fun _ => h⟩
    · rw [if_neg h]
      exact ⟨fun h' => absurd h' h, fun h' => absurd h' (Nat.lt_irrefl 0)⟩
  | e :: l, c, i + 1, hi, hp => by
    rw [pos_cons] at hp ⊢
    by_cases h : e.p.c < c
    · rw [if_pos h] at hp ⊢
      have hi' : i < l.length := by simpa using hi
      have := pos_step l c i hi' (by omega)
      show (l[i]'hi').p.c < c ↔ _
      omega
    · rw [if_neg h] at hp
      omega
theorem has_at : ∀ {es : List En} {c : Nat}, Srt es → (has es c = true ↔ ∃ h : pos es c < es.length, es[pos es c].p.c = c)
  | [], c, _ => by simp [has, lk, pos]
  | e :: l, c, hs => by
    have h2 := List.pairwise_cons.1 hs
    unfold has
    rw [lk_cons]
    by_cases h : e.p.c = c
    · rw [if_pos h]
      have hp : pos (e :: l) c = 0 := by rw [pos_cons, if_neg (by omega)]
      refine ⟨fun _ => ⟨by rw [hp]; simp, ?_⟩, fun _ => rfl⟩
      have : ∀ k (hk : k < (e :: l).length), k = 0 → (e :: l)[k].p.c = c := by
        rintro k hk rfl
        exact h
      exact this _ _ hp
    · rw [if_neg h]
      by_cases hlt : e.p.c < c
      · have hp : pos (e :: l) c = pos l c + 1 := by rw [pos_cons, if_pos hlt]
        have ih := has_at (es := l) (c := c) h2.2
        unfold has at ih
        rw [ih]
        have key : ∀ k (hk : k < (e :: l).length) (hk2 : k = pos l c + 1), (e :: l)[k].p.c = (l[pos l c]'(by simp only [List.length_cons] at hk; omega)).p.c := by
          rintro k hk rfl
          rfl
        constructor
        · rintro ⟨h3, h4⟩
          exact ⟨by rw [hp, List.length_cons]; omega, by rw [key _ _ hp]; exact h4⟩
        · rintro ⟨h3, h4⟩
          have h3' := h3
          rw [hp, List.length_cons] at h3'
          exact ⟨by omega, by rw [key _ _ hp] at h4; exact h4⟩
      · have hp : pos (e :: l) c = 0 := by rw [pos_cons, if_neg hlt]
        have hn : lk l c = none := lk_lt fun x hx => by have := h2.1 x hx; omega
        rw [hn]
        constructor
        · intro h; cases h
        · rintro ⟨h3, h4⟩
          have : ∀ k (hk : k < (e :: l).length), k = 0 → (e :: l)[k].p.c = c → False := by
            rintro k hk rfl h5
            exact h h5
          exact (this _ _ hp h4).elim
theorem lk_pos {es : List En} {c : Nat} (hs : Srt es) (h : pos es c < es.length) (hc : es[pos es c].p.c = c) : lk es c = some es[pos es c] := by
  have := lk_at hs h
  rwa [hc] at this
theorem ins_pos : ∀ {es : List En} (e : En), Srt es → ins es e = es.take (pos es e.p.c) ++ [e] ++ es.drop (if has es e.p.c then pos es e.p.c + 1 else pos es e.p.c)
  | [], e, _ => by simp [ins, pos, has, lk]
  | x :: l, e, hs => by
    have h2 := List.pairwise_cons.1 hs
    unfold ins has
    rw [lk_cons, pos_cons]
    by_cases h1 : e.p.c < x.p.c
    · have hn : lk l e.p.c = none := lk_lt fun y hy => by have := h2.1 y hy; omega
      rw [if_pos h1, if_neg (show ¬ x.p.c < e.p.c by omega), if_neg (show ¬ x.p.c = e.p.c by omega), hn]
      simp
    · rw [if_neg h1]
      by_cases h3 : x.p.c = e.p.c
      · rw [if_pos h3, if_pos h3, if_neg (by omega)]
        simp
      · have ih := ins_pos e h2.2
        unfold has at ih
        rw [if_neg h3, if_neg h3, if_pos (by omega), ih]
        cases (lk l e.p.c).isSome <;> simp
/-- Entries, read with any bound on their number. -/
def rdL' (b : List UInt8) : Option (List Pr) :=
  let n := mUint 18446744073709551615 (some b)
  match rdN n.1 0 n.2 with
  | some (ps, some []) => some ps
  | _ => none
theorem mUint_short {m : Nat} {l l' : List UInt8} {n : Nat} (h : mUint m (some l) = (n, some l')) : l'.length + 1 ≤ l.length := by
  unfold mUint at h
  have h' : (match rdU m 0 0 l with | some (n, l) => (n, some l) | none => (0, none)) = (n, some l') := h
  cases hr : rdU m 0 0 l with
  | none => rw [hr] at h'; cases h'
  | some x =>
    rw [hr] at h'
    cases h'
    revert hr
    cases l with
    | nil => intro hr; cases hr
    | cons y l =>
      intro hr
      unfold rdU at hr
      split at hr
      · cases hr
      · split at hr
        · have := (rdU_le hr).2
          rw [List.length_cons]
          omega
        · split at hr
          · cases hr
          · split at hr
            · cases hr
            · cases hr
              exact Nat.le_refl _
theorem rdP_short {last : Nat} {l l' : List UInt8} {p : Pr} (h : rdP last (some l) = some (p, some l')) : l'.length + 1 ≤ l.length := by
  unfold rdP at h
  generalize hc : mUint 9007199254740991 (some l) = C at h
  obtain ⟨c, s1⟩ := C
  dsimp only at h
  cases s1 with
  | none =>
    rw [mUint_none] at h
    rw [if_pos (.inr (.inl rfl))] at h
    cases h
  | some l1 =>
    have q1 := mUint_short hc
    generalize hk : mUint 9007199254740991 (some l1) = K at h
    obtain ⟨k, s2⟩ := K
    dsimp only at h
    cases s2 with
    | none =>
      have hk0 : k = 0 := by
        unfold mUint at hk
        have hk' : (match rdU 9007199254740991 0 0 l1 with | some (n, l) => (n, some l) | none => (0, none)) = (k, none) := hk
        cases hr : rdU 9007199254740991 0 0 l1 with
        | none => rw [hr] at hk'; cases hk'; rfl
        | some x => rw [hr] at hk'; cases hk'
      rw [if_pos (.inr (.inl hk0))] at h
      cases h
    | some l2 =>
      have q2 := mUint_short hk
      split at h
      · cases h
      · split at h
        · cases h
        · have h' := (Prod.mk.inj (Option.some.inj h)).2
          cases l2 with
          | nil =>
            have : (mText 256 (mByte (some [])).2).2 = none := by rw [show (mByte (some [])).2 = none from rfl]; rfl
            rw [this] at h'
            cases h'
          | cons x l3 =>
            have e3 : (mByte (some (x :: l3))).2 = some l3 := rfl
            rw [e3] at h'
            have := (mText_len (m := 256) (s := some l3)).2 l3 l' rfl h'
            rw [List.length_cons] at q2
            omega
theorem rdN_short : ∀ {n last : Nat} {l l' : List UInt8} {ps : List Pr}, rdN n last (some l) = some (ps, some l') → n + l'.length ≤ l.length
  | 0, _, l, l', ps, h => by cases h; omega
  | n + 1, last, l, l', ps, h => by
    unfold rdN at h
    cases hp : rdP last (some l) with
    | none => rw [hp] at h; cases h
    | some x =>
      obtain ⟨p, s⟩ := x
      rw [hp] at h
      dsimp only at h
      cases hr : rdN n p.c s with
      | none => rw [hr] at h; cases h
      | some y =>
        obtain ⟨qs, s2⟩ := y
        rw [hr] at h
        dsimp only at h
        have e2 : s2 = some l' := (Prod.mk.inj (Option.some.inj h)).2
        subst e2
        cases s with
        | none =>
          cases n with
          | zero => cases hr
          | succ n => cases hr
        | some l1 =>
          have := rdP_short hp
          have := rdN_short hr
          omega
theorem rdU_bound : ∀ {most most' : Nat} {i n : Nat} {l : List UInt8}, most' ≤ most → (∀ x, rdU most i n l = some x → x.1 ≤ most' → rdU most' i n l = some x) ∧ (∀ x, rdU most i n l = some x → most' < x.1 → rdU most' i n l = none) ∧ (rdU most i n l = none → rdU most' i n l = none)
  | most, most', i, n, [], h => ⟨fun x hx => (by cases hx), fun x hx => (by cases hx), fun _ => rfl⟩
  | most, most', i, n, y :: l, h => by
    unfold rdU
    by_cases h1 : i = 9 ∧ 1 < y.toNat
    · rw [if_pos h1, if_pos h1]
      exact ⟨fun x hx => (by cases hx), fun x hx => (by cases hx), fun _ => rfl⟩
    rw [if_neg h1, if_neg h1]
    by_cases h2 : 128 ≤ y.toNat
    · rw [if_pos h2, if_pos h2]
      exact rdU_bound h
    rw [if_neg h2, if_neg h2]
    by_cases h3 : y.toNat = 0 ∧ 0 < i
    · rw [if_pos h3, if_pos h3]
      exact ⟨fun x hx => (by cases hx), fun x hx => (by cases hx), fun _ => rfl⟩
    rw [if_neg h3, if_neg h3]
    generalize n + y.toNat % 128 * 2 ^ (7 * i) = m
    by_cases h4 : most < m
    · rw [if_pos h4, if_pos (by omega)]
      exact ⟨fun x hx => (by cases hx), fun x hx => (by cases hx), fun _ => rfl⟩
    rw [if_neg h4]
    refine ⟨fun x hx hle => ?_, fun x hx hlt => ?_, fun h => (by cases h)⟩
    · cases hx
      rw [if_neg (by have : m ≤ most' := hle; omega)]
    · cases hx
      rw [if_pos hlt]
/-- The bound is no matter. -/
theorem rdL'_eq (b : List UInt8) (hb : b.length ≤ 18446744073709551615) : rdL' b = rdL b := by
  unfold rdL' rdL mUint
  show (match rdN (match rdU 18446744073709551615 0 0 b with | some (n, l) => (n, some l) | none => (0, none) : Nat × Option (List UInt8)).1 0 (match rdU 18446744073709551615 0 0 b with | some (n, l) => (n, some l) | none => (0, none) : Nat × Option (List UInt8)).2 with | some (ps, some []) => some ps | _ => none) =
    (match rdN (match rdU b.length 0 0 b with | some (n, l) => (n, some l) | none => (0, none) : Nat × Option (List UInt8)).1 0 (match rdU b.length 0 0 b with | some (n, l) => (n, some l) | none => (0, none) : Nat × Option (List UInt8)).2 with | some (ps, some []) => some ps | _ => none)
  obtain ⟨h1, h2, h3⟩ := rdU_bound (i := 0) (n := 0) (l := b) hb
  cases hr : rdU 18446744073709551615 0 0 b with
  | none => rw [h3 hr]
  | some x =>
    obtain ⟨n, l⟩ := x
    by_cases hn : n ≤ b.length
    · rw [h1 _ hr hn]
    · rw [h2 _ hr (by show b.length < n; omega)]
      dsimp only
      cases hN : rdN n 0 (some l) with
      | none => rfl
      | some y =>
        obtain ⟨ps, s⟩ := y
        cases s with
        | none => rfl
        | some l' =>
          have := rdN_short hN
          have := (rdU_le hr).2
          omega
end Aw
namespace Aw
open Go Go.RowKit Sx Wire
open So (cutQ_p rndQ_p)
/-- What the document's one knows. -/
def RAt (w : World) (p : Nat) (a : Awr) : Prop :=
  ∃ x c, Blk w p [.int .u64 (a.client : Int), .int .u64 (a.own : Int), .int .u64 a.now, .int .u64 a.last, .slice x a.es.length c] 65 ∧ SRows w 5 (.slice x a.es.length c) (a.es.map ecs) ∧ a.es.length ≤ c ∧ Srt a.es
theorem RAt.lt {w : World} {p : Nat} {a : Awr} (h : RAt w p a) : p < w.heap.size := by
  obtain ⟨x, c, h, _⟩ := h
  exact h.lt
theorem RAt.below {w w' : World} {p : Nat} {a : Awr} (h : RAt w p a) (hb : Below w.heap.size w w') : RAt w' p a := by
  obtain ⟨x, c, h1, h2, h3, h4⟩ := h
  exact ⟨x, c, h1.below hb h1.lt, h2.below hb (Nat.le_refl _), h3, h4⟩
theorem ecs_len (l : List En) : ∀ x ∈ l.map ecs, x.length = 5 := by
  intro x hx
  obtain ⟨p, _, rfl⟩ := List.mem_map.1 hx
  rfl
theorem ecs_one (l : List En) : ∀ u ∈ (l.map ecs).flatten, u.oneCell' = true := by
  intro u hu
  obtain ⟨x, hx, hu⟩ := List.mem_flatten.1 hu
  obtain ⟨p, _, rfl⟩ := List.mem_map.1 hx
  unfold ecs at hu
  simp only [List.mem_cons, List.not_mem_nil, or_false] at hu
  rcases hu with rfl | rfl | rfl | rfl | rfl <;> rfl
/-- Blocks without strings. -/
def NS (w : World) (bs : List Nat) : Prop := ∀ b ∈ bs, ∀ off s, w.cell? ⟨b, off, none⟩ ≠ some (.string s)
theorem SRows.chgE {w w' : World} {bs : List Nat} {v : Value} {es : List En} (h : SRows w 5 v (es.map ecs)) (hc : Chg bs w w') (hn : NS w bs) : SRows w' 5 v (es.map ecs) := by
  obtain ⟨b, off, cap, hf, hr⟩ := h
  refine ⟨b, off, cap, hf, fun i hi => ?_⟩
  obtain ⟨h1, h2⟩ := hr i hi
  refine ⟨Nat.lt_of_lt_of_le h1 hc.size, fun j u hu => ?_⟩
  have hni : b ∉ bs := fun hb => by
    have := h2 2 (.string (es[i]'(by simpa using hi)).p.s) (by rw [List.getElem_map]; rfl)
    exact hn b hb _ _ this
  have e : w'.cell? ⟨b, off + i * 5 + j, none⟩ = w.cell? ⟨b, off + i * 5 + j, none⟩ := by simp only [World.cell?, hc.block b h1 hni]
  rw [e]
  exact h2 j u hu
theorem SRows.chgP {w w' : World} {bs : List Nat} {v : Value} {l : List Pr} (h : Prs w v l) (hc : Chg bs w w') (hn : NS w bs) : Prs w' v l := by
  obtain ⟨b, off, cap, hf, hr⟩ := h
  refine ⟨b, off, cap, hf, fun i hi => ?_⟩
  obtain ⟨h1, h2⟩ := hr i hi
  refine ⟨Nat.lt_of_lt_of_le h1 hc.size, fun j u hu => ?_⟩
  have hni : b ∉ bs := fun hb => by
    have := h2 2 (.string (l[i]'(by simpa using hi)).s) (by rw [List.getElem_map]; rfl)
    exact hn b hb _ _ this
  have e : w'.cell? ⟨b, off + i * 4 + j, none⟩ = w.cell? ⟨b, off + i * 4 + j, none⟩ := by simp only [World.cell?, hc.block b h1 hni]
  rw [e]
  exact h2 j u hu
theorem RAt.chg {w w' : World} {p : Nat} {a : Awr} {bs : List Nat} (h : RAt w p a) (hc : Chg bs w w') (hp : p ∉ bs) (hn : NS w bs) : RAt w' p a := by
  obtain ⟨x, c, h1, h2, h3, h4⟩ := h
  exact ⟨x, c, hc.blk h1 hp, SRows.chgE h2 hc hn, h3, h4⟩
theorem RAt.ns {w : World} {p : Nat} {a : Awr} (h : RAt w p a) : NS w [p] := by
  intro b hb off s
  obtain rfl : b = p := by simpa using hb
  obtain ⟨x, c, h1, _⟩ := h
  rw [h1.cell off]
  match off with
  | 0 => simp
  | 1 => simp
  | 2 => simp
  | 3 => simp
  | 4 => simp
  | n + 5 => simp
theorem RAt.n8 {w : World} {p : Nat} {a : Awr} (h : RAt w p a) : ∀ b ∈ [p], N8 w b := by
  intro b hb off z
  obtain rfl : b = p := by simpa using hb
  obtain ⟨x, c, h1, _⟩ := h
  rw [h1.cell off]
  match off with
  | 0 => simp
  | 1 => simp
  | 2 => simp
  | 3 => simp
  | 4 => simp
  | n + 5 => simp
theorem RAt.ints {w w' : World} {p : Nat} {a : Awr} {v : Value} {zs : List Int} (h : RAt w p a) (hv : Ints w .u8 v zs) (hc : Chg [p] w w') : Ints w' .u8 v zs := Wire.Ints.chg hv hc h.n8
theorem RAt.prs {w w' : World} {p : Nat} {a : Awr} {v : Value} {l : List Pr} (h : RAt w p a) (hv : Prs w v l) (hc : Chg [p] w w') : Prs w' v l := SRows.chgP hv hc h.ns
attribute [local irreducible] W Lst Qst Pu seqQ blkQ rndQ cutQ retQ Does Enters IntKind.wrap bits sb World.alloc World.putObj Blk
theorem r_New (client : Nat) (last : Int) (w : World) : Does Try.prog 16 #[.int .u64 (client : Int), .int .u64 last] w fun v w' =>
    ∃ p, v = .pointer (some ⟨p, 0, none⟩) ∧ w.heap.size ≤ p ∧ RAt w' p ⟨client, max last 1, 0, 0, []⟩ ∧ Below w.heap.size w w' := by
  refine Does_of (args := [.int .u64 (client : Int), .int .u64 last]) Try.func16 (by kernel_rfl) rfl rfl rfl rfl rfl ?_
  (refine Ga ?_)
  (apply retQ1; (focus rfl))
  exact ⟨_, rfl, Nat.le_refl _, ⟨none, 0, (by (repeat (first | assumption | (apply Blk.below (hb := hb1); rotate_left; (focus ((try simp only [Sx.sizes]); omega)); rotate_right) | (apply Blk.below (hb := hb2); rotate_left; (focus ((try simp only [Sx.sizes]); omega)); rotate_right) | (apply Blk.below (hb := hb3); rotate_left; (focus ((try simp only [Sx.sizes]); omega)); rotate_right) | (apply Blk.below (hb := hb4); rotate_left; (focus ((try simp only [Sx.sizes]); omega)); rotate_right) | (apply Blk.below (hb := hb5); rotate_left; (focus ((try simp only [Sx.sizes]); omega)); rotate_right) | (apply Blk.below (hb := hb6); rotate_left; (focus ((try simp only [Sx.sizes]); omega)); rotate_right) | (apply Blk.below (hb := hb7); rotate_left; (focus ((try simp only [Sx.sizes]); omega)); rotate_right) | (apply Blk.below (hb := hb8); rotate_left; (focus ((try simp only [Sx.sizes]); omega)); rotate_right) | (apply Blk.below (hb := hb9); rotate_left; (focus ((try simp only [Sx.sizes]); omega)); rotate_right) | exact Blk.newE (by first | rfl | ((try simp only [Sx.sizes]); first | done | omega)) _ _ | exact Blk.put_same (by (try simp only [Sx.sizes]); first | done | omega) _ _ | (apply Blk.put_ne; (focus omega)) | apply Blk.alloc | apply Blk.drew)); done), SRows.nil _ _, Nat.le_refl _, List.Pairwise.nil⟩, Bel⟩
set_option maxHeartbeats 2000000 in
theorem r_at (p c : Nat) (a : Awr) (hl : a.es.length ≤ 100000000) (w : World) (h : RAt w p a) : Does Try.prog 41 #[.pointer (some ⟨p, 0, none⟩), .int .u64 (c : Int)] w fun v w' =>
    v = .tuple #[.int .i64 (pos a.es c : Int), .bool (has a.es c)] ∧ RAt w' p a ∧ Below w.heap.size w w' := by
  refine Does_of (args := [.pointer (some ⟨p, 0, none⟩), .int .u64 (c : Int)]) Try.func41 (by kernel_rfl) rfl rfl rfl rfl rfl ?_
  have hfin := h.below (w' := w.drew) (Below.drew (Below.refl _ w))
  obtain ⟨x, cp, hb, hr, hcp, hs⟩ := h
  have hle := pos_le a.es c
  (refine Ga ?_)
  refine So.W_cutB (α := Unit) (fun _ => [(0, .pointer (some ⟨p, 0, none⟩)), (1, .int .u64 (c : Int)), (6, .int .i64 (pos a.es c : Int))]) (fun _ A => A = w) ?_ ?_
  · refine W_loop (α := Nat) (fun i => [(0, .pointer (some ⟨p, 0, none⟩)), (1, .int .u64 (c : Int)), (6, .int .i64 (i : Int))]) (fun i A => A = w ∧ i ≤ pos a.es c) (fun i _ => a.es.length - i) 0 ⟨rfl, Nat.zero_le _⟩ ⟨rfl, rfl, rfl, trivial⟩ ?_
    rintro J i A ⟨rfl, hi⟩
    by_cases hil : i < a.es.length
    · obtain ⟨b, off, rfl, hbl, hcells⟩ := hr.at (i := i) (by rw [List.length_map]; exact hil)
      rw [List.getElem_map] at hcells
      have hst := pos_step a.es c i hil hi
      generalize a.es[i] = e at *
      have hc0 : A.cell? ⟨b, off + i * 5 + 0, none⟩ = some (.int .u64 (e.p.c : Int)) := hcells 0 _ rfl
      by_cases hlt : e.p.c < c
      · (refine Ga ?_)
        apply Lst_pu
        · apply P_idx (sz := 5)
          focus rfl
          focus rfl
          focus rfl
          focus rfl
          focus rfl
          focus omega
          focus omega
        focus rfl
        rw [Int.toNat_natCast]
        (refine Ga ?_)
        refine rndQ_n (i + 1) ⟨rfl, by have := hst.1 hlt; omega⟩ ⟨rfl, rfl, ?_, trivial⟩ (by omega)
        show Value.int .i64 ((i : Int) + 1) = Value.int .i64 ((i + 1 : Nat) : Int)
        rw [Int.natCast_add]
        rfl
      · obtain rfl : i = pos a.es c := by
          have : ¬ i < pos a.es c := fun h => hlt (hst.2 h)
          omega
        (refine Ga ?_)
        apply Lst_pu
        · apply P_idx (sz := 5)
          focus rfl
          focus rfl
          focus rfl
          focus rfl
          focus rfl
          focus omega
          focus omega
        focus rfl
        rw [Int.toNat_natCast]
        (refine Ga ?_)
        exact cutQ_n () rfl ⟨rfl, rfl, rfl, trivial⟩
    · obtain rfl : i = pos a.es c := by omega
      (refine Ga ?_)
      exact cutQ_n () rfl ⟨rfl, rfl, rfl, trivial⟩
  rintro J _ _ rfl
  have hat := has_at (c := c) hs
  by_cases hil : pos a.es c < a.es.length
  · obtain ⟨b, off, rfl, hbl, hcells⟩ := hr.at (i := pos a.es c) (by rw [List.length_map]; exact hil)
    rw [List.getElem_map] at hcells
    have hat2 : has a.es c = true ↔ a.es[pos a.es c].p.c = c := hat.trans ⟨fun h => h.2, fun h => ⟨hil, h⟩⟩
    clear hat
    generalize a.es[pos a.es c] = e at *
    generalize pos a.es c = i at *
    have hc0 := hcells 0 _ rfl
    have hb' := hb.drew
    by_cases hec : e.p.c = c
    · rw [hat2.2 hec]
      (refine Ga ?_)
      refine W_draws (fun A' => A' = World.drew _) rfl (by kernel_rfl) rfl ?_
      (refine Qf ?_)
      apply Qst_pu
      · apply P_idx (sz := 5)
        focus rfl
        focus rfl
        focus rfl
        focus rfl
        focus rfl
        focus omega
        focus omega
      focus rfl
      rw [Int.toNat_natCast]
      (refine Qf ?_)
      apply Qst_loadc
      focus rfl
      focus rfl
      focus rfl
      focus exact fun A9 hA9 => by subst hA9; exact hc0
      focus rfl
      (refine Qf ?_)
      rintro _ rfl
      (refine Ga ?_)
      (apply retQ2; (focus rfl); (focus rfl))
      exact ⟨rfl, hfin, Below.drew (Below.refl _ _)⟩
    · rw [Bool.eq_false_iff.2 fun h => hec (hat2.1 h)]
      (refine Ga ?_)
      refine W_draws (fun A' => A' = World.drew _) rfl (by kernel_rfl) rfl ?_
      (refine Qf ?_)
      apply Qst_pu
      · apply P_idx (sz := 5)
        focus rfl
        focus rfl
        focus rfl
        focus rfl
        focus rfl
        focus omega
        focus omega
      focus rfl
      rw [Int.toNat_natCast]
      (refine Qf ?_)
      apply Qst_loadc
      focus rfl
      focus rfl
      focus rfl
      focus exact fun A9 hA9 => by subst hA9; exact hc0
      focus rfl
      (refine Qf ?_)
      rintro _ rfl
      (refine Ga ?_)
      (apply retQ2; (focus rfl); (focus rfl))
      exact ⟨rfl, hfin, Below.drew (Below.refl _ _)⟩
  · have hno : has a.es c = false := Bool.eq_false_iff.2 fun h => hil (hat.1 h).1
    rw [hno]
    generalize pos a.es c = i at *
    (refine Ga ?_)
    refine W_draws (fun A' => A' = World.drew _) rfl (by kernel_rfl) rfl ?_
    (refine Qf ?_)
    rintro _ rfl
    (refine Ga ?_)
    (apply retQ2; (focus rfl); (focus rfl))
    exact ⟨rfl, hfin, Below.drew (Below.refl _ _)⟩
theorem r_Clock (p c : Nat) (a : Awr) (hl : a.es.length ≤ 100000000) (w : World) (h : RAt w p a) : Does Try.prog 24 #[.pointer (some ⟨p, 0, none⟩), .int .u64 (c : Int)] w fun v w' =>
    v = .int .u64 (a.clock c : Int) ∧ RAt w' p a ∧ Below w.heap.size w w' := by
  refine Does_of (args := [.pointer (some ⟨p, 0, none⟩), .int .u64 (c : Int)]) Try.func24 (by kernel_rfl) rfl rfl rfl rfl rfl ?_
  obtain ⟨x, cp, hb, hr, hcp, hs⟩ := id h
  by_cases hc : c = a.client
  · have e : a.clock c = a.own := by unfold Awr.clock; rw [if_pos hc]
    rw [e]
    (refine Ga ?_)
    (apply retQ1; (focus rfl))
    exact ⟨rfl, h, Below.refl _ _⟩
  (refine Ga ?_)
  (apply Lst_call; (focus rfl); (focus rfl))
  refine (r_at p c a hl w h).mono ?_
  rintro v w1 ⟨rfl, h1, hb1⟩
  clear hb hr h
  obtain ⟨x, cp, hb, hr, hcp, hs⟩ := id h1
  have hat := has_at (c := c) hs
  have hle := pos_le a.es c
  cases hh : has a.es c with
  | false =>
    have e : a.clock c = 0 := by
      unfold Awr.clock
      rw [if_neg hc]
      unfold has at hh
      cases hl : lk a.es c with
      | none => rfl
      | some e => rw [hl] at hh; cases hh
    rw [e]
    (refine Ga ?_)
    (apply retQ1; (focus rfl))
    exact ⟨rfl, h1, hb1⟩
  | true =>
    obtain ⟨hil, hec⟩ := hat.1 hh
    have e : a.clock c = a.es[pos a.es c].p.k := by
      unfold Awr.clock
      rw [if_neg hc, lk_pos hs hil hec]
    obtain ⟨b, off, rfl, hbl, hcells⟩ := hr.at (i := pos a.es c) (by rw [List.length_map]; exact hil)
    rw [List.getElem_map] at hcells
    rw [e]
    generalize a.es[pos a.es c] = en at *
    generalize pos a.es c = i at *
    have hc1 : w1.cell? ⟨b, off + i * 5 + 1, none⟩ = some (.int .u64 (en.p.k : Int)) := hcells 1 _ rfl
    (refine Ga ?_)
    apply Lst_pu
    · apply P_idx (sz := 5)
      focus rfl
      focus rfl
      focus rfl
      focus rfl
      focus rfl
      focus omega
      focus omega
    focus rfl
    rw [Int.toNat_natCast]
    (refine Ga ?_)
    (apply retQ1; (focus rfl))
    exact ⟨rfl, h1, hb1⟩
end Aw
namespace Sx
open Go Go.RowKit
theorem SRows.cuthi {w : World} {sz c n : Nat} {a : Option Addr} {ls : List (List Value)} (h : SRows w sz (.slice a ls.length c) ls) (hn : n ≤ ls.length) : SRows w sz (sliced a 0 n c sz) (ls.take n) := by
  obtain ⟨b, off, cap, hf, hr⟩ := h
  have hl : (ls.take n).length = n := by rw [List.length_take]; omega
  rcases hf with hf | ⟨hf, rfl⟩
  · cases hf
    refine ⟨b, off, c - 0, .inl ?_, fun i hi => ?_⟩
    · unfold sliced
      rw [hl]
      split <;> simp [add_none]
    · rw [hl] at hi
      obtain ⟨h1, h2⟩ := hr i (by omega)
      refine ⟨h1, fun j u hu => h2 j u ?_⟩
      rwa [List.getElem_take] at hu
  · cases hf
    obtain rfl : n = 0 := by simpa using hn
    exact ⟨0, 0, 0, .inr ⟨by unfold sliced; simp, rfl⟩, fun i hi => absurd hi (Nat.not_lt_zero _)⟩
theorem SRows.cutlo {w : World} {sz c n : Nat} {a : Option Addr} {ls : List (List Value)} (h : SRows w sz (.slice a ls.length c) ls) (hc : ls.length ≤ c) (hn : n ≤ ls.length) : SRows w sz (sliced a n ls.length c sz) (ls.drop n) := by
  obtain ⟨b, off, cap, hf, hr⟩ := h
  have hl : (ls.drop n).length = ls.length - n := List.length_drop
  rcases hf with hf | ⟨hf, hnil⟩
  · cases hf
    by_cases hcn : c = n
    · have hz : ls.drop n = [] := List.eq_nil_of_length_eq_zero (by omega)
      refine ⟨b, off, c - n, .inl ?_, fun i hi => by rw [hz] at hi; exact absurd hi (Nat.not_lt_zero _)⟩
      unfold sliced
      rw [hl, if_pos hcn]
    · refine ⟨b, off + n * sz, c - n, .inl ?_, fun i hi => ?_⟩
      · unfold sliced
        rw [hl, if_neg hcn]
        simp [add_none]
      · rw [hl] at hi
        obtain ⟨h1, h2⟩ := hr (n + i) (by omega)
        refine ⟨h1, fun j u hu => ?_⟩
        rw [List.getElem_drop] at hu
        have := h2 j u hu
        rwa [show off + (n + i) * sz + j = off + n * sz + i * sz + j by rw [Nat.add_mul]; omega] at this
  · subst hnil
    cases hf
    obtain rfl : n = 0 := by simpa using hn
    exact ⟨0, 0, 0, .inr ⟨by unfold sliced; simp, rfl⟩, fun i hi => absurd hi (Nat.not_lt_zero _)⟩
end Sx
namespace Aw
open Go Go.RowKit Sx Wire
open So (cutQ_p rndQ_p)
theorem ins_len' : ∀ (es : List En) (e : En), (ins es e).length ≤ es.length + 1
  | [], _ => Nat.le_refl _
  | x :: l, e => by
    have := ins_len' l e
    unfold ins
    split
    · simp
    · split
      · simp
      · simp only [List.length_cons]; omega
attribute [local irreducible] W Lst Qst Pu seqQ blkQ rndQ cutQ retQ Does Enters IntKind.wrap bits sb World.alloc World.putObj Blk
set_option maxHeartbeats 2000000 in
theorem r_put (p : Nat) (a : Awr) (q : Pr) (hl : a.es.length ≤ 100000000) (w : World) (h : RAt w p a) : Does Try.prog 38 #[.pointer (some ⟨p, 0, none⟩), .agg (pcs q).toArray] w fun v w' =>
    v = .tuple #[] ∧ RAt w' p { a with es := ins a.es ⟨q, a.now⟩ } ∧ Chg [p] w w' := by
  refine Does_of (args := [.pointer (some ⟨p, 0, none⟩), .agg (pcs q).toArray]) Try.func38 (by kernel_rfl) rfl rfl rfl rfl rfl ?_
  have hlt := h.lt
  unfold pcs
  (refine Ga ?_)
  have hb1 : Below w.heap.size w (w.alloc (.cells [.int .u64 (q.c : Int), .int .u64 (q.k : Int), .string q.s, .bool q.g].toArray 37)) := Bel
  have kq : Blk (w.alloc (.cells [.int .u64 (q.c : Int), .int .u64 (q.k : Int), .string q.s, .bool q.g].toArray 37)) w.heap.size [.int .u64 (q.c : Int), .int .u64 (q.k : Int), .string q.s, .bool q.g] 37 := Blk.newE rfl _ _
  have h1 := h.below hb1
  have s1 : (w.alloc (.cells [.int .u64 (q.c : Int), .int .u64 (q.k : Int), .string q.s, .bool q.g].toArray 37)).heap.size = w.heap.size + 1 := World.size_alloc _ _
  generalize w.alloc (.cells [.int .u64 (q.c : Int), .int .u64 (q.k : Int), .string q.s, .bool q.g].toArray 37) = w1 at *
  (apply Lst_call; (focus rfl); (focus rfl))
  refine (r_at p q.c a hl w1 h1).mono ?_
  rintro v w2 ⟨rfl, h2, hb2⟩
  have b2 := hb1.trans (hb2.mono (by omega))
  have kq2 := kq.below hb2 kq.lt
  have s2 := hb2.size
  clear h1 hb1 hb2 kq h
  have hle := pos_le a.es q.c
  have hip := ins_pos ⟨q, a.now⟩ h2.choose_spec.choose_spec.2.2.2
  obtain ⟨x, cp, hb, hr, hcp, hs⟩ := id h2
  have hll : (a.es.map ecs).length = a.es.length := List.length_map _
  have hr' : SRows w2 5 (.slice x (a.es.map ecs).length cp) (a.es.map ecs) := by rw [hll]; exact hr
  have hhi := SRows.cuthi hr' (n := pos a.es q.c) (by omega)
  have hnl : (if has a.es q.c then pos a.es q.c + 1 else pos a.es q.c) ≤ a.es.length := by
    split
    · rename_i hh
      obtain ⟨h3, _⟩ := (has_at hs).1 hh
      omega
    · exact hle
  have hlo := SRows.cutlo hr' (by omega) (n := if has a.es q.c then pos a.es q.c + 1 else pos a.es q.c) (by omega)
  rw [← List.map_take] at hhi
  rw [← List.map_drop, hll] at hlo
  have hip : ins a.es ⟨q, a.now⟩ = a.es.take (pos a.es q.c) ++ [⟨q, a.now⟩] ++ a.es.drop (if has a.es q.c then pos a.es q.c + 1 else pos a.es q.c) := hip
  have htl : (a.es.take (pos a.es q.c)).length = pos a.es q.c := by rw [List.length_take]; omega
  have hdl : (a.es.drop (if has a.es q.c then pos a.es q.c + 1 else pos a.es q.c)).length ≤ a.es.length := by rw [List.length_drop]; omega
  generalize has a.es q.c = hh at *
  generalize pos a.es q.c = i at *
  (refine Ga ?_)
  apply Lst_appendR (hown := World.ownsRow_nil w2 w2.heap.size 82 5) (hy := hhi) (hls := ecs_len _) (hone := ecs_one _) (bytes := 48)
  focus rfl
  focus rfl
  focus rfl
  focus rfl
  focus rfl
  focus rfl
  focus rfl
  focus rfl
  focus rfl
  focus (rw [List.length_map]; omega)
  focus (rw [List.length_map]; omega)
  focus exact Nat.le_refl _
  focus rfl
  intro v' w3 ho3 hgr3
  rw [List.nil_append, Nat.zero_add, List.length_map, htl] at ho3
  have hb3 := Sx.Below.own (Below.refl _ w2) (World.ownsRow_nil w2 w2.heap.size 82 5) hgr3 (Nat.le_refl _) (Nat.le_refl _)
  have s3 := hb3.size
  have kp3 := hb.below hb3 hb.lt
  obtain ⟨o1, o2, o3, rfl⟩ := own_slice ho3
  clear hgr3 hhi
  (refine Ga ?_)
  refine So.W_cutS (α := Value) (fun u => [(0, .pointer (some ⟨p, 0, none⟩)), (4, .int .i64 (i : Int)), (5, .bool hh), (6, u)]) (fun u A' => A'.ownsRow w2.heap.size 82 5 u (i + 1) (((a.es.take i ++ [(⟨q, a.now⟩ : En)]).map ecs).flatten) ∧ Below w2.heap.size w2 A') ?_ ?_
  · refine W_drawS 10 (fun A' => Below w2.heap.size w2 A') rfl rfl ?_
    have hS : Below w2.heap.size w2 w3.drew := Below.drew hb3
    have ho4 := own_drew ho3
    have hbX := hS
    generalize w3.drew = X at *
    (refine S_take 0 9 rfl (by kernel_rfl) (by repeat (first | exact retQ_p | apply seqQ_p | apply blkQ_p | apply rndQ_p | apply cutQ_p)) hS ?_)
    (refine Gt ?_)
    (refine S_take 1 8 rfl (by kernel_rfl) (by repeat (first | exact retQ_p | apply seqQ_p | apply blkQ_p | apply rndQ_p | apply cutQ_p)) hS ?_)
    apply Qst_loadS (cs := [.int .u64 (q.c : Int), .int .u64 (q.k : Int), .string q.s, .bool q.g]) (hc := fun A9 hA9 j u hu => ((kq2.below hA9 kq2.lt).cell (0 + j)).trans (by rw [Nat.zero_add]; exact hu))
    focus rfl
    focus rfl
    focus rfl
    focus rfl
    focus rfl
    focus rfl
    (refine Gt ?_)
    (refine S_take 2 7 rfl (by kernel_rfl) (by repeat (first | exact retQ_p | apply seqQ_p | apply blkQ_p | apply rndQ_p | apply cutQ_p)) hS ?_)
    (refine Gt ?_)
    (refine S_any [3] 6 rfl (by kernel_rfl) (all1 ?_))
    apply Lst_pu
    focus (apply P_nilCheck; focus rfl)
    focus rfl
    apply Lst_nil
    apply rnQ_n
    refine ⟨hS, ?_⟩
    (refine S_take 4 5 rfl (by kernel_rfl) (by repeat (first | exact retQ_p | apply seqQ_p | apply blkQ_p | apply rndQ_p | apply cutQ_p)) hS ?_)
    (refine Gt ?_)
    (refine S_take 5 4 rfl (by kernel_rfl) (by repeat (first | exact retQ_p | apply seqQ_p | apply blkQ_p | apply rndQ_p | apply cutQ_p)) hS ?_)
    apply Qst_load (hb := fun A9 hA9 => hb.below hA9 hb.lt)
    focus rfl
    focus rfl
    focus rfl
    focus rfl
    focus rfl
    (refine Gt ?_)
    (refine S_any [6] 3 rfl (by kernel_rfl) (all1 ?_))
    (refine Gf ?_)
    apply rnQ_n
    refine ⟨hS, ?_⟩
    (refine S_any [7] 2 rfl (by kernel_rfl) (all1 ?_))
    (apply Lst_lit1; (focus constructor); (focus rfl); (focus rfl); (focus rfl); (focus rfl); (focus rfl); (focus rfl); (focus rfl); (focus rfl); (focus ((try simp only [Sx.sizes]); first | done | rfl)); (focus rfl))
    apply Lst_nil
    apply rnQ_n
    have oY := own_alloc ho4 (.cells [.int .u64 (q.c : Int), .int .u64 (q.k : Int), .string q.s, .bool q.g, .int .u64 a.now].toArray 82)
    have kY : Blk (X.alloc (.cells [.int .u64 (q.c : Int), .int .u64 (q.k : Int), .string q.s, .bool q.g, .int .u64 a.now].toArray 82)) X.heap.size [.int .u64 (q.c : Int), .int .u64 (q.k : Int), .string q.s, .bool q.g, .int .u64 a.now] 82 := Blk.newE rfl _ _
    have hS2 : Below w2.heap.size w2 (X.alloc (.cells [.int .u64 (q.c : Int), .int .u64 (q.k : Int), .string q.s, .bool q.g, .int .u64 a.now].toArray 82)) := hS.alloc hS.size _
    have hbY : Below w2.heap.size w2 (X.alloc (.cells [.int .u64 (q.c : Int), .int .u64 (q.k : Int), .string q.s, .bool q.g, .int .u64 a.now].toArray 82)) := hbX.alloc hbX.size _
    refine ⟨hS2, ?_⟩
    generalize X.heap.size = Xs at *
    generalize X.alloc (.cells [.int .u64 (q.c : Int), .int .u64 (q.k : Int), .string q.s, .bool q.g, .int .u64 a.now].toArray 82) = Y at *
    have sY := hbY.size
    (refine S_any [8] 1 rfl (by kernel_rfl) (all1 ?_))
    apply Lst_append (hown := oY) (bytes := 48) (news := [.int .u64 (q.c : Int), .int .u64 (q.k : Int), .string q.s, .bool q.g, .int .u64 a.now])
    focus rfl
    focus rfl
    focus rfl
    focus rfl
    focus rfl
    focus rfl
    focus rfl
    focus rfl
    focus rfl
    focus (intro j u hu; rw [kY.cell, Nat.zero_add]; exact hu)
    focus rfl
    focus simp [Value.oneCell']
    focus omega
    focus omega
    focus exact sY
    focus rfl
    intro v' Z hZ hgr _
    have hSZ := Sx.Below.own hbY oY hgr (Nat.le_refl _) sY
    obtain ⟨p1, p2, p3, rfl⟩ := own_slice hZ
    apply Lst_nil
    apply rnQ_n
    refine ⟨hSZ, ?_⟩
    (refine S_any [9] 0 rfl (by kernel_rfl) (all1 ?_))
    (refine Gf ?_)
    apply rnQ_n
    refine ⟨hSZ, ?_⟩
    refine S_done (by kernel_rfl) ?_
    refine cutQ_n (.slice p1 p2 p3) ⟨?_, hSZ⟩ ⟨rfl, rfl, rfl, rfl, trivial⟩
    rw [List.map_append, List.flatten_append]
    exact hZ
  clear kq2 kp3 ho3 hb3
  rintro J u A ⟨ho, hbA⟩
  have kA := hb.below hbA hb.lt
  have hloA := hlo.below hbA (Nat.le_refl _)
  obtain ⟨u1, u2, u3, rfl⟩ := own_slice ho
  have sA := hbA.size
  obtain ⟨k, hk⟩ : ∃ k, k = if hh = true then i + 1 else i := ⟨_, rfl⟩
  rw [← hk] at hip hnl hloA hdl
  clear hlo
  refine W_cut (α := Unit) (fun _ => [(0, .pointer (some ⟨p, 0, none⟩)), (4, .int .i64 (k : Int)), (6, .slice u1 u2 u3)]) (fun _ A' => A' = A) ?_ ?_
  · cases hh with
    | true =>
      rw [if_pos rfl] at hk
      have hwi : arith .add .i64 (i : Int) 1 = ((i + 1 : Nat) : Int) := by
        show IntKind.i64.wrap _ = _
        rw [wi64 (by omega) (by omega)]
        omega
      subst hk
      (refine Ga ?_)
      exact cutQ_n () rfl ⟨rfl, rfl, rfl, trivial⟩
    | false =>
      rw [if_neg Bool.false_ne_true] at hk
      subst hk
      (refine Ga ?_)
      exact cutQ_n () rfl ⟨rfl, rfl, rfl, trivial⟩
  rintro J _ _ rfl
  (refine Ga ?_)
  apply Lst_appendR (hown := ho) (hy := hloA) (hls := ecs_len _) (hone := ecs_one _) (bytes := 48)
  focus rfl
  focus rfl
  focus rfl
  focus rfl
  focus rfl
  focus rfl
  focus rfl
  focus rfl
  focus rfl
  focus (rw [List.length_map]; omega)
  focus (rw [List.length_map]; omega)
  focus exact sA
  focus rfl
  intro v' Z hZ hgr
  have hbZ := Sx.Below.own hbA ho hgr (Nat.le_refl _) sA
  have kZ := hb.below hbZ hb.lt
  rw [← List.flatten_append, ← List.map_append, ← hip, List.length_map] at hZ
  have hnn : i + 1 + (a.es.drop k).length = (ins a.es ⟨q, a.now⟩).length := by
    rw [hip, List.length_append, List.length_append, htl]
    rfl
  rw [hnn] at hZ
  have hRZ := SRows.of_own hZ (ecs_len _) (by omega)
  obtain ⟨z1, z3, rfl, hzc⟩ := own_form hZ
  have hpZ := kZ.lt
  have hnZ := (h2.below hbZ).ns
  have hwZ : Chg [p] w Z := .of (b2.trans (hbZ.mono (by omega)))
  have hch : Chg [p] Z (Z.putObj p (.cells [.int .u64 (a.client : Int), .int .u64 (a.own : Int), .int .u64 a.now, .int .u64 a.last, .slice z1 (ins a.es ⟨q, a.now⟩).length z3].toArray 65)) := (Chg.refl _ _).put (.inl (by simp)) _
  (refine Ga ?_)
  apply retQ0n
  exact ⟨rfl, ⟨z1, z3, Blk.put_same hpZ _ _, SRows.chgE hRZ hch hnZ, hzc, ins_srt _ hs⟩, hwZ.trans hch⟩
end Aw
end Go.Proofs.Ytoljcnlmockpcaa
