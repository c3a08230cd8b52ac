/- Three that know of one another: plain, in memory, the script, Tell and Leave. -/
import Derived.Test.YtoljcnlmockpcaaRwC
namespace Go.Proofs.Ytoljcnlmockpcaa
set_option maxRecDepth 100000
namespace Aw
open Go Go.RowKit Sx Wire
theorem rdP_ok {last : Nat} {s s' : Option (List UInt8)} {p : Pr} (h : rdP last s = some (p, s')) : p.Ok ∧ last < p.c := by
  have h3 := rdP_sm h
  unfold rdP at h
  dsimp only at h
  split at h
  · cases h
  · rename_i hn
    split at h
    · cases h
    · rename_i hg
      have e := (Prod.mk.inj (Option.some.inj h)).1
      subst e
      refine ⟨⟨h3.1, ?_, h3.2.1, h3.2.2, fun hgt => ?_⟩, ?_⟩
      · show 0 < (mUint 9007199254740991 (mUint 9007199254740991 s).2).1
        omega
      · have hg1 : (mByte (mUint 9007199254740991 (mUint 9007199254740991 s).2).2).1 = 1 := of_decide_eq_true hgt
        have ht : (mText 256 (mByte (mUint 9007199254740991 (mUint 9007199254740991 s).2).2).2).1 = [] := Classical.byContradiction fun hne => hg ⟨hg1, hne⟩
        show (⟨(mText 256 _).1.toArray⟩ : ByteArray) = _
        rw [ht]
      · show last < (mUint 9007199254740991 s).1
        omega
theorem rdN_ok : ∀ {n last : Nat} {s s' : Option (List UInt8)} {ps : List Pr}, rdN n last s = some (ps, s') → ∀ p ∈ ps, p.Ok ∧ 0 < p.c
  | 0, _, s, s', ps, h => by cases h; intro p hp; cases hp
  | n + 1, _, none, s', ps, h => by cases h; intro p hp; cases hp
  | n + 1, last, some l, s', ps, h => by
    unfold rdN at h
    cases hp : rdP last (some l) with
    | none => rw [hp] at h; cases h
    | some x =>
      obtain ⟨p, s1⟩ := x
      rw [hp] at h
      dsimp only at h
      cases hr : rdN n p.c s1 with
      | none => rw [hr] at h; cases h
      | some y =>
        obtain ⟨ps1, s2⟩ := y
        rw [hr] at h
        cases h
        intro q hq
        rcases List.mem_cons.1 hq with rfl | hq
        · have := rdP_ok hp
          exact ⟨this.1, by omega⟩
        · exact rdN_ok hr q hq
theorem rdL_ok {b : List UInt8} {ps : List Pr} (h : rdL b = some ps) : ∀ p ∈ ps, p.Ok ∧ 0 < p.c := by
  unfold rdL at h
  dsimp only at h
  cases hr : rdN (mUint b.length (some b)).1 0 (mUint b.length (some b)).2 with
  | none => rw [hr] at h; cases h
  | some y =>
    obtain ⟨ps1, s2⟩ := y
    rw [hr] at h
    match s2 with
    | none => cases h
    | some [] => cases h; exact rdN_ok hr
    | some (_ :: _) => cases h
theorem nodup_len : ∀ {l U : List Nat}, l.Nodup → (∀ x ∈ l, x ∈ U) → l.length ≤ U.length
  | [], _, _, _ => Nat.zero_le _
  | x :: l, U, hn, hs => by
    have hn2 := List.nodup_cons.1 hn
    have hx := hs x (by simp)
    have h1 := nodup_len (l := l) (U := U.erase x) hn2.2 fun y hy => (List.mem_erase_of_ne (fun e => hn2.1 (by rw [← e]; exact hy))).2 (hs y (by simp [hy]))
    rw [List.length_erase_of_mem hx] at h1
    have := List.length_pos_of_mem hx
    rw [List.length_cons]
    omega
/-- What is known is in order, and of these clients. -/
def Inv (U : List Nat) (a : Awr) : Prop := ∀ e ∈ a.es, e.p.Ok ∧ 0 < e.p.c ∧ e.p.c ∈ U
def Told' (U : List Nat) (b : List UInt8) : Prop := ∀ ps, rdL b = some ps → ∀ p ∈ ps, p.Ok ∧ 0 < p.c ∧ p.c ∈ U
theorem Inv.mono {U V : List Nat} {a : Awr} (h : Inv U a) (hs : ∀ x ∈ U, x ∈ V) : Inv V a := fun e he => ⟨(h e he).1, (h e he).2.1, hs _ (h e he).2.2⟩
theorem Told'.mono {U V : List Nat} {b : List UInt8} (h : Told' U b) (hs : ∀ x ∈ U, x ∈ V) : Told' V b := fun ps hp p hm => ⟨(h ps hp p hm).1, (h ps hp p hm).2.1, hs _ (h ps hp p hm).2.2⟩
theorem Inv.len {U : List Nat} {a : Awr} (h : Inv U a) (hs : Srt a.es) : a.es.length ≤ U.length := by
  have h1 : (a.es.map fun e => e.p.c).Nodup := List.Pairwise.map _ (fun _ _ h => by omega) hs
  have := nodup_len h1 (U := U) fun x hx => by
    obtain ⟨e, he, rfl⟩ := List.mem_map.1 hx
    exact (h e he).2.2
  rwa [List.length_map] at this
theorem Inv.take1 {U : List Nat} {a : Awr} {p : Pr} (h : Inv U a) (hp : p.Ok ∧ 0 < p.c ∧ p.c ∈ U) : Inv U (a.take1 p).1 := by
  unfold Awr.take1
  split
  · exact h
  · split
    · exact h
    · intro e he
      rcases ins_mem he with rfl | he
      · exact hp
      · exact h e he
theorem Inv.takeL {U : List Nat} : ∀ {l : List Pr} {a : Awr}, Inv U a → (∀ p ∈ l, p.Ok ∧ 0 < p.c ∧ p.c ∈ U) → Inv U (a.takeL l).1
  | [], _, h, _ => h
  | p :: l, a, h, hl => Inv.takeL (l := l) (h.take1 (hl p (by simp))) fun q hq => hl q (by simp [hq])
theorem takeL_cl : ∀ (l : List Pr) (a : Awr), (a.takeL l).1.client = a.client
  | [], _ => rfl
  | p :: l, a => by
    show ((a.take1 p).1.takeL l).1.client = a.client
    rw [takeL_cl l]
    unfold Awr.take1
    split
    · rfl
    · split <;> rfl
theorem Inv.take {U : List Nat} {a : Awr} {b : List UInt8} (h : Inv U a) (hb : Told' U b) : Inv U (a.take b).1 ∧ (a.take b).1.client = a.client := by
  unfold Awr.take
  cases hr : rdL b with
  | none => exact ⟨h, rfl⟩
  | some l => exact ⟨h.takeL (hb l hr), takeL_cl l a⟩
theorem Inv.say {U : List Nat} {a : Awr} {s : ByteArray} {g : Bool} (h : Inv U a) (hc : a.client ≤ 3) (h0 : 0 < a.client) (hU : a.client ∈ U) (ho : a.own < 9007199254740991) (hs : s.size ≤ 256) (hg : g = true → s = ⟨#[]⟩) : Inv U (a.say s g) ∧ Told' U (wrL [a.mine s g]) := by
  have hok : (a.mine s g).Ok ∧ 0 < (a.mine s g).c ∧ (a.mine s g).c ∈ U := ⟨mine_ok (by omega) ho hs hg, h0, hU⟩
  constructor
  · intro e he
    rcases ins_mem he with rfl | he
    · exact hok
    · exact h e he
  · intro ps hp p hm
    rw [rdL_wr [a.mine s g] (Oks.one hok.1 hok.2.1) (by simp)] at hp
    cases hp
    obtain rfl := List.mem_singleton.1 hm
    exact hok
theorem Inv.all {U : List Nat} {a : Awr} (h : Inv U a) (hs : Srt a.es) (hl : a.es.length ≤ 1000000) : Told' U (wrL (a.es.map (·.p))) := by
  intro ps hp p hm
  have hall : ∀ x ∈ a.es.map (·.p), x.Ok ∧ 0 < x.c ∧ x.c ∈ U := by
    intro x hx
    obtain ⟨e, he, rfl⟩ := List.mem_map.1 hx
    exact h e he
  rw [rdL_wr _ (Oks_of (fun x hx => (hall x hx).1) (fun x hx => (hall x hx).2.1) (List.Pairwise.map _ (fun _ _ h => h) hs)) (by rw [List.length_map]; omega)] at hp
  cases hp
  exact hall p hm
theorem Told'.nil (U : List Nat) : Told' U [] := by
  intro ps hp
  have : rdL [] = none := rfl
  rw [this] at hp
  cases hp
theorem Told'.zero (U : List Nat) : Told' U [0] := by
  intro ps hp p hm
  have : rdL [0] = some [] := rfl
  rw [this] at hp
  cases hp
  cases hm
/-- The clients that bytes tell of. -/
def tells (b : List UInt8) : List Nat := ((rdL b).getD []).map (·.c)
theorem tells_len (b : List UInt8) : (tells b).length ≤ b.length := by
  unfold tells
  rw [List.length_map]
  cases h : rdL b with
  | none => exact Nat.zero_le _
  | some ps => exact rdL_len h
theorem Told'.any (U : List Nat) (b : List UInt8) : Told' (U ++ tells b) b := by
  intro ps hp p hm
  have := rdL_ok hp p hm
  refine ⟨this.1, this.2, List.mem_append.2 (.inr ?_)⟩
  unfold tells
  rw [hp]
  exact List.mem_map.2 ⟨p, hm, rfl⟩
theorem Inv.sm {U : List Nat} {a : Awr} (h : Inv U a) : a.Sm := fun e he => ⟨(h e he).1.1, (h e he).1.2.2.1, (h e he).1.2.2.2.1⟩
theorem Inv.bytes {U : List Nat} {a : Awr} (h : Inv U a) (hl : a.es.length ≤ 300000) : (wrL (a.es.map (·.p))).length ≤ 100000000 := by
  have h1 := wrs_sm h.sm.all
  have h2 := Lib.uvarint_length64 (show (a.es.map (·.p)).length < 18446744073709551616 by rw [List.length_map]; omega)
  rw [List.length_map] at h1
  unfold wrL
  rw [List.length_append]
  omega
end Aw
namespace Aw
open Go Go.RowKit Sx Wire
structure Sep (B0 pa qa ta n : Nat) (p mb q : Nat → Nat) : Prop where
  pp : ∀ i j, i < n → j < n → i ≠ j → p i ≠ p j
  mm : ∀ i j, i < n → j < n → i ≠ j → mb i ≠ mb j
  qq : ∀ i j, i < n → j < n → i ≠ j → q i ≠ q j
  pm : ∀ i j, i < n → j < n → p i ≠ mb j
  pq : ∀ i j, i < n → j < n → p i ≠ q j
  mq : ∀ i j, i < n → j < n → mb i ≠ q j
  pr : ∀ i, i < n → (p i ≠ pa ∧ p i ≠ qa ∧ p i ≠ ta) ∧ (mb i ≠ pa ∧ mb i ≠ qa ∧ mb i ≠ ta) ∧ q i ≠ pa ∧ q i ≠ qa ∧ q i ≠ ta
  d : pa ≠ qa ∧ pa ≠ ta ∧ qa ≠ ta
  lo : (B0 ≤ pa ∧ B0 ≤ qa ∧ B0 ≤ ta) ∧ ∀ i, i < n → B0 ≤ p i ∧ B0 ≤ mb i ∧ B0 ≤ q i
def cp (n : Nat) (f : Nat → Nat) (i : Nat) : Value := if i < n then .pointer (some ⟨f i, 0, none⟩) else .pointer none
/-- Bytes in a slice that may be cut. -/
def BsC (w : World) (v : Value) (l : List UInt8) : Prop := Ints w .u8 v (nums l) ∧ ∃ x c, v = .slice x l.length c ∧ l.length ≤ c
theorem BsC.own {w : World} {B : Nat} {v : Value} {l : List UInt8} (h : w.ownsRow B 5 1 v l.length (l.map bc)) : BsC w v l := by
  refine ⟨Ints.ofO h, ?_⟩
  obtain ⟨x, c, e, hc⟩ := own_form h
  exact ⟨x, c, e, hc⟩
theorem BsC.nil (w : World) : BsC w (.slice none 0 0) [] := ⟨⟨0, 0, 0, .inr ⟨⟨none, rfl⟩, rfl⟩, fun e => absurd rfl e, fun _ hj => absurd hj (Nat.not_lt_zero _)⟩, none, 0, rfl, Nat.le_refl _⟩
theorem BsC.below {w w' : World} {v : Value} {l : List UInt8} {B : Nat} (h : BsC w v l) (hb : Below B w w') (hB : w.heap.size ≤ B) : BsC w' v l := ⟨h.1.below hb hB, h.2⟩
structure Tri (w0 A : World) (pa qa ta n : Nat) (p mb q : Nat → Nat) (a r : Nat → Awr) (tv : Nat → Value) (tb : Nat → List UInt8) : Prop where
  ka : Blk A pa [cp n p 0, cp n p 1, cp n p 2] 57
  kq : Blk A qa [cp n q 0, cp n q 1, cp n q 2] 58
  kt : Blk A ta [tv 0, tv 1, tv 2] 59
  aws : ∀ i, i < n → AwAt A (p i) (mb i) (a i)
  res : ∀ i, i < n → RAt A (q i) (r i)
  bys : ∀ i, i < 3 → BsC A (tv i) (tb i)
  sep : Sep w0.heap.size pa qa ta n p mb q
  bel : Below w0.heap.size w0 A
def up {α : Type} (f : Nat → α) (k : Nat) (v : α) : Nat → α := fun i => if i = k then v else f i
theorem up_same {α : Type} (f : Nat → α) (k : Nat) (v : α) : up f k v k = v := if_pos rfl
theorem up_ne {α : Type} (f : Nat → α) {k i : Nat} (v : α) (h : i ≠ k) : up f k v i = f i := if_neg h
theorem up_id {α : Type} (f : Nat → α) (k : Nat) : up f k (f k) = f := by
  funext i
  unfold up
  split
  · rename_i h; rw [h]
  · rfl
variable {w0 A A' : World} {pa qa ta n : Nat} {p mb q : Nat → Nat} {a r : Nat → Awr} {tv : Nat → Value} {tb : Nat → List UInt8}
theorem Tri.below (h : Tri w0 A pa qa ta n p mb q a r tv tb) (hb : Below A.heap.size A A') : Tri w0 A' pa qa ta n p mb q a r tv tb :=
  ⟨h.ka.below hb h.ka.lt, h.kq.below hb h.kq.lt, h.kt.below hb h.kt.lt, fun i hi => (h.aws i hi).below hb, fun i hi => (h.res i hi).below hb, fun i hi => (h.bys i hi).below hb (Nat.le_refl _), h.sep, h.bel.trans (hb.mono h.bel.size)⟩
/-- The program's one k went on. -/
theorem Tri.setA (h : Tri w0 A pa qa ta n p mb q a r tv tb) {k : Nat} (hk : k < n) {x : Awr} (hA : AwAt A' (p k) (mb k) x) (hc : Chg [p k, mb k] A A') : Tri w0 A' pa qa ta n p mb q (up a k x) r tv tb := by
  have hns : NS A [p k, mb k] := (h.aws k hk).ns
  have hpr := h.sep.pr k hk
  refine ⟨hc.blk h.ka ?_, hc.blk h.kq ?_, hc.blk h.kt ?_, fun i hi => ?_, fun i hi => ?_, fun i hi => ?_, h.sep, h.bel.trans (hc.below ?_ h.bel.size)⟩
  · simp [Ne.symm hpr.1.1, Ne.symm hpr.2.1.1]
  · simp [Ne.symm hpr.1.2.1, Ne.symm hpr.2.1.2.1]
  · simp [Ne.symm hpr.1.2.2, Ne.symm hpr.2.1.2.2]
  · by_cases e : i = k
    · subst e
      rw [up_same]
      exact hA
    · rw [up_ne _ _ e]
      refine (h.aws i hi).chg hc ?_ ?_
      · simp [h.sep.pp i k hi hk e, h.sep.pm i k hi hk]
      · simp [Ne.symm (h.sep.pm k i hk hi), h.sep.mm i k hi hk e]
  · refine (h.res i hi).chg hc ?_ hns
    simp [Ne.symm (h.sep.pq k i hk hi), Ne.symm (h.sep.mq k i hk hi)]
  · exact ⟨(h.aws k hk).ints (h.bys i hi).1 hc, (h.bys i hi).2⟩
  · intro b hb
    simp only [List.mem_cons, List.not_mem_nil, or_false] at hb
    rcases hb with rfl | rfl
    · exact (h.sep.lo.2 k hk).1
    · exact (h.sep.lo.2 k hk).2.1
/-- The document's one k went on. -/
theorem Tri.setR (h : Tri w0 A pa qa ta n p mb q a r tv tb) {k : Nat} (hk : k < n) {x : Awr} (hR : RAt A' (q k) x) (hc : Chg [q k] A A') : Tri w0 A' pa qa ta n p mb q a (up r k x) tv tb := by
  have hns : NS A [q k] := (h.res k hk).ns
  have hpr := h.sep.pr k hk
  refine ⟨hc.blk h.ka ?_, hc.blk h.kq ?_, hc.blk h.kt ?_, fun i hi => ?_, fun i hi => ?_, fun i hi => ?_, h.sep, h.bel.trans (hc.below ?_ h.bel.size)⟩
  · simp [Ne.symm hpr.2.2.1]
  · simp [Ne.symm hpr.2.2.2.1]
  · simp [Ne.symm hpr.2.2.2.2]
  · refine (h.aws i hi).chg hc ?_ ?_
    · simp [h.sep.pq i k hi hk]
    · simp [h.sep.mq i k hi hk]
  · by_cases e : i = k
    · subst e
      rw [up_same]
      exact hR
    · rw [up_ne _ _ e]
      refine (h.res i hi).chg hc ?_ hns
      simp [h.sep.qq i k hi hk e]
  · exact ⟨(h.res k hk).ints (h.bys i hi).1 hc, (h.bys i hi).2⟩
  · intro b hb
    simp only [List.mem_cons, List.not_mem_nil, or_false] at hb
    subst hb
    exact (h.sep.lo.2 k hk).2.2
/-- What k told is kept. -/
theorem Tri.setT (h : Tri w0 A pa qa ta n p mb q a r tv tb) {k : Nat} (hk : k < 3) {v : Value} {b : List UInt8} (hv : BsC A v b) : Tri w0 (A.putObj ta (.cells ([tv 0, tv 1, tv 2].set k v).toArray 59)) pa qa ta n p mb q a r (up tv k v) (up tb k b) := by
  have hc : Chg [ta] A (A.putObj ta (.cells ([tv 0, tv 1, tv 2].set k v).toArray 59)) := (Chg.refl _ _).put (.inl (by simp)) _
  have hcell : ∀ off z, A.cell? ⟨ta, off, none⟩ = some z → ∃ x c d, z = .slice x c d := by
    intro off z hz
    rw [h.kt.cell] at hz
    match off, hz with
    | 0, hz => obtain ⟨x, c, e, _⟩ := (h.bys 0 (by omega)).2; simp at hz; exact ⟨_, _, _, hz.symm.trans e⟩
    | 1, hz => obtain ⟨x, c, e, _⟩ := (h.bys 1 (by omega)).2; simp at hz; exact ⟨_, _, _, hz.symm.trans e⟩
    | 2, hz => obtain ⟨x, c, e, _⟩ := (h.bys 2 (by omega)).2; simp at hz; exact ⟨_, _, _, hz.symm.trans e⟩
    | n + 3, hz => simp at hz
  have hns : NS A [ta] := by
    intro b hb off s hs
    obtain rfl : b = ta := by simpa using hb
    obtain ⟨x, c, d, e⟩ := hcell off _ hs
    cases e
  have hn8 : ∀ b ∈ [ta], N8 A b := by
    intro b hb off z hz
    obtain rfl : b = ta := by simpa using hb
    obtain ⟨x, c, d, e⟩ := hcell off _ hz
    cases e
  have hlt := h.kt.lt
  refine ⟨hc.blk h.ka (by simp [h.sep.d.2.1]), hc.blk h.kq (by simp [h.sep.d.2.2]), ?_, fun i hi => ?_, fun i hi => ?_, fun i hi => ?_, h.sep, h.bel.trans (hc.below ?_ h.bel.size)⟩
  · have e : [tv 0, tv 1, tv 2].set k v = [up tv k v 0, up tv k v 1, up tv k v 2] := by
      match k, hk with
      | 0, _ => rfl
      | 1, _ => rfl
      | 2, _ => rfl
    rw [e]
    exact Blk.put_same hlt _ _
  · have hpr := h.sep.pr i hi
    exact (h.aws i hi).chg hc (by simp [hpr.1.2.2]) (by simp [hpr.2.1.2.2])
  · have hpr := h.sep.pr i hi
    exact (h.res i hi).chg hc (by simp [hpr.2.2.2.2]) hns
  · by_cases e : i = k
    · subst e
      rw [up_same, up_same]
      exact ⟨Wire.Ints.chg hv.1 hc hn8, hv.2⟩
    · rw [up_ne _ _ e, up_ne _ _ e]
      exact ⟨Wire.Ints.chg (h.bys i hi).1 hc hn8, (h.bys i hi).2⟩
  · intro b hb
    simp only [List.mem_cons, List.not_mem_nil, or_false] at hb
    subst hb
    exact h.sep.lo.1.2.2
theorem cp_at (f : Nat → Nat) {k : Nat} (hk : k < 3) : [cp 3 f 0, cp 3 f 1, cp 3 f 2][k]? = some (.pointer (some ⟨f k, 0, none⟩)) := by
  match k, hk with
  | 0, _ => rfl
  | 1, _ => rfl
  | 2, _ => rfl
theorem tv_at (f : Nat → Value) {k : Nat} (hk : k < 3) : [f 0, f 1, f 2][k]? = some (f k) := by
  match k, hk with
  | 0, _ => rfl
  | 1, _ => rfl
  | 2, _ => rfl
/-- One more of each, made anew. -/
theorem Tri.more (h : Tri w0 A pa qa ta n p mb q a r tv tb) (hn : n < 3) {A1 A2 : World} {x y z : Nat} {na nr : Awr} (hx : A.heap.size ≤ x) (hy : A.heap.size ≤ y) (hA1 : AwAt A1 x y na) (hb1 : Below A.heap.size A A1) (hz : A1.heap.size ≤ z) (hR : RAt A2 z nr) (hb2 : Below A1.heap.size A1 A2) :
    Tri w0 ((A2.putObj pa (.cells ([cp n p 0, cp n p 1, cp n p 2].set n (.pointer (some ⟨x, 0, none⟩))).toArray 57)).putObj qa (.cells ([cp n q 0, cp n q 1, cp n q 2].set n (.pointer (some ⟨z, 0, none⟩))).toArray 58)) pa qa ta (n + 1) (up p n x) (up mb n y) (up q n z) (up a n na) (up r n nr) tv tb := by
  have b12 := hb1.trans (hb2.mono hb1.size)
  have h2 := h.below b12
  have hl1 := hA1.lt
  have hl2 := hR.lt
  have hlk := h.ka.lt
  have hlq := h.kq.lt
  have hlt := h.kt.lt
  have hs1 := hb1.size
  have hAl : ∀ i, i < n → p i < A.heap.size ∧ mb i < A.heap.size ∧ q i < A.heap.size := fun i hi => ⟨(h.aws i hi).lt.1, (h.aws i hi).lt.2, (h.res i hi).lt⟩
  have hcA : ∀ f v, f = p ∨ f = q → [cp n f 0, cp n f 1, cp n f 2].set n (.pointer (some ⟨v, 0, none⟩)) = [cp (n + 1) (up f n v) 0, cp (n + 1) (up f n v) 1, cp (n + 1) (up f n v) 2] := by
    intro f v _
    match n, hn with
    | 0, _ => rfl
    | 1, _ => rfl
    | 2, _ => rfl
  rw [hcA p x (.inl rfl), hcA q z (.inr rfl)]
  have hA2x : AwAt A2 x y na := hA1.below hb2
  have hc : Chg [pa, qa] A2 ((A2.putObj pa (.cells [cp (n + 1) (up p n x) 0, cp (n + 1) (up p n x) 1, cp (n + 1) (up p n x) 2].toArray 57)).putObj qa (.cells [cp (n + 1) (up q n z) 0, cp (n + 1) (up q n z) 1, cp (n + 1) (up q n z) 2].toArray 58)) := ((Chg.refl _ _).put (.inl (by simp)) _).put (.inl (by simp)) _
  have hcell : ∀ b ∈ [pa, qa], ∀ off v, A2.cell? ⟨b, off, none⟩ = some v → ∃ x, v = .pointer x := by
    intro b hb off v hv
    simp only [List.mem_cons, List.not_mem_nil, or_false] at hb
    have hcp : ∀ f i, ∃ x, cp n f i = .pointer x := fun f i => by unfold cp; split <;> exact ⟨_, rfl⟩
    rcases hb with rfl | rfl
    · rw [h2.ka.cell] at hv
      have hm := List.mem_of_getElem? hv
      simp only [List.mem_cons, List.not_mem_nil, or_false] at hm
      rcases hm with rfl | rfl | rfl <;> exact hcp _ _
    · rw [h2.kq.cell] at hv
      have hm := List.mem_of_getElem? hv
      simp only [List.mem_cons, List.not_mem_nil, or_false] at hm
      rcases hm with rfl | rfl | rfl <;> exact hcp _ _
  have hns : NS A2 [pa, qa] := fun b hb off s hs => by
    obtain ⟨_, e⟩ := hcell b hb off _ hs
    cases e
  have hn8 : ∀ b ∈ [pa, qa], N8 A2 b := fun b hb off s hs => by
    obtain ⟨_, e⟩ := hcell b hb off _ hs
    cases e
  have hsep := h.sep
  have hxy : x ≠ y := by
    rintro rfl
    obtain ⟨k1, ⟨m, k2, _⟩, _⟩ := hA1
    have e1 := k1.cell 0
    rw [k2.not_cells] at e1
    cases e1
  refine ⟨?_, ?_, hc.blk h2.kt (by simp [Ne.symm hsep.d.2.1, Ne.symm hsep.d.2.2]), fun i hi => ?_, fun i hi => ?_, fun i hi => ⟨Wire.Ints.chg (h2.bys i hi).1 hc hn8, (h2.bys i hi).2⟩, ⟨?_, ?_, ?_, ?_, ?_, ?_, ?_, hsep.d, hsep.lo.1, ?_⟩, h2.bel.trans (hc.below ?_ h2.bel.size)⟩
  · exact Blk.put_ne hsep.d.1 (Blk.put_same h2.ka.lt _ _)
  · exact Blk.put_same (by rw [World.putObj_size]; exact h2.kq.lt) _ _
  · by_cases e : i = n
    · subst e
      rw [up_same, up_same, up_same]
      exact hA2x.chg hc (by simp; omega) (by simp; omega)
    · have hin : i < n := by omega
      rw [up_ne _ _ e, up_ne _ _ e, up_ne _ _ e]
      have hpr := hsep.pr i hin
      exact (h2.aws i hin).chg hc (by simp [hpr.1.1, hpr.1.2.1]) (by simp [hpr.2.1.1, hpr.2.1.2.1])
  · by_cases e : i = n
    · subst e
      rw [up_same, up_same]
      exact hR.chg hc (by simp; omega) hns
    · have hin : i < n := by omega
      rw [up_ne _ _ e, up_ne _ _ e]
      have hpr := hsep.pr i hin
      exact (h2.res i hin).chg hc (by simp [hpr.2.2.1, hpr.2.2.2.1]) hns
  · intro i j hi hj hne
    unfold up
    by_cases e1 : i = n
    · by_cases e2 : j = n
      · omega
      · rw [if_pos e1, if_neg e2]
        have := hAl j (by omega)
        omega
    · by_cases e2 : j = n
      · rw [if_neg e1, if_pos e2]
        have := hAl i (by omega)
        omega
      · rw [if_neg e1, if_neg e2]
        exact hsep.pp i j (by omega) (by omega) hne
  · intro i j hi hj hne
    unfold up
    by_cases e1 : i = n
    · by_cases e2 : j = n
      · omega
      · rw [if_pos e1, if_neg e2]
        have := hAl j (by omega)
        omega
    · by_cases e2 : j = n
      · rw [if_neg e1, if_pos e2]
        have := hAl i (by omega)
        omega
      · rw [if_neg e1, if_neg e2]
        exact hsep.mm i j (by omega) (by omega) hne
  · intro i j hi hj hne
    unfold up
    by_cases e1 : i = n
    · by_cases e2 : j = n
      · omega
      · rw [if_pos e1, if_neg e2]
        have := hAl j (by omega)
        omega
    · by_cases e2 : j = n
      · rw [if_neg e1, if_pos e2]
        have := hAl i (by omega)
        omega
      · rw [if_neg e1, if_neg e2]
        exact hsep.qq i j (by omega) (by omega) hne
  · intro i j hi hj
    unfold up
    by_cases e1 : i = n
    · by_cases e2 : j = n
      · rw [if_pos e1, if_pos e2]; exact hxy
      · rw [if_pos e1, if_neg e2]
        have := hAl j (by omega)
        omega
    · by_cases e2 : j = n
      · rw [if_neg e1, if_pos e2]
        have := hAl i (by omega)
        omega
      · rw [if_neg e1, if_neg e2]
        exact hsep.pm i j (by omega) (by omega)
  · intro i j hi hj
    unfold up
    by_cases e1 : i = n
    · by_cases e2 : j = n
      · rw [if_pos e1, if_pos e2]; omega
      · rw [if_pos e1, if_neg e2]
        have := hAl j (by omega)
        omega
    · by_cases e2 : j = n
      · rw [if_neg e1, if_pos e2]
        have := hAl i (by omega)
        omega
      · rw [if_neg e1, if_neg e2]
        exact hsep.pq i j (by omega) (by omega)
  · intro i j hi hj
    unfold up
    by_cases e1 : i = n
    · by_cases e2 : j = n
      · rw [if_pos e1, if_pos e2]; omega
      · rw [if_pos e1, if_neg e2]
        have := hAl j (by omega)
        omega
    · by_cases e2 : j = n
      · rw [if_neg e1, if_pos e2]
        have := hAl i (by omega)
        omega
      · rw [if_neg e1, if_neg e2]
        exact hsep.mq i j (by omega) (by omega)
  · intro i hi
    unfold up
    by_cases e1 : i = n
    · rw [if_pos e1, if_pos e1, if_pos e1]
      omega
    · rw [if_neg e1, if_neg e1, if_neg e1]
      exact hsep.pr i (by omega)
  · intro i hi
    have hlo := h.bel.size
    unfold up
    by_cases e1 : i = n
    · rw [if_pos e1, if_pos e1, if_pos e1]
      omega
    · rw [if_neg e1, if_neg e1, if_neg e1]
      exact hsep.lo.2 i (by omega)
  · intro b hb
    simp only [List.mem_cons, List.not_mem_nil, or_false] at hb
    rcases hb with rfl | rfl
    · exact hsep.lo.1.1
    · exact hsep.lo.1.2.1
end Aw
namespace Aw
open Go Go.RowKit Sx Wire
open So (Qa)
/-- A step, as it is told: the slice of its bytes, and these. -/
structure Stp where
  what : Int
  who : Int
  frm : Int
  s : ByteArray
  bv : Value
  b : List UInt8
def scs (x : Stp) : List Value := [.int .i64 x.what, .int .i64 x.who, .int .i64 x.frm, .string x.s, x.bv]
structure StpOk (w : World) (x : Stp) : Prop where
  b : BsC w x.bv x.b
  ss : x.s.size ≤ 281474976710656
  bs : x.b.length ≤ 281474976710656
def Stps (w : World) (v : Value) (l : List Stp) : Prop := SRows w 5 v (l.map scs) ∧ ∀ x ∈ l, StpOk w x
theorem Stps.below {w w' : World} {v : Value} {l : List Stp} {B : Nat} (h : Stps w v l) (hb : Below B w w') (hB : w.heap.size ≤ B) : Stps w' v l :=
  ⟨h.1.below hb hB, fun x hx => ⟨(h.2 x hx).b.below hb hB, (h.2 x hx).ss, (h.2 x hx).bs⟩⟩
def tot : List Stp → Nat
  | [] => 0
  | x :: l => 1 + x.s.size + x.b.length + tot l
theorem tot_append : ∀ l k : List Stp, tot (l ++ k) = tot l + tot k
  | [], k => by simp [tot]
  | x :: l, k => by
    show 1 + x.s.size + x.b.length + tot (l ++ k) = 1 + x.s.size + x.b.length + tot l + tot k
    rw [tot_append l k]
    omega
theorem tot_take {l : List Stp} {i : Nat} (h : i < l.length) : tot (l.take (i + 1)) = tot (l.take i) + (1 + l[i].s.size + l[i].b.length) := by
  rw [List.take_succ_eq_append_getElem h, tot_append]
  rfl
theorem tot_le (l : List Stp) (i : Nat) : tot (l.take i) ≤ tot l := by
  have : tot (l.take i ++ l.drop i) = tot l := by rw [List.take_append_drop]
  rw [tot_append] at this
  omega
attribute [local irreducible] W Lst Qst Pu seqQ blkQ rndQ cutQ retQ Does Enters IntKind.wrap bits sb World.alloc World.putObj Blk
set_option maxHeartbeats 2000000 in
theorem c_light20 (v : Value) (l : List Stp) (hl : l.length ≤ 9223372036854775807) (w : World) (h : Stps w v l) : Does Try.prog 27 #[v] w fun r w' => ∃ t, r = .bool t ∧ Below w.heap.size w w' ∧ (t = true → l.length ≤ 200 ∧ tot l ≤ 30000) := by
  obtain ⟨v1, v2, rfl⟩ := h.1.form
  rw [List.length_map] at *
  refine Does_of (args := [.slice v1 l.length v2]) Try.func27 (by kernel_rfl) rfl rfl rfl rfl rfl ?_
  (refine Ga ?_)
  refine So.W_cutB (α := Nat × Nat) (fun x => [(0, .slice v1 l.length v2), (3, .int .i64 (x.2 : Int))]) (fun x A => x.2 = tot (l.take x.1) ∧ (x.1 = l.length ∨ 30000 < x.2) ∧ x.2 ≤ 844424930162000 ∧ Below w.heap.size w A) ?_ ?_
  · refine W_loop (α := Nat × Nat) (fun x => [(0, .slice v1 l.length v2), (3, .int .i64 (x.2 : Int)), (4, .int .i64 (x.1 : Int))])
      (fun x A => x.1 ≤ l.length ∧ x.2 = tot (l.take x.1) ∧ x.2 ≤ 844424930162000 ∧ Below w.heap.size w A) (fun x _ => l.length - x.1) (0, 0)
      ⟨Nat.zero_le _, rfl, Nat.zero_le _, Below.refl _ _⟩ ⟨rfl, rfl, rfl, trivial⟩ ?_
    rintro J ⟨i, n⟩ A ⟨hi, hn, hn2, hbA⟩
    dsimp only at hi hn hn2 ⊢
    have hA := h.below hbA (Nat.le_refl _)
    by_cases hil : i < l.length
    · by_cases h3 : n ≤ 30000
      · obtain ⟨b, off, rfl, hbl, hcells⟩ := hA.1.at (i := i) (by rw [List.length_map]; exact hil)
        rw [List.getElem_map] at hcells
        have hok := hA.2 _ (List.getElem_mem hil)
        have htt := tot_take hil
        generalize l[i] = x at *
        obtain ⟨⟨hbi, y1, y2, hbv, _⟩, hss, hbs⟩ := hok
        have hc3 : A.drew.cell? ⟨b, off + i * 5 + 3, none⟩ = some (.string x.s) := hcells 3 _ rfl
        have hc4 : A.drew.cell? ⟨b, off + i * 5 + 4, none⟩ = some (.slice y1 x.b.length y2) := by rw [← hbv]; exact hcells 4 _ rfl
        (refine Ga ?_)
        refine W_draws (fun A' => A' = World.drew _) rfl (by kernel_rfl) rfl ?_
        (refine Qa ?_)
        apply Qst_pu
        · apply P_idx (sz := 5)
          focus rfl
          focus rfl
          focus rfl
          focus rfl
          focus rfl
          focus omega
          focus omega
        focus rfl
        rw [Int.toNat_natCast]
        (refine Qa ?_)
        apply Qst_pu
        · apply P_idx (sz := 5)
          focus rfl
          focus rfl
          focus rfl
          focus rfl
          focus rfl
          focus omega
          focus omega
        focus rfl
        rw [Int.toNat_natCast]
        (refine Qa ?_)
        rintro _ rfl
        (refine Ga ?_)
        refine rndQ_n (α := Nat × Nat) (i + 1, n + (1 + x.s.size + x.b.length)) ⟨by dsimp only; omega, by dsimp only; rw [htt, hn], by dsimp only; omega, Below.drew hbA⟩ ⟨rfl, ?_, ?_, trivial⟩ (by dsimp only; omega)
        · exact congrArg (Value.int .i64) (by omega)
        · exact congrArg (Value.int .i64) (by omega)
      · (refine Ga ?_)
        exact cutQ_n (i, n) ⟨hn, .inr (by dsimp only; omega), hn2, hbA⟩ ⟨rfl, rfl, trivial⟩
    · obtain rfl : i = l.length := by omega
      (refine Ga ?_)
      exact cutQ_n (l.length, n) ⟨hn, .inl rfl, hn2, hbA⟩ ⟨rfl, rfl, trivial⟩
  rintro J ⟨i, n⟩ A ⟨hn, hor, hn2, hbA⟩
  dsimp only at hn hor hn2 ⊢
  by_cases h200 : l.length ≤ 200
  · by_cases h3 : n ≤ 30000
    · (refine Ga ?_)
      (apply retQ1; (focus rfl))
      refine ⟨_, rfl, hbA, fun _ => ⟨h200, ?_⟩⟩
      rcases hor with rfl | h
      · rw [List.take_of_length_le (Nat.le_refl _)] at hn
        omega
      · omega
    · (refine Ga ?_)
      (apply retQ1; (focus rfl))
      exact ⟨_, rfl, hbA, fun h => by cases h⟩
  · (refine Ga ?_)
    (apply retQ1; (focus rfl))
    exact ⟨_, rfl, hbA, fun h => by cases h⟩
end Aw
namespace Aw
open Go Go.RowKit Sx Wire
instance : Inhabited Awr := ⟨⟨0, 0, 0, 0, []⟩⟩
structure Knows (U : List Nat) (a : Nat → Awr) (tb : Nat → List UInt8) : Prop where
  cl : ∀ k, k < 3 → (a k).client = k + 1
  inv : ∀ k, k < 3 → Inv U (a k)
  told : ∀ k, k < 3 → Told' U (tb k)
  len : ∀ k, k < 3 → (tb k).length ≤ 100000
  us : ∀ k, k < 3 → k + 1 ∈ U
theorem Knows.mono {U V : List Nat} {a : Nat → Awr} {tb : Nat → List UInt8} (h : Knows U a tb) (hs : ∀ x ∈ U, x ∈ V) : Knows V a tb :=
  ⟨h.cl, fun k hk => (h.inv k hk).mono hs, fun k hk => (h.told k hk).mono hs, h.len, fun k hk => hs _ (h.us k hk)⟩
theorem Knows.setA {U : List Nat} {a : Nat → Awr} {tb : Nat → List UInt8} (h : Knows U a tb) {k : Nat} {x : Awr} (hc : x.client = k + 1) (hx : Inv U x) : Knows U (up a k x) tb := by
  refine ⟨fun j hj => ?_, fun j hj => ?_, h.told, h.len, h.us⟩
  · unfold up
    split
    · rename_i e; rw [hc, e]
    · exact h.cl j hj
  · unfold up
    split
    · exact hx
    · exact h.inv j hj
theorem Knows.setT {U : List Nat} {a : Nat → Awr} {tb : Nat → List UInt8} (h : Knows U a tb) (k : Nat) {b : List UInt8} (hb : Told' U b) (hl : b.length ≤ 100000) : Knows U a (up tb k b) := by
  refine ⟨h.cl, h.inv, fun j hj => ?_, fun j hj => ?_, h.us⟩
  · unfold up
    split
    · exact hb
    · exact h.told j hj
  · unfold up
    split
    · exact hl
    · exact h.len j hj
variable {w0 A A' : World} {pa qa ta n : Nat} {p mb q : Nat → Nat} {a r : Nat → Awr} {tv : Nat → Value} {tb : Nat → List UInt8}
/-- All that is known is small. -/
structure Small (U : List Nat) (x : Awr) : Prop where
  es : x.es.length ≤ U.length
  fit : ∀ e ∈ x.es, e.p.Fit
  by' : U.length ≤ 300000 → (wrL (x.es.map (·.p))).length ≤ 100000000
  by2 : U.length ≤ 100000 → (wrL (x.es.map (·.p))).length ≤ 50000000
theorem Inv.small {U : List Nat} {x : Awr} (h : Inv U x) (hs : Srt x.es) : Small U x :=
  ⟨h.len hs, fun e he => (h e he).1.fit, fun hU => h.bytes (by have := h.len hs; omega), fun hU => by
    have h0 := h.len hs
    have h1 := wrs_sm h.sm.all
    have h2 := Lib.uvarint_length64 (show (x.es.map (·.p)).length < 18446744073709551616 by rw [List.length_map]; omega)
    rw [List.length_map] at h1
    unfold wrL
    rw [List.length_append]
    omega⟩
theorem RAt.tick {A : World} {b : Nat} {x : Awr} (h : RAt A b x) : ∃ y c, Blk A b [.int .u64 (x.client : Int), .int .u64 (x.own : Int), .int .u64 x.now, .int .u64 x.last, .slice y x.es.length c] 65 ∧
    ∀ t : Int, RAt (A.putObj b (.cells [.int .u64 (x.client : Int), .int .u64 (x.own : Int), .int .u64 t, .int .u64 x.last, .slice y x.es.length c].toArray 65)) b { x with now := t } ∧ Chg [b] A (A.putObj b (.cells [.int .u64 (x.client : Int), .int .u64 (x.own : Int), .int .u64 t, .int .u64 x.last, .slice y x.es.length c].toArray 65)) := by
  have hns := h.ns
  have hlt := h.lt
  obtain ⟨y, c, h1, h2, h3, h4⟩ := h
  refine ⟨y, c, h1, fun t => ?_⟩
  have hc : Chg [b] A (A.putObj b (.cells [.int .u64 (x.client : Int), .int .u64 (x.own : Int), .int .u64 t, .int .u64 x.last, .slice y x.es.length c].toArray 65)) := (Chg.refl _ _).put (.inl (by simp)) _
  exact ⟨⟨y, c, Blk.put_same hlt _ _, SRows.chgE h2 hc hns, h3, h4⟩, hc⟩
/-- All three are there, nobody has told anything. -/
def Begun (last : Int) (n : Nat) (a : Nat → Awr) (tb : Nat → List UInt8) : Prop := (∀ k, k < n → a k = ⟨k + 1, max last 1, 0, 0, []⟩) ∧ (∀ k, k < n → tb k = [0])
theorem Begun.knows {last : Int} (h : Begun last 3 a tb) : Knows [1, 2, 3] a tb := by
  refine ⟨fun k hk => by rw [h.1 k hk], fun k hk => ?_, fun k hk => by rw [h.2 k hk]; exact Told'.zero _, fun k hk => by rw [h.2 k hk]; simp, fun k hk => by simp; omega⟩
  rw [h.1 k hk]
  intro e he
  cases he
def Pl (w0 A : World) (pa qa ta n : Nat) : Prop := ∃ U p mb q a tv tb, Tri w0 A pa qa ta 3 p mb q a a tv tb ∧ Knows U a tb ∧ U.length ≤ n
theorem Pl.below {A A' : World} (h : Pl w0 A pa qa ta n) (hb : Below A.heap.size A A') : Pl w0 A' pa qa ta n := by
  obtain ⟨U, p, mb, q, a, tv, tb, T, K, h⟩ := h
  exact ⟨U, p, mb, q, a, tv, tb, T.below hb, K, h⟩
theorem Pl.mono {A : World} {n m : Nat} (h : Pl w0 A pa qa ta n) (hm : n ≤ m) : Pl w0 A pa qa ta m := by
  obtain ⟨U, p, mb, q, a, tv, tb, T, K, h⟩ := h
  exact ⟨U, p, mb, q, a, tv, tb, T, K, Nat.le_trans h hm⟩
end Aw
namespace Aw
open Go Go.RowKit Sx Wire
def Awr.tell (a : Awr) (s : ByteArray) : Awr × List UInt8 × Int := if s.size ≤ 256 ∧ a.own < 9007199254740991 then (a.say s false, wrL [a.mine s false], 0) else (a, [], 200)
def Awr.leave (a : Awr) : Awr × List UInt8 := if a.own < 9007199254740991 then (a.say ⟨#[]⟩ true, wrL [a.mine ⟨#[]⟩ true]) else (a, [])
theorem c_TellM (p mb : Nat) (a : Awr) (s : ByteArray) (hc : a.client < 18446744073709551616) (w : World) (h : AwAt w p mb a) :
    Does Try.prog 12 #[.pointer (some ⟨p, 0, none⟩), .string s] w fun v w' => ∃ u, v = .tuple #[u, .int .i64 (a.tell s).2.2] ∧ BsC w' u (a.tell s).2.1 ∧ AwAt w' p mb (a.tell s).1 ∧ Chg [p, mb] w w' := by
  unfold Awr.tell
  by_cases ht : s.size ≤ 256 ∧ a.own < 9007199254740991
  · rw [if_pos ht]
    exact (c_TellO p mb a s hc ht.1 ht.2 w h).mono fun v w' ⟨⟨u, e, ho⟩, hA, hch⟩ => ⟨u, e, BsC.own ho, hA, hch⟩
  · rw [if_neg ht]
    exact (c_Tell_no p mb a s w h (by omega)).mono fun v w' ⟨e, ew⟩ => ew ▸ ⟨_, e, BsC.nil _, h, Chg.refl _ _⟩
theorem r_TellM (p : Nat) (a : Awr) (s : ByteArray) (hc : a.client < 18446744073709551616) (hel : a.es.length ≤ 100000000) (w : World) (h : RAt w p a) :
    Does Try.prog 17 #[.pointer (some ⟨p, 0, none⟩), .string s] w fun v w' => ∃ u, v = .tuple #[u, .int .i64 (a.tell s).2.2] ∧ BsC w' u (a.tell s).2.1 ∧ RAt w' p (a.tell s).1 ∧ Chg [p] w w' := by
  unfold Awr.tell
  by_cases ht : s.size ≤ 256 ∧ a.own < 9007199254740991
  · rw [if_pos ht]
    exact (r_Tell p a s ht.1 hc ht.2 hel w h).mono fun v w' ⟨⟨u, e, ho⟩, hA, hch⟩ => ⟨u, e, BsC.own ho, hA, hch⟩
  · rw [if_neg ht]
    exact (r_Tell_no p a s w h (by omega)).mono fun v w' ⟨e, ew⟩ => ew ▸ ⟨_, e, BsC.nil _, h, Chg.refl _ _⟩
theorem c_LeaveM (p mb : Nat) (a : Awr) (hc : a.client < 18446744073709551616) (w : World) (h : AwAt w p mb a) :
    Does Try.prog 30 #[.pointer (some ⟨p, 0, none⟩)] w fun v w' => BsC w' v a.leave.2 ∧ AwAt w' p mb a.leave.1 ∧ Chg [p, mb] w w' := by
  unfold Awr.leave
  by_cases ht : a.own < 9007199254740991
  · rw [if_pos ht]
    exact (c_LeaveO p mb a hc ht w h).mono fun v w' ⟨ho, hA, hch⟩ => ⟨BsC.own ho, hA, hch⟩
  · rw [if_neg ht]
    exact (c_Leave_no p mb a w h (by omega)).mono fun v w' ⟨e, ew⟩ => ew ▸ ⟨e ▸ BsC.nil _, h, Chg.refl _ _⟩
theorem r_LeaveM (p : Nat) (a : Awr) (hc : a.client < 18446744073709551616) (hel : a.es.length ≤ 100000000) (w : World) (h : RAt w p a) :
    Does Try.prog 31 #[.pointer (some ⟨p, 0, none⟩)] w fun v w' => BsC w' v a.leave.2 ∧ RAt w' p a.leave.1 ∧ Chg [p] w w' := by
  unfold Awr.leave
  by_cases ht : a.own < 9007199254740991
  · rw [if_pos ht]
    exact (r_Leave p a hc ht hel w h).mono fun v w' ⟨⟨u, e, ho⟩, hA, hch⟩ => ⟨e ▸ BsC.own ho, hA, hch⟩
  · rw [if_neg ht]
    exact (r_Leave_no p a w h (by omega)).mono fun v w' ⟨e, ew⟩ => ew ▸ ⟨e ▸ BsC.nil _, h, Chg.refl _ _⟩
theorem Knows.tell {U : List Nat} {a : Nat → Awr} {tb : Nat → List UInt8} (h : Knows U a tb) {k : Nat} (hk : k < 3) (s : ByteArray) : Knows U (up a k ((a k).tell s).1) tb ∧ Told' U ((a k).tell s).2.1 ∧ ((a k).tell s).2.1.length ≤ 100000 := by
  have hc := h.cl k hk
  unfold Awr.tell
  by_cases ht : s.size ≤ 256 ∧ (a k).own < 9007199254740991
  · rw [if_pos ht]
    obtain ⟨h1, h2⟩ := (h.inv k hk).say (s := s) (g := false) (by omega) (by omega) (by rw [hc]; exact h.us k hk) ht.2 ht.1 (fun e => by cases e)
    refine ⟨h.setA hc h1, h2, ?_⟩
    have := wrL_one_len ((a k).mine s false) (mine_ok (by omega) ht.2 ht.1 (fun e => by cases e))
    exact Nat.le_trans this (by omega)
  · rw [if_neg ht]
    refine ⟨?_, Told'.nil _, Nat.zero_le _⟩
    rw [up_id]
    exact h
theorem Knows.leave {U : List Nat} {a : Nat → Awr} {tb : Nat → List UInt8} (h : Knows U a tb) {k : Nat} (hk : k < 3) : Knows U (up a k (a k).leave.1) tb ∧ Told' U (a k).leave.2 ∧ (a k).leave.2.length ≤ 100000 := by
  have hc := h.cl k hk
  unfold Awr.leave
  by_cases ht : (a k).own < 9007199254740991
  · rw [if_pos ht]
    obtain ⟨h1, h2⟩ := (h.inv k hk).say (s := ⟨#[]⟩) (g := true) (by omega) (by omega) (by rw [hc]; exact h.us k hk) ht (Nat.zero_le _) (fun _ => rfl)
    refine ⟨h.setA hc h1, h2, ?_⟩
    have := wrL_one_len ((a k).mine ⟨#[]⟩ true) (mine_ok (by omega) ht (Nat.zero_le _) (fun _ => rfl))
    exact Nat.le_trans this (by omega)
  · rw [if_neg ht]
    refine ⟨?_, Told'.nil _, Nat.zero_le _⟩
    rw [up_id]
    exact h
theorem cp_at' (f : Nat → Nat) {k : Nat} (hk : k < 3) : [cp 3 f 0, cp 3 f 1, cp 3 f 2][0 + Int.toNat (k : Int)]? = some (.pointer (some ⟨f k, 0, none⟩)) := by
  rw [Int.toNat_natCast, Nat.zero_add]
  exact cp_at f hk
theorem tv_at' (f : Nat → Value) {k : Nat} (hk : k < 3) : [f 0, f 1, f 2][0 + Int.toNat (k : Int)]? = some (f k) := by
  rw [Int.toNat_natCast, Nat.zero_add]
  exact tv_at f hk
theorem StpOk.below {w w' : World} {x : Stp} (h : StpOk w x) (hb : Below w.heap.size w w') : StpOk w' x := ⟨h.b.below hb (Nat.le_refl _), h.ss, h.bs⟩
theorem StpOk.one {w : World} {x : Stp} (h : StpOk w x) : ∀ v ∈ scs x, v.oneCell' = true := fun v hv => by
  obtain ⟨bx, bc', hbv, _⟩ := h.b.2
  unfold scs at hv
  rw [hbv] at hv
  simp only [List.mem_cons, List.not_mem_nil, or_false] at hv
  rcases hv with rfl | rfl | rfl | rfl | rfl <;> rfl
theorem StpOk.chg {w w' : World} {x : Stp} {bs : List Nat} (h : StpOk w x) (hc : Chg bs w w') (h8 : ∀ b ∈ bs, N8 w b) : StpOk w' x := ⟨⟨Wire.Ints.chg h.b.1 hc h8, h.b.2⟩, h.ss, h.bs⟩
section cut
variable {P : Program} {rd : Option Nat} {n : Nat} {Q : Post} {F : Fr} {ds : List Deferred} {w : World}
/-- A cut behind two pieces of code. -/
theorem W_cut2 {α : Type} (vals : α → St) (M : α → World → Prop) {x y z : Code} (h1 : W P rd n x (seqQ P rd n y (cutQ vals M Q ds)) F ds w)
    (h2 : ∀ (J : Fr) (g : α) (w' : World), M g w' → W P rd n z Q (fr J (vals g)) ds w') : W P rd n x (seqQ P rd n (.seq y z) Q) F ds w := So.W_post h1 fun e F ds' w h => by
  cases e with
  | normal => exact W_seq (So.W_post h (So.cut_seq h2))
  | _ => exact h
end cut
end Aw
end Go.Proofs.Ytoljcnlmockpcaa
