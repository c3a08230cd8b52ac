/- The text of a view: its entries. -/
import Derived.Test.YtglfoofclicfpaaDoorVwG
import Derived.Test.YtglfoofclicfpaaDoorText2
namespace Go.Proofs.YtglfoofclicfpaaDoor
set_option maxRecDepth 100000
namespace Vw
open Go Go.RowKit Sx Tl Fl Val Mk
open Utf (rs tl Tabs cutS)
abbrev bs (l : List UInt8) : ByteArray := ⟨l.toArray⟩
theorem bs_add (a b : List UInt8) : bs a ++ bs b = bs (a ++ b) := by
  apply ByteArray.ext
  rw [ByteArray.data_append]
  simp
theorem bs_size (a : List UInt8) : (bs a).size = a.length := by
  show a.toArray.size = _
  simp
theorem bs_data (a : ByteArray) : bs a.data.toList = a := by
  apply ByteArray.ext
  simp
theorem join_flat (L : List (List UInt8)) : Lib.join L [] = L.flatten := by
  unfold Lib.join
  induction L with
  | nil => rfl
  | cons x L ih =>
    cases L with
    | nil => simp [List.intercalate]
    | cons y L =>
      simp only [List.intercalate, List.intersperse, List.flatten_cons, List.nil_append] at ih ⊢
      rw [ih]
def lineE (a k : List UInt8) (v : Vl) : List UInt8 := ([a, [109, 32], Hex.quote k, [61], textV v] : List (List UInt8)).flatten ++ [10]
def markP (q : Mk) : List (List UInt8) := [[32], Hex.quote q.1.data.toList, [61], textV q.2]
def headP (r : Rn) : List (List UInt8) := if r.em then [[101, 32], textV r.v] else [[116, 32], Hex.quote r.tx.data.toList]
def lineR (r : Rn) : List UInt8 := (headP r ++ r.ms.flatMap markP).flatten ++ [10]
/-- Entries of a map: each with what is below it, and those behind it. -/
inductive Ef where
  | nil
  | cons (key : ByteArray) (v : Vl) (kids rest : Ef)
namespace Ef
def len : Ef → Nat
  | nil => 0
  | cons _ _ _ r => r.len + 1
def sz : Ef → Nat
  | nil => 0
  | cons _ _ k r => k.sz + r.sz + 1
def Fit : Ef → Prop
  | nil => True
  | cons key v k r => key.size < 1000000 ∧ v.Fit ∧ v.s.size < 1000000 ∧ k.Fit ∧ r.Fit
end Ef
def linesE : List UInt8 → Ef → List (List UInt8)
  | _, .nil => []
  | a, .cons key v k r => lineE a key.data.toList v :: (linesE (a ++ [32, 32]) k ++ linesE a r)
def ecs (key : ByteArray) (v : Vl) (mv : Value) : List Value := [.string key, .int .i64 v.k, .int .i64 v.n, .float .f64 v.f, .string v.s, mv]
/-- Entries in memory, below A. -/
def EntAt (A : Nat) (w : World) : Option Addr → Nat → Ef → Prop
  | _, _, .nil => True
  | b, i, .cons key v kids rest => (∃ g off a c, b = some ⟨g, off, none⟩ ∧ g < A ∧ (∀ j u, (ecs key v (.slice a kids.len c))[j]? = some u → w.cell? ⟨g, off + i * 6 + j, none⟩ = some u) ∧ EntAt A w a 0 kids) ∧ EntAt A w b (i + 1) rest
theorem EntAt.below {A : Nat} {w w' : World} (hb : Below A w w') : ∀ {f : Ef} {b : Option Addr} {i : Nat}, EntAt A w b i f → EntAt A w' b i f
  | .nil, _, _, _ => trivial
  | .cons _ _ _ _, _, _, ⟨⟨g, off, a, c, h1, h2, h3, h4⟩, h5⟩ => ⟨⟨g, off, a, c, h1, h2, fun j u hu => (World.cell?_of_block (a := ⟨g, _, none⟩) (hb.block g h2)).trans (h3 j u hu), h4.below hb⟩, h5.below hb⟩
/-- A row of texts of one's own. -/
def OwnT (B : Nat) (w : World) (v : Value) (L : List (List UInt8)) : Prop := w.ownsRow B 9 1 v L.length (L.map fun l => .string (bs l))
theorem OwnT.nil (B : Nat) (w : World) : OwnT B w (.slice none 0 0) [] := ⟨rfl, .inl ⟨rfl, rfl⟩⟩
theorem OwnT.below {B : Nat} {w w' : World} {v : Value} {L : List (List UInt8)} (h : OwnT B w v L) (hb : Below w.heap.size w w') : OwnT B w' v L := own_below h hb (Nat.le_refl _)
theorem OwnT.low {B B' : Nat} {w : World} {v : Value} {L : List (List UInt8)} (h : OwnT B w v L) (hB : B' ≤ B) : OwnT B' w v L := by
  refine ⟨h.1, ?_⟩
  rcases h.2 with h | ⟨g, cap, cur, h1, h2, h3⟩
  · exact .inl h
  · exact .inr ⟨g, cap, cur, h1, Nat.le_trans hB h2, h3⟩
theorem OwnT.blk {B b : Nat} {w : World} {L : List (List UInt8)} {n : Nat} (hn : L.length = n) (hB : B ≤ b) (h : Blk w b (L.map fun l => .string (bs l)) 9) (h1 : 1 ≤ n ∧ n ≤ 1000000) : OwnT B w (.slice (some ⟨b, 0, none⟩) n n) L := by
  subst hn
  refine ⟨by rw [List.length_map, Nat.mul_one], .inr ⟨b, L.length, (L.map fun l => Value.string (bs l)).toArray, rfl, hB, h, Nat.le_refl _, by simp only [maxLen]; omega, by simp, ?_⟩⟩
  rw [Nat.mul_one]
  exact List.take_of_length_le (by simp)
theorem OwnT.form {B : Nat} {w : World} {v : Value} {L : List (List UInt8)} (h : OwnT B w v L) : ∃ a c, v = .slice a L.length c := by
  obtain ⟨a, c, e, _⟩ := own_form h
  exact ⟨a, c, e⟩
theorem texts_flat (L : List (List UInt8)) : (L.map fun l => ([.string (bs l)] : List Value)).flatten = L.map fun l => .string (bs l) := by
  induction L with
  | nil => rfl
  | cons l L ih => rw [List.map_cons, List.flatten_cons, ih, List.map_cons, List.singleton_append]
theorem Lst_appendT {rd : Option Nat} {n : Nat} {ops : Array Oper} {Q : Post} {rest : List Oper} {F : Fr} {ds : List Deferred} {w : World} {ty : TypeId} {pos : String} {after : Array Edge} {d B B' : Nat} {s x : Operand} {v y : Value} {L K : List (List UInt8)}
    (hown : OwnT B w v L) (hy : OwnT B' w y K) (hl : L.length + K.length ≤ 1000000) (hbase : B ≤ w.heap.size) (hs : ev F s = v) (hx : ev F x = y) (hd : Nat.blt d n = true)
    (h : ∀ v' w', OwnT B w' v' (L ++ K) → Below B w w' → w.grownBy w' v.ownBlock → Lst Tryd.prog rd n ops Q rest (upd F d v') ds w') :
    Lst Tryd.prog rd n ops Q (⟨some d, .call { callee := .builtin .append, args := #[s, x], argTypes := #[52, 52] }, ty, pos, after, none⟩ :: rest) F ds w := by
  have hy' : SRows w 1 y (K.map fun l => [.string (bs l)]) := by
    refine SRows.of_own (base := B') (e := 9) (nn := K.length) ?_ (fun x hx => ?_) (by decide)
    · rw [texts_flat]
      exact hy
    · obtain ⟨l, _, rfl⟩ := List.mem_map.1 hx
      rfl
  apply Lst_appendR (hown := hown) (hy := hy') (hls := fun x hx => by obtain ⟨l, _, rfl⟩ := List.mem_map.1 hx; rfl) (hone := fun u hu => by rw [texts_flat] at hu; obtain ⟨l, _, rfl⟩ := List.mem_map.1 hu; rfl) (bytes := 16)
  focus exact hs
  focus exact hx
  focus rfl
  focus rfl
  focus rfl
  focus rfl
  focus rfl
  focus rfl
  focus rfl
  focus (rw [List.length_map]; omega)
  focus (rw [List.length_map]; omega)
  focus exact hbase
  focus exact hd
  intro v' w' ho hg
  refine h v' w' ?_ (Below.own (Below.refl B w) hown hg (Nat.le_refl _) hbase) hg
  rw [texts_flat, List.length_map] at ho
  unfold OwnT
  rw [List.length_append, List.map_append]
  exact ho
theorem c_CatT (L : List (List UInt8)) (B : Nat) (v : Value) (hl : L.length ≤ 1000000) (hs : L.flatten.length ≤ 100000000) (w : World) (h : OwnT B w v L) : Does Tryd.prog 22 #[v, .string ⟨#[]⟩] w fun u w' => u = .string (bs L.flatten) ∧ Below w.heap.size w w' := by
  have hjoin : Lib.join (L.map fun l => (bs l).data.toList) (⟨#[]⟩ : ByteArray).data.toList = L.flatten := by
    rw [← join_flat]
    congr 1
    simp
  unfold Does
  refine ⟨Sx.enters_of Tryd.func22 (by kernel_rfl) rfl, ?_⟩
  obtain ⟨hl1, h⟩ := h
  have none : ∀ (a : Option Addr) (c : Nat), L = [] → Calls Tryd.prog 22 #[.slice a 0 c, .string ⟨#[]⟩] w fun e w' => ∃ v, e = .returned v ∧ v = .string (bs L.flatten) ∧ Below w.heap.size w w' := fun a c h0 => by
    subst h0
    exact (Tryd.strings_Join_none a c ⟨#[]⟩ w).mono fun e w' h => ⟨_, h.1, rfl, by rw [h.2]; exact Below.refl _ _⟩
  rcases h with ⟨rfl, h0⟩ | ⟨g, cap, cur, rfl, hB, hg, hc, hm, hz, ht⟩
  · exact none _ _ (List.eq_nil_of_length_eq_zero h0)
  · by_cases h0 : L = []
    · have := none (some ⟨g, 0, Option.none⟩) cap h0
      rw [h0]
      rw [h0] at this
      exact this
    · have hcells : ∀ (j : Nat) x, (L.map bs)[j]? = some x → w.cell? ⟨g, 0 + j, Option.none⟩ = some (.string x) := fun j x hj => by
        have hjl : j < L.length := by
          have := (List.getElem?_eq_some_iff.1 hj).1
          rwa [List.length_map] at this
        have h1 : (cur.toList.take (L.length * 1))[j]? = some (.string x) := by
          rw [ht, List.getElem?_map]
          rw [List.getElem?_map] at hj
          cases hq : L[j]? with
          | none => rw [hq] at hj; cases hj
          | some l => rw [hq] at hj; rw [← Option.some.inj hj]; rfl
        rw [List.getElem?_take] at h1
        have hg' : w.heap[g]? = some (.cells cur 9) := hg
        simp only [World.cell?, hg', Nat.zero_add]
        split at h1
        · rw [← h1]; simp
        · cases h1
      have hj2 : Lib.join ((L.map bs).map (·.data.toList)) (⟨#[]⟩ : ByteArray).data.toList = L.flatten := by
        rw [List.map_map]
        exact hjoin
      have key := Tryd.strings_Join g 0 cap (L.map bs) ⟨#[]⟩ w hcells (lt_of_some hg) (by rw [List.length_map]; omega) (by rw [List.length_map]; exact hc) (by rw [hj2]; exact Nat.le_trans hs (by decide))
      rw [hj2, List.length_map] at key
      exact key.mono fun e w' h => ⟨_, h.1, rfl, h.2⟩
theorem linesE_len : ∀ (a : List UInt8) (f : Ef), f.len ≤ (linesE a f).length
  | _, .nil => Nat.le_refl _
  | a, .cons key v k r => by
    have := linesE_len a r
    unfold linesE Ef.len
    rw [List.length_cons, List.length_append]
    omega
section
attribute [local irreducible] RnS RnT
attribute [local irreducible] W Lst Qst Pu seqQ blkQ rndQ cutQ retQ Does Enters IntKind.wrap bits sb World.alloc World.putObj Blk
theorem c_line (L : List (List UInt8)) (B : Nat) (v : Value) (hl : L.length ≤ 1000000) (hs : L.flatten.length ≤ 10000000) (w : World) (h : OwnT B w v L) : Does Tryd.prog 39 #[v] w fun u w' => u = .string (bs (L.flatten ++ [10])) ∧ Below w.heap.size w w' := by
  refine Does_of (args := [v]) Tryd.func39 (by kernel_rfl) rfl rfl rfl rfl rfl ?_
  have hsz := bs_size L.flatten
  have h10 : (⟨#[10]⟩ : ByteArray).size = 1 := rfl
  (refine Ga ?_)
  (apply Lst_call; (focus rfl); (focus rfl))
  refine (c_CatT L B v hl (by omega) w h).mono ?_
  rintro u W ⟨rfl, hW⟩
  (refine Ga ?_)
  (apply retQ1; (focus rfl))
  exact ⟨congrArg Value.string (bs_add _ _), hW⟩
set_option maxHeartbeats 8000000 in
theorem c_entries : ∀ (n : Nat) (f : Ef), f.sz ≤ n → ∀ (L : List (List UInt8)) (a : List UInt8) (A B : Nat) (v : Value) (b : Option Addr) (c : Nat) (w : World), A ≤ B → B ≤ w.heap.size → OwnT B w v L → EntAt A w b 0 f → f.Fit → L.length + (linesE a f).length ≤ 100000 → (linesE a f).flatten.length ≤ 1000000 → (∀ X, Below B w X → VTabs X) →
    Does Tryd.prog 40 #[v, .slice b f.len c, .string (bs a)] w fun v' w' => OwnT B w' v' (L ++ linesE a f) ∧ Below B w w' := by
  intro n
  induction n with
  | zero =>
    rintro f hf L a A B v b c w hAB hBw ho he hfit hlen hflat hT
    cases f with
    | cons key vl k r => exact absurd hf (by unfold Ef.sz; omega)
    | nil =>
      obtain ⟨v1, v2, v3, rfl⟩ := own_slice ho
      refine Does_of (args := [.slice v1 v2 v3, .slice b 0 c, .string (bs a)]) Tryd.func40 (by kernel_rfl) rfl rfl rfl rfl rfl ?_
      (refine Ga ?_)
      refine W_loop (α := Unit) (fun _ => [(0, .slice v1 v2 v3), (9, .slice b 0 c), (10, .int .i64 ((0 : Nat) : Int)), (11, .int .i64 0)]) (fun _ X => X = w) (fun _ _ => 0) () rfl ⟨rfl, rfl, rfl, rfl, trivial⟩ ?_
      rintro J _ X rfl
      (refine Ga ?_)
      (apply retQ1; (focus rfl))
      exact ⟨by unfold linesE; rw [List.append_nil]; exact ho, Below.refl _ _⟩
  | succ n ih =>
    rintro f hf L a A B v b c w hAB hBw ho he hfit hlen hflat hT
    obtain ⟨v1, v2, v3, rfl⟩ := own_slice ho
    obtain ⟨m, hm⟩ : ∃ m, f.len = m := ⟨_, rfl⟩
    have hml := linesE_len a f
    refine Does_of (args := [.slice v1 v2 v3, .slice b f.len c, .string (bs a)]) Tryd.func40 (by kernel_rfl) rfl rfl rfl rfl rfl ?_
    rw [hm] at hml ⊢
    (refine Ga ?_)
    refine W_loop (α := Ef × Nat × List (List UInt8) × Value) (fun x => [(0, x.2.2.2), (2, .string (bs a)), (9, .slice b m c), (10, .int .i64 (m : Int)), (11, .int .i64 (x.2.1 : Int))])
      (fun x X => x.2.1 + x.1.len = m ∧ EntAt A w b x.2.1 x.1 ∧ x.1.Fit ∧ x.1.sz ≤ n + 1 ∧ OwnT B X x.2.2.2 x.2.2.1 ∧ x.2.2.1 ++ linesE a x.1 = L ++ linesE a f ∧ (linesE a x.1).flatten.length ≤ 1000000 ∧ Below B w X) (fun x _ => x.1.len) (f, 0, L, .slice v1 v2 v3) ⟨by dsimp only; omega, he, hfit, hf, ho, rfl, hflat, Below.refl _ _⟩ ⟨rfl, rfl, rfl, rfl, rfl, trivial⟩ ?_
    clear he ho hf hfit hm hflat
    rintro J ⟨f', i, L', v⟩ X ⟨him, he, hfit, hf, hoX, hlines, hff, bX⟩
    dsimp only at him he hfit hf hoX hlines hff bX ⊢
    have sX := bX.size
    have hlf := congrArg List.length hlines
    simp only [List.length_append] at hlf
    obtain ⟨v1, v2, v3, rfl⟩ := own_slice hoX
    cases f' with
    | nil =>
      have him' : i = m := him
      subst him'
      (refine Ga ?_)
      (apply retQ1; (focus rfl))
      refine ⟨?_, bX⟩
      rw [← hlines]
      unfold linesE
      rw [List.append_nil]
      exact hoX
    | cons key vl kids rest =>
      obtain ⟨⟨g, off, a1, c1, rfl, hgA, hc0, he4⟩, hrest⟩ := he
      have hc : ∀ j u, (ecs key vl (.slice a1 kids.len c1))[j]? = some u → X.cell? ⟨g, off + i * 6 + j, none⟩ = some u := fun j u hu => (World.cell?_of_block (a := ⟨g, _, none⟩) (bX.block g (Nat.lt_of_lt_of_le hgA hAB))).trans (hc0 j u hu)
      obtain ⟨hfk, hfv, hfs, hfit4, hfit5⟩ := hfit
      have hlenc : (Ef.cons key vl kids rest).len = rest.len + 1 := rfl
      have hszc : (Ef.cons key vl kids rest).sz = kids.sz + rest.sz + 1 := rfl
      rw [hlenc] at him
      rw [hszc] at hf
      have him2 : i < m := by omega
      have hksz : kids.sz ≤ n := by omega
      have hl1 : (linesE a (.cons key vl kids rest)).length = 1 + ((linesE (a ++ [32, 32]) kids).length + (linesE a rest).length) := by
        rw [linesE, List.length_cons, List.length_append]
        omega
      have hf1 : (linesE a (.cons key vl kids rest)).flatten.length = (lineE a key.data.toList vl).length + ((linesE (a ++ [32, 32]) kids).flatten.length + (linesE a rest).flatten.length) := by
        rw [linesE, List.flatten_cons, List.length_append, List.flatten_append, List.length_append]
      rw [hl1] at hlf
      rw [hf1] at hff
      have hle : (lineE a key.data.toList vl).length = (([a, [109, 32], Hex.quote key.data.toList, [61], textV vl] : List (List UInt8)).flatten).length + 1 := by
        unfold lineE
        rw [List.length_append, List.length_singleton]
      have hla : a.length ≤ (([a, [109, 32], Hex.quote key.data.toList, [61], textV vl] : List (List UInt8)).flatten).length := by
        rw [List.flatten_cons, List.length_append]
        omega
      have hline : (([a, [109, 32], Hex.quote key.data.toList, [61], textV vl] : List (List UInt8)).flatten).length ≤ 10000000 := by omega
      (refine Ga ?_)
      apply Lst_pu
      · apply P_idxm (j := i) (sz := 6)
        focus rfl
        focus rfl
        focus rfl
        focus rfl
        focus rfl
        focus omega
      focus rfl
      (refine Ga ?_)
      apply Lst_loadS' (cs := ecs key vl (.slice a1 kids.len c1))
      focus rfl
      focus rfl
      focus rfl
      focus rfl
      focus rfl
      focus exact hc
      focus rfl
      unfold ecs
      (refine Ga ?_)
      refine W_abs (fun E => Below X.heap.size X E ∧ Blk E X.heap.size (ecs key vl (.slice a1 kids.len c1)) 42) ⟨Bel, by unfold ecs; exact (by (repeat (first | assumption | (apply Blk.below (hb := hb1); rotate_left; (focus ((try simp only [Sx.sizes]); omega)); rotate_right) | (apply Blk.below (hb := hb2); rotate_left; (focus ((try simp only [Sx.sizes]); omega)); rotate_right) | (apply Blk.below (hb := hb3); rotate_left; (focus ((try simp only [Sx.sizes]); omega)); rotate_right) | (apply Blk.below (hb := hb4); rotate_left; (focus ((try simp only [Sx.sizes]); omega)); rotate_right) | (apply Blk.below (hb := hb5); rotate_left; (focus ((try simp only [Sx.sizes]); omega)); rotate_right) | (apply Blk.below (hb := hb6); rotate_left; (focus ((try simp only [Sx.sizes]); omega)); rotate_right) | (apply Blk.below (hb := hb7); rotate_left; (focus ((try simp only [Sx.sizes]); omega)); rotate_right) | (apply Blk.below (hb := hb8); rotate_left; (focus ((try simp only [Sx.sizes]); omega)); rotate_right) | (apply Blk.below (hb := hb9); rotate_left; (focus ((try simp only [Sx.sizes]); omega)); rotate_right) | exact Blk.newE (by first | rfl | ((try simp only [Sx.sizes]); first | done | omega)) _ _ | exact Blk.put_same (by (try simp only [Sx.sizes]); first | done | omega) _ _ | (apply Blk.put_ne; (focus omega)) | apply Blk.alloc | apply Blk.drew)); done)⟩ ?_
      rintro E ⟨hE, kE⟩
      have sBX := Nat.le_trans hBw sX
      have bE := bX.trans (hE.mono sBX)
      have sE := bE.size
      have hoE := hoX.below hE
      refine W_drawS 13 (fun Z => Below B w Z ∧ Blk Z X.heap.size (ecs key vl (.slice a1 kids.len c1)) 42) rfl rfl ?_
      have hS : Below B w E.drew ∧ Blk E.drew X.heap.size (ecs key vl (.slice a1 kids.len c1)) 42 := ⟨Below.drew bE, Blk.drew kE⟩
      have hED := Below.drew (Below.refl E.heap.size E)
      have hoD := hoE.below hED
      have sD : E.heap.size ≤ E.drew.heap.size := hED.size
      clear hoE kE
      generalize E.drew = Z at *
      refine S_takeV 0 12 rfl (by kernel_rfl) (by repeat (first | exact retQ_p | apply seqQ_p | apply blkQ_p | apply rndQ_p | apply cutQ_p)) hS ?_
      (refine Qb ?_)
      refine S_takeV 1 11 rfl (by kernel_rfl) (by repeat (first | exact retQ_p | apply seqQ_p | apply blkQ_p | apply rndQ_p | apply cutQ_p)) hS ?_
      (refine Qb ?_)
      refine S_takeV 2 10 rfl (by kernel_rfl) (by repeat (first | exact retQ_p | apply seqQ_p | apply blkQ_p | apply rndQ_p | apply cutQ_p)) hS ?_
      (refine Qb ?_)
      refine S_takeV 3 9 rfl (by kernel_rfl) (by repeat (first | exact retQ_p | apply seqQ_p | apply blkQ_p | apply rndQ_p | apply cutQ_p)) hS ?_
      apply Qst_load
      focus rfl
      focus rfl
      focus rfl
      focus exact fun A9 hA9 => hA9.2
      focus rfl
      focus rfl
      (refine Qb ?_)
      refine S_takeV 5 8 rfl (by kernel_rfl) (by repeat (first | exact retQ_p | apply seqQ_p | apply blkQ_p | apply rndQ_p | apply cutQ_p)) hS ?_
      (refine Qb ?_)
      refine S_takeV 6 7 rfl (by kernel_rfl) (by repeat (first | exact retQ_p | apply seqQ_p | apply blkQ_p | apply rndQ_p | apply cutQ_p)) hS ?_
      apply Qst_loadA
      focus rfl
      focus rfl
      focus rfl
      focus rfl
      focus rfl
      focus exact fun A9 hA9 => hA9.2
      focus (repeat constructor)
      focus rfl
      (refine Qb ?_)
      refine S_any [4] 6 rfl (by kernel_rfl) (all1 ?_)
      (apply Lst_call; (focus rfl); (focus rfl))
      refine (c_Quote key hfk Z).mono ?_
      rintro v V ⟨rfl, hV⟩
      have sV := hV.size
      have hS2 : Below B w V ∧ Blk V X.heap.size (ecs key vl (.slice a1 kids.len c1)) 42 := ⟨hS.1.trans (hV.mono (Nat.le_trans hBw hS.1.size)), hS.2.below hV hS.2.lt⟩
      have hoV := hoD.below hV
      apply Lst_nil
      apply rnQ_n
      refine ⟨hS2, ?_⟩
      clear hS
      have hS := hS2
      clear hS2
      refine S_any [7] 5 rfl (by kernel_rfl) (all1 ?_)
      (apply Lst_call; (focus rfl); (focus rfl))
      refine (c_Text vl hfv hfs V (hT V hS.1)).mono ?_
      rintro v U ⟨rfl, hU⟩
      have sU := hU.size
      have hS2 : Below B w U ∧ Blk U X.heap.size (ecs key vl (.slice a1 kids.len c1)) 42 := ⟨hS.1.trans (hU.mono (Nat.le_trans hBw hS.1.size)), hS.2.below hU hS.2.lt⟩
      have hoU := hoV.below hU
      apply Lst_nil
      apply rnQ_n
      refine ⟨hS2, ?_⟩
      clear hS
      have hS := hS2
      clear hS2
      refine S_any [8] 4 rfl (by kernel_rfl) (all1 ?_)
      (apply Lst_slit; (focus rfl); (focus rfl); (focus rfl); (focus rfl); (focus rfl); (focus rfl); (focus rfl); (focus rfl); (focus rfl); (focus (repeat (first | apply FillO.nil | (apply FillO.cons; (focus constructor); (focus rfl); (focus rfl); (focus (repeat constructor)))))); (focus ((try simp only [Sx.sizes]); first | done | rfl)); (focus rfl))
      refine Lst_abs (fun O => Below U.heap.size U O ∧ Blk O U.heap.size (([a, [109, 32], Hex.quote key.data.toList, [61], textV vl] : List (List UInt8)).map fun l => .string (bs l)) 9) ⟨Bel, (by (repeat (first | assumption | (apply Blk.below (hb := hb1); rotate_left; (focus ((try simp only [Sx.sizes]); omega)); rotate_right) | (apply Blk.below (hb := hb2); rotate_left; (focus ((try simp only [Sx.sizes]); omega)); rotate_right) | (apply Blk.below (hb := hb3); rotate_left; (focus ((try simp only [Sx.sizes]); omega)); rotate_right) | (apply Blk.below (hb := hb4); rotate_left; (focus ((try simp only [Sx.sizes]); omega)); rotate_right) | (apply Blk.below (hb := hb5); rotate_left; (focus ((try simp only [Sx.sizes]); omega)); rotate_right) | (apply Blk.below (hb := hb6); rotate_left; (focus ((try simp only [Sx.sizes]); omega)); rotate_right) | (apply Blk.below (hb := hb7); rotate_left; (focus ((try simp only [Sx.sizes]); omega)); rotate_right) | (apply Blk.below (hb := hb8); rotate_left; (focus ((try simp only [Sx.sizes]); omega)); rotate_right) | (apply Blk.below (hb := hb9); rotate_left; (focus ((try simp only [Sx.sizes]); omega)); rotate_right) | exact Blk.newE (by first | rfl | ((try simp only [Sx.sizes]); first | done | omega)) _ _ | exact Blk.put_same (by (try simp only [Sx.sizes]); first | done | omega) _ _ | (apply Blk.put_ne; (focus omega)) | apply Blk.alloc | apply Blk.drew)); done)⟩ ?_
      rintro O ⟨hO, kO⟩
      have sO := hO.size
      have hS2 : Below B w O ∧ Blk O X.heap.size (ecs key vl (.slice a1 kids.len c1)) 42 := ⟨hS.1.trans (hO.mono (Nat.le_trans hBw hS.1.size)), hS.2.below hO hS.2.lt⟩
      have hoO := hoU.below hO
      apply Lst_nil
      apply rnQ_n
      refine ⟨hS2, ?_⟩
      clear hS
      have hS := hS2
      clear hS2
      refine S_any [9] 3 rfl (by kernel_rfl) (all1 ?_)
      (apply Lst_call; (focus rfl); (focus rfl))
      refine (c_line [a, [109, 32], Hex.quote key.data.toList, [61], textV vl] 0 _ (show 5 ≤ 1000000 by decide) hline O (OwnT.blk rfl (Nat.zero_le _) kO (show 1 ≤ 5 ∧ 5 ≤ 1000000 by decide))).mono ?_
      rintro v O2 ⟨rfl, hO2⟩
      have sO2 := hO2.size
      have hS2 : Below B w O2 ∧ Blk O2 X.heap.size (ecs key vl (.slice a1 kids.len c1)) 42 := ⟨hS.1.trans (hO2.mono (Nat.le_trans hBw hS.1.size)), hS.2.below hO2 hS.2.lt⟩
      have hoO2 := hoO.below hO2
      apply Lst_nil
      apply rnQ_n
      refine ⟨hS2, ?_⟩
      clear hS
      have hS := hS2
      clear hS2
      refine S_any [10] 2 rfl (by kernel_rfl) (all1 ?_)
      (apply Lst_slit; (focus rfl); (focus rfl); (focus rfl); (focus rfl); (focus rfl); (focus rfl); (focus rfl); (focus rfl); (focus rfl); (focus (repeat (first | apply FillO.nil | (apply FillO.cons; (focus constructor); (focus rfl); (focus rfl); (focus (repeat constructor)))))); (focus ((try simp only [Sx.sizes]); first | done | rfl)); (focus rfl))
      refine Lst_abs (fun O => Below O2.heap.size O2 O ∧ Blk O O2.heap.size (([lineE a key.data.toList vl] : List (List UInt8)).map fun l => .string (bs l)) 9) ⟨Bel, (by (repeat (first | assumption | (apply Blk.below (hb := hb1); rotate_left; (focus ((try simp only [Sx.sizes]); omega)); rotate_right) | (apply Blk.below (hb := hb2); rotate_left; (focus ((try simp only [Sx.sizes]); omega)); rotate_right) | (apply Blk.below (hb := hb3); rotate_left; (focus ((try simp only [Sx.sizes]); omega)); rotate_right) | (apply Blk.below (hb := hb4); rotate_left; (focus ((try simp only [Sx.sizes]); omega)); rotate_right) | (apply Blk.below (hb := hb5); rotate_left; (focus ((try simp only [Sx.sizes]); omega)); rotate_right) | (apply Blk.below (hb := hb6); rotate_left; (focus ((try simp only [Sx.sizes]); omega)); rotate_right) | (apply Blk.below (hb := hb7); rotate_left; (focus ((try simp only [Sx.sizes]); omega)); rotate_right) | (apply Blk.below (hb := hb8); rotate_left; (focus ((try simp only [Sx.sizes]); omega)); rotate_right) | (apply Blk.below (hb := hb9); rotate_left; (focus ((try simp only [Sx.sizes]); omega)); rotate_right) | exact Blk.newE (by first | rfl | ((try simp only [Sx.sizes]); first | done | omega)) _ _ | exact Blk.put_same (by (try simp only [Sx.sizes]); first | done | omega) _ _ | (apply Blk.put_ne; (focus omega)) | apply Blk.alloc | apply Blk.drew)); done)⟩ ?_
      rintro O3 ⟨hO3, kO3⟩
      have sO3 := hO3.size
      have hS2 : Below B w O3 ∧ Blk O3 X.heap.size (ecs key vl (.slice a1 kids.len c1)) 42 := ⟨hS.1.trans (hO3.mono (Nat.le_trans hBw hS.1.size)), hS.2.below hO3 hS.2.lt⟩
      have hoO3 := hoO2.below hO3
      apply Lst_nil
      apply rnQ_n
      refine ⟨hS2, ?_⟩
      clear hS
      have hS := hS2
      clear hS2
      refine S_any [11] 1 rfl (by kernel_rfl) (all1 ?_)
      apply Lst_appendT (hown := hoO3) (hy := OwnT.blk (B := 0) rfl (Nat.zero_le _) kO3 (show 1 ≤ 1 ∧ 1 ≤ 1000000 by decide))
      focus (rw [List.length_singleton]; omega)
      focus exact Nat.le_trans hBw hS.1.size
      focus rfl
      focus rfl
      focus rfl
      intro v' U2 hoU2 hU2 hg
      have hS2 : Below B w U2 ∧ Blk U2 X.heap.size (ecs key vl (.slice a1 kids.len c1)) 42 := ⟨hS.1.trans hU2, hS.2.grown hg fun k hk e => Nat.lt_irrefl X.heap.size (e ▸ own_ltg hoX hk)⟩
      obtain ⟨u1, u2, u3, rfl⟩ := own_slice hoU2
      apply Lst_nil
      apply rnQ_n
      refine ⟨hS2, ?_⟩
      clear hS
      have hS := hS2
      clear hS2
      refine S_any [12] 0 rfl (by kernel_rfl) (all1 ?_)
      (refine Ga ?_)
      apply rnQ_n
      refine ⟨hS, ?_⟩
      refine S_done (by kernel_rfl) ?_
      have kU := hS.2
      have bU2 := hS.1
      unfold ecs at kU
      have hal := bs_size a
      have h32 : (⟨#[32, 32]⟩ : ByteArray).size = 2 := rfl
      (refine Ga ?_)
      rw [bs_add]
      (apply Lst_call; (focus rfl); (focus rfl))
      refine (ih kids hksz (L' ++ [lineE a key.data.toList vl]) (a ++ [32, 32]) A B (.slice u1 u2 u3) a1 c1 U2 hAB (Nat.le_trans hBw bU2.size) hoU2 (he4.below (bU2.mono hAB)) hfit4 (by rw [List.length_append, List.length_singleton]; omega) (by omega) fun Y hY => hT Y (bU2.trans hY)).mono ?_
      rintro v Y ⟨hoY, hY⟩
      have bY := bU2.trans hY
      obtain ⟨y1, y2, y3, rfl⟩ := own_slice hoY
      (refine Ga ?_)
      refine rndQ_n (α := Ef × Nat × List (List UInt8) × Value) (rest, i + 1, L' ++ [lineE a key.data.toList vl] ++ linesE (a ++ [32, 32]) kids, .slice y1 y2 y3) ⟨by dsimp only; omega, hrest, hfit5, by dsimp only; omega, hoY, ?_, by dsimp only; omega, bY⟩ ⟨rfl, rfl, rfl, rfl, ?_, trivial⟩ (show rest.len < rest.len + 1 by omega)
      · dsimp only
        rw [← hlines, linesE]
        simp only [List.append_assoc, List.cons_append, List.nil_append]
      · exact congrArg (Value.int .i64) (show (i : Int) + 1 = ((i + 1 : Nat) : Int) by omega)
end
end Vw
end Go.Proofs.YtglfoofclicfpaaDoor
