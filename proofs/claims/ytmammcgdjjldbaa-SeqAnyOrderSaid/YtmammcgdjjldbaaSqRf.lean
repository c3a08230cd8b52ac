/- The reference: what turns in memory where a unit is put in. -/
import Derived.Test.YtmammcgdjjldbaaSqRe
namespace Go.Proofs.Ytmammcgdjjldbaa
set_option maxRecDepth 100000
namespace Sq
open Go Go.RowKit Sx Tl
section rules
variable {P : Program} {rd : Option Nat} {n : Nat} {ops : Array Oper} {Q : Post} {rest : List Oper} {F : Fr} {ds : List Deferred} {w : World} {ty : TypeId} {pos : String} {after : Array Edge}
/-- l[:n:n]. -/
theorem P_lslice3 {t e sz n' c m : Nat} {x hi mx : Operand} {k k' : IntKind} {b : Option Addr} {i : TypeInfo} (hx : ev F x = .slice b n' c) (hhi : ev F hi = .int k (m : Int)) (hmx : ev F mx = .int k' (m : Int)) (ht : P.underlying t = some (.slice e)) (hi' : P.info? e = some i) (hs : i.size = sz) (h2 : m ≤ c) :
    Pu P F (.slice t x none (some hi) (some mx)) ty (.slice b m m) := fun dst pos after w => by
  have hsz : (sizeOf e).run P w = .ok sz w := by simp [sizeOf, typeInfo, hi', hs]
  have e1 : Option.map (fun a : Addr => a.add 0) b = b := by
    cases b with
    | none => rfl
    | some a => rfl
  simp [execOp, hx, hhi, hmx, Instr.sliceAt, Instr.slice, Instr.sliceBounds, Instr.sliceBound, asIntOf, run_underlying ht, h2, hsz, e1]
/-- append to a slice that has no room left: a new row. -/
theorem Lst_appendFull {d : Nat} {s x : Operand} {t e size bytes nn m c : Nat} {a : Option Addr} {b : Addr} {i : TypeInfo} {z : Value} {xs news : List Value} (hs : ev F s = .slice a nn nn) (hx : ev F x = .slice (some b) m c) (ht : P.underlying t = some (.slice e)) (hi : P.info? e = some i) (hz : i.zero = some z)
    (hsize : i.size = size) (hby : i.bytes = bytes) (hzs : z.cells.size = size) (hsz : Nat.ble 1 size = true) (holds : ∀ j u, xs[j]? = some u → ∃ a', a = some a' ∧ w.cell? (a'.add j) = some u) (hlo : xs.length = nn * size) (hnews : ∀ j u, news[j]? = some u → w.cell? (b.add j) = some u) (hl : news.length = m * size) (hm : 0 < m)
    (h63 : nn + m ≤ 9223372036854775807) (hbytes : (nn + m) * bytes ≤ 140737488355328) (hd : Nat.blt d n = true)
    (h : ∀ v' w', w'.ownsRow w.heap.size e size v' (nn + m) (xs ++ news) → Below w.heap.size w w' → Lst P rd n ops Q rest (upd F d v') ds w') :
    Lst P rd n ops Q (⟨some d, .call { callee := .builtin .append, args := #[s, x], argTypes := #[t, t] }, ty, pos, after, none⟩ :: rest) F ds w := by
  subst hsize
  subst hby
  have hsz' : 1 ≤ i.size := by simpa using hsz
  have h63' : nn + m ≤ maxLen := by simp only [maxLen]; omega
  have hlen : (xs ++ news).length = (nn + m) * i.size := by rw [List.length_append, hlo, hl, Nat.add_mul]
  have grown : ∀ (old : Nat), old < nn + m →
      (w.drew.alloc (.cells (xs.toArray ++ news.toArray ++ Builtin.zeroCells z.cells (grownCap w (nn + m) old e - (nn + m))) e)).ownsRow w.heap.size e i.size
        (.slice (some ⟨w.heap.size, 0, none⟩) (nn + m) (grownCap w (nn + m) old e)) (nn + m) (xs ++ news) ∧
      Below w.heap.size w (w.drew.alloc (.cells (xs.toArray ++ news.toArray ++ Builtin.zeroCells z.cells (grownCap w (nn + m) old e - (nn + m))) e)) := by
    intro old ho
    have hge := grownCap_ge w (nn + m) old e
    have hcm : grownCap w (nn + m) old e ≤ maxLen := grownCap_le_maxLen w (nn + m) old e h63'
    refine ⟨⟨hlen, .inr ⟨w.heap.size, _, _, rfl, Nat.le_refl _, heap_alloc_new w.drew _, hge, hcm, ?_, ?_⟩⟩, ⟨rfl, rfl, rfl, by simp, fun k hk => heap_alloc_old w.drew _ hk⟩⟩
    · simp only [Array.size_append, List.size_toArray, size_zeroCells, hzs, hlo, hl, ← Nat.add_mul]
      congr 1
      omega
    · simp only [Array.toList_append, List.append_assoc]
      rw [← List.append_assoc, ← hlen]
      exact List.take_left
  cases a with
  | none =>
    have hxs : xs = [] := by
      cases xs with
      | nil => rfl
      | cons u l => obtain ⟨_, h1, _⟩ := holds 0 u rfl; cases h1
    subst hxs
    obtain rfl : nn = 0 := by
      have h1 : 0 = nn * i.size := hlo
      rcases Nat.mul_eq_zero.1 h1.symm with h | h
      · exact h
      · omega
    have hr := run_append_nil (P := P) w t ty e i z ht hi hz b m c news hl hnews hm (by omega) (by have hb := hbytes; simp only [Nat.zero_add] at hb; omega)
    have hgr := grown 0 (by omega)
    simp only [Nat.zero_add, List.nil_append, Array.empty_append] at hgr
    refine Lst_value (v := _) (w' := _) rfl ?_ hd (h _ _ (by simpa only [Nat.zero_add, List.nil_append] using hgr.1) hgr.2)
    simp [execOp, resolve, invoke, builtin, hs, hx, hr]
  | some a' =>
    have hr := run_append_grow (P := P) w t ty e i z ht hi hz a' nn nn xs hlo (fun j u hu => by obtain ⟨a'', h1, h2⟩ := holds j u hu; cases h1; exact h2) b m c news hl hnews (by omega) (by omega) (growslice_fits (by omega) hbytes)
    have hgr := grown nn (by omega)
    refine Lst_value (v := _) (w' := _) rfl ?_ hd (h _ _ hgr.1 hgr.2)
    simp [execOp, resolve, invoke, builtin, hs, hx, hr]
end rules
theorem own_full {w : World} {B e sz n c : Nat} {a : Option Addr} {xs : List Value} (h : w.ownsRow B e sz (.slice a n c) n xs) : ∀ j u, xs[j]? = some u → ∃ a', a = some a' ∧ w.cell? (a'.add j) = some u := fun j u hu => by
  rcases h.2 with ⟨hv, hn⟩ | ⟨g, cap, cur, hv, _⟩
  · have h1 := h.1
    rw [hn, Nat.zero_mul] at h1
    rw [List.eq_nil_of_length_eq_zero h1] at hu
    cases hu
  · injection hv with e1 e2 e3
    subst e1
    exact ⟨_, rfl, h.cells (g := g) rfl j u hu⟩
/-- Blocks below this one stay, but one. -/
structure OnlyB (B p : Nat) (w w' : World) : Prop where
  os : w'.os = w.os
  tape : w'.tape = w.tape
  output : w'.output = w.output
  size : w.heap.size ≤ w'.heap.size
  block : ∀ g, g < B → g ≠ p → w'.heap[g]? = w.heap[g]?
theorem OnlyB.refl (B p : Nat) (w : World) : OnlyB B p w w := ⟨rfl, rfl, rfl, Nat.le_refl _, fun _ _ _ => rfl⟩
theorem OnlyB.trans {B p : Nat} {x y z : World} (h : OnlyB B p x y) (k : OnlyB B p y z) : OnlyB B p x z :=
  ⟨k.os.trans h.os, k.tape.trans h.tape, k.output.trans h.output, Nat.le_trans h.size k.size, fun g h1 h2 => (k.block g h1 h2).trans (h.block g h1 h2)⟩
theorem OnlyB.of {B B' p : Nat} {x y : World} (h : Below B' x y) (hB : B ≤ B') : OnlyB B p x y := ⟨h.os, h.tape, h.output, h.size, fun g h1 _ => h.block g (Nat.lt_of_lt_of_le h1 hB)⟩
theorem OnlyB.put {B p b : Nat} {w : World} (o : Obj) (hb : b = p ∨ B ≤ b) : OnlyB B p w (w.putObj b o) :=
  ⟨rfl, rfl, rfl, by rw [World.putObj_size]; exact Nat.le_refl _, fun g h1 h2 => World.putObj_heap_other (fun e => by rcases hb with h | h <;> omega)⟩
theorem OnlyB.turn {p : Nat} {F F' : Nat → Prop} {w w' : World} (h : OnlyB w.heap.size p w w') (hp : F p) (hF : ∀ g, g < w.heap.size → (F' g ↔ F g)) : Turn F F' w w' :=
  ⟨h.os, h.tape, h.output, h.size, hF, fun g hg hn => h.block g hg fun e => hn (e ▸ hp)⟩
theorem ix_old {N : List Id} {x k : Id} (hk : k ∈ N) : ix (N ++ [x]) k = ix N k := by
  unfold ix
  rw [List.idxOf_append, if_pos hk]
theorem ix_new {N : List Id} {x : Id} (hx : x ∉ N) : ix (N ++ [x]) x = (N.length : Int) := by
  unfold ix
  rw [List.idxOf_append, if_neg hx, List.idxOf_cons_self, Nat.zero_add]
theorem ix_olds {N l : List Id} {x : Id} (hl : ∀ j ∈ l, j ∈ N) : l.map (ix (N ++ [x])) = l.map (ix N) := List.map_congr_left fun j hj => ix_old (hl j hj)
section ups
variable {w w' : World} {p : Nat} {F F' : Nat → Prop} {N rt ord : List Id} {ρ : Id → Rec} {vl vm vo : Value} {cs : List (List Value)}
theorem RfEx.congr {σ : Id → Rec} (h : RfEx w p F N ρ rt ord vl vm vo cs) (he : ∀ k ∈ N, (σ k).u = (ρ k).u ∧ (σ k).par = (ρ k).par ∧ (σ k).L = (ρ k).L ∧ (σ k).R = (ρ k).R) : RfEx w p F N σ rt ord vl vm vo cs := by
  obtain ⟨h1, h2, h3, h4, h5, h6, h7, h8⟩ := h
  refine ⟨h1, h2, h3, h4, h5, h6, h7, fun k hk => ?_⟩
  obtain ⟨b, sl, sr, h9, h10, h11⟩ := h8 k hk
  obtain ⟨e1, e2, e3, e4⟩ := he k hk
  refine ⟨b, sl, sr, ?_, by rw [e3]; exact h10, by rw [e4]; exact h11⟩
  unfold rcs
  rw [e1, e2]
  exact h9
theorem Lz.nil (w : World) (F : Nat → Prop) (p : Nat) : Lz w F p (.slice none 0 0) [] := ⟨⟨0, 0, 0, .inr ⟨⟨none, rfl⟩, rfl⟩, fun h => absurd rfl h, fun _ hj => absurd hj (Nat.not_lt_zero _)⟩, fun h => absurd rfl h, none, 0, rfl, Nat.le_refl _⟩
/-- A node more. -/
theorem RfEx.add {x : Id} {r : Rec} {bl : Bool} {vl' : Value} (h : RfEx w p F N ρ rt ord vl vm vo cs) (hcl : Clo ord rt N N ρ) (hx : x ∉ N) (hL : r.L = []) (hR : r.R = []) (hp : ∀ j, r.par = some j → j ∈ N) (hS : Blk w' p [vl', vm, vo] 59) (hown : w'.ownsRow 0 84 10 vl' (N.length + 1) (cs.flatten ++ rcs N r bl (.slice none 0 0) (.slice none 0 0)))
    (hb : ∀ g, vl'.ownBlock = some g → F' g ∧ g ≠ p ∧ ¬ F g) (hs : w.heap.size ≤ w'.heap.size) (hF : ∀ g, F g → F' g) (hk : ∀ g, F g → g ≠ p → w'.heap[g]? = w.heap[g]?) : RfEx w' p F' (N ++ [x]) (fset ρ x r) rt ord vl' vm vo (cs ++ [rcs N r bl (.slice none 0 0) (.slice none 0 0)]) := by
  obtain ⟨h1, h2, h3, h4, h5, h6, h7, h8⟩ := h
  have up : ∀ {v : Value} {zs : List Int}, Lz w (fun g => F g ∧ vl.ownBlock ≠ some g) p v zs → Lz w' (fun g => F' g ∧ vl'.ownBlock ≠ some g) p v zs := fun h => h.kept hs (fun g hg => ⟨hF g hg.1, fun e => (hb g e).2.2 hg.1⟩) fun g hg hne => hk g hg.1 hne
  refine ⟨hS, ?_, fun g hg => ⟨(hb g hg).1, (hb g hg).2.1⟩, ?_, ?_, ?_, ?_, fun k hk' => ?_⟩
  · rw [List.length_append, List.flatten_append]
    have e : [rcs N r bl (.slice none 0 0) (.slice none 0 0)].flatten = rcs N r bl (.slice none 0 0) (.slice none 0 0) := by simp
    rw [e]
    exact hown
  · rw [List.length_append, List.length_append, h4]
    rfl
  · intro l hl
    rcases List.mem_append.1 hl with hl | hl
    · exact h5 l hl
    · rw [List.mem_singleton.1 hl]
      rfl
  · rw [ix_olds hcl.rt]
    exact up h6
  · rw [ix_olds hcl.ord]
    exact up h7
  · rcases List.mem_append.1 hk' with hk' | hk'
    · have hne : k ≠ x := fun e => hx (e ▸ hk')
      obtain ⟨b, sl, sr, h9, h10, h11⟩ := h8 k hk'
      rw [fset_ne hne]
      have hi : N.idxOf k < cs.length := by rw [h4]; exact List.idxOf_lt_length_iff.2 hk'
      refine ⟨b, sl, sr, ?_, ?_, ?_⟩
      · rw [List.idxOf_append, if_pos hk', List.getElem?_append_left hi, h9]
        have : px (N ++ [x]) (ρ k).par = px N (ρ k).par := by
          cases e : (ρ k).par with
          | none => rfl
          | some j => exact ix_old (hcl.par k hk' j e)
        unfold rcs
        rw [this]
      · rw [ix_olds (hcl.L k hk')]
        exact up h10
      · rw [ix_olds (hcl.R k hk')]
        exact up h11
    · obtain rfl := List.mem_singleton.1 hk'
      rw [fset_same, hL, hR]
      refine ⟨bl, .slice none 0 0, .slice none 0 0, ?_, Lz.nil _ _ _, Lz.nil _ _ _⟩
      have e1 : (N ++ [k]).idxOf k = cs.length := by rw [List.idxOf_append, if_neg hx, List.idxOf_cons_self, Nat.zero_add, h4]
      rw [e1, List.getElem?_append_right (Nat.le_refl _), Nat.sub_self]
      have : px (N ++ [k]) r.par = px N r.par := by
        cases e : r.par with
        | none => rfl
        | some j => exact ix_old (hp j e)
      show some _ = some _
      unfold rcs
      rw [this]
/-- The sequence's own rows turned. -/
theorem RfEx.setS {vm' vo' : Value} {rt' ord' : List Id} (h : RfEx w p F N ρ rt ord vl vm vo cs) (hS : Blk w' p [vl, vm', vo'] 59) (hm : Lz w' (fun g => F' g ∧ vl.ownBlock ≠ some g) p vm' (rt'.map (ix N))) (ho : Lz w' (fun g => F' g ∧ vl.ownBlock ≠ some g) p vo' (ord'.map (ix N))) (hs : w.heap.size ≤ w'.heap.size) (hF : ∀ g, F g → F' g) (hk : ∀ g, F g → g ≠ p → w'.heap[g]? = w.heap[g]?) : RfEx w' p F' N ρ rt' ord' vl vm' vo' cs := by
  obtain ⟨h1, h2, h3, h4, h5, h6, h7, h8⟩ := h
  have up : ∀ {v : Value} {zs : List Int}, Lz w (fun g => F g ∧ vl.ownBlock ≠ some g) p v zs → Lz w' (fun g => F' g ∧ vl.ownBlock ≠ some g) p v zs := fun h => h.kept hs (fun g hg => ⟨hF g hg.1, hg.2⟩) fun g hg hne => hk g hg.1 hne
  refine ⟨hS, own_kept h2 fun g hg => hk g (h3 g hg).1 (h3 g hg).2, fun g hg => ⟨hF g (h3 g hg).1, (h3 g hg).2⟩, h4, h5, hm, ho, fun k hk' => ?_⟩
  obtain ⟨b, sl, sr, h9, h10, h11⟩ := h8 k hk'
  exact ⟨b, sl, sr, h9, up h10, up h11⟩
/-- A node's row turned. -/
theorem RfEx.setRow {x : Id} {left : Bool} {v : Value} {l : List Id} (h : RfEx w p F N ρ rt ord vl vm vo cs) (hx : x ∈ N) (hv : Lz w' (fun g => F' g ∧ vl.ownBlock ≠ some g) p v (l.map (ix N))) (hS : Blk w' p [vl, vm, vo] 59) (hown : w'.ownsRow 0 84 10 vl N.length (cs.flatten.set (N.idxOf x * 10 + if left then 8 else 9) v))
    (hs : w.heap.size ≤ w'.heap.size) (hF : ∀ g, F g → F' g) (hk : ∀ g, F g → g ≠ p → vl.ownBlock ≠ some g → w'.heap[g]? = w.heap[g]?) : ∃ cs', RfEx w' p F' N (fset ρ x (if left then { ρ x with L := l } else { ρ x with R := l })) rt ord vl vm vo cs' := by
  obtain ⟨h1, h2, h3, h4, h5, h6, h7, h8⟩ := h
  have up : ∀ {v : Value} {zs : List Int}, Lz w (fun g => F g ∧ vl.ownBlock ≠ some g) p v zs → Lz w' (fun g => F' g ∧ vl.ownBlock ≠ some g) p v zs := fun h => h.kept hs (fun g hg => ⟨hF g hg.1, hg.2⟩) fun g hg hne => hk g hg.1 hne hg.2
  have hi : N.idxOf x < cs.length := by rw [h4]; exact List.idxOf_lt_length_iff.2 hx
  have hj : (if left then 8 else 9) < 10 := by split <;> omega
  rw [flat_set v cs (N.idxOf x) (if left then 8 else 9) hi h5 hj] at hown
  refine ⟨_, hS, hown, fun g hg => ⟨hF g (h3 g hg).1, (h3 g hg).2⟩, by rw [List.length_set]; exact h4, fun q hq => ?_, up h6, up h7, fun k hk' => ?_⟩
  · rcases List.mem_or_eq_of_mem_set hq with hq | rfl
    · exact h5 q hq
    · rw [List.length_set]
      exact h5 _ (List.getElem_mem hi)
  · obtain ⟨b, sl, sr, h9, h10, h11⟩ := h8 k hk'
    by_cases e : k = x
    · subst e
      rw [fset_same]
      have h9' : cs[N.idxOf k] = rcs N (ρ k) b sl sr := by rw [List.getElem?_eq_getElem hi] at h9; exact Option.some.inj h9
      rw [List.getElem?_set_self hi, h9']
      cases left with
      | true => exact ⟨b, v, sr, rfl, hv, up h11⟩
      | false => exact ⟨b, sl, v, rfl, up h10, hv⟩
    · rw [fset_ne e]
      refine ⟨b, sl, sr, ?_, up h10, up h11⟩
      rw [List.getElem?_set_ne, h9]
      intro he
      have h1 := List.getElem_idxOf (List.idxOf_lt_length_iff.2 hk')
      have h2 := List.getElem_idxOf (List.idxOf_lt_length_iff.2 hx)
      apply e
      rw [← h1, ← h2]
      simp only [he]
theorem Lz.of_ownZ {B : Nat} {v : Value} {zs : List Int} (h : OwnZ B w v zs) (hp : p < B) (hF : ∀ g, B ≤ g → g < w.heap.size → F g) : Lz w F p v zs :=
  Lz.of_own h fun g hg => ⟨hF g (h.lt g hg).1 (own_ltg h hg), fun e => by have := (h.lt g hg).1; omega⟩
end ups
theorem fset_two (ρ : Id → Rec) (x : Id) (a b : Rec) : fset (fset ρ x a) x b = fset ρ x b := funext fun j => by
  by_cases e : j = x
  · subst e
    rw [fset_same, fset_same]
  · rw [fset_ne e, fset_ne e, fset_ne e]
theorem laid_L {ρ : Id → Rec} {rt : List Id} {u : Un} {V : Where} {q : Id} (hl : V.left = true) (hp : V.par = some q) (hne : q ≠ u.id) : laid (fset ρ u.id (newRec u)) rt u.id V = fset (fset ρ u.id ⟨u, V.par, [], [], 1⟩) q { ρ q with L := (ρ q).L.take V.k ++ u.id :: (ρ q).L.drop V.k } := by
  unfold laid
  rw [if_pos hl, hp]
  dsimp only
  rw [fset_same, fset_two, fset_ne hne]
  rfl
theorem laid_R {ρ : Id → Rec} {rt : List Id} {u : Un} {V : Where} {q : Id} (hl : V.left = false) (hp : V.par = some q) (hne : q ≠ u.id) : laid (fset ρ u.id (newRec u)) rt u.id V = fset (fset ρ u.id ⟨u, V.par, [], [], 1⟩) q { ρ q with R := (ρ q).R.take V.k ++ u.id :: (ρ q).R.drop V.k } := by
  unfold laid recR
  rw [if_neg (by rw [hl]; simp), hp]
  dsimp only [rowOf]
  rw [fset_same, fset_two, fset_ne hne, fset_ne hne]
  rfl
theorem laid_0 {ρ : Id → Rec} {rt : List Id} {u : Un} {V : Where} (hl : V.left = false) (hp : V.par = none) : laid (fset ρ u.id (newRec u)) rt u.id V = fset ρ u.id ⟨u, V.par, [], [], 1⟩ := by
  unfold laid recR
  rw [if_neg (by rw [hl]; simp), hp]
  dsimp only
  rw [fset_same, fset_two]
  rfl
theorem fartherV_eq {t : Fo} {a b : Un} (ha : a.r = Fo.none' ∨ a.r ∈ t.ids) (hb : b.r = Fo.none' ∨ b.r ∈ t.ids) : fartherV t.ids a b = aheadV t.ids t.ids a b := by
  have key : ∀ {x : Un}, x.r = Fo.none' ∨ x.r ∈ t.ids → (x.r = Fo.none' ∧ rfar t.ids x = (t.ids.length : Int) + 1 ∧ farV t.ids t.ids x = (t.ids.length : Int)) ∨ (rfar t.ids x = farV t.ids t.ids x ∧ rfar t.ids x < (t.ids.length : Int)) := fun {x} hx => by
    by_cases e : x.r = Fo.none'
    · exact .inl ⟨e, if_pos e, if_pos e⟩
    · have hm := hx.resolve_left e
      have h1 : rfar t.ids x = findV t.ids t.ids x.r := if_neg e
      have h2 : farV t.ids t.ids x = findV t.ids t.ids x.r := if_neg e
      have h3 : findV t.ids t.ids x.r = (t.ids.idxOf x.r : Int) := if_pos hm
      have h4 := List.idxOf_lt_length_iff.2 hm
      exact .inr ⟨h1.trans h2.symm, by omega⟩
  unfold fartherV aheadV
  rcases key ha with ⟨_, h1, h2⟩ | ⟨h1, h2⟩ <;> rcases key hb with ⟨_, k1, k2⟩ | ⟨k1, k2⟩
  · rw [if_pos (by omega), if_pos (by omega)]
  · rw [if_neg (by omega), if_neg (by omega), decide_eq_decide]
    omega
  · rw [if_neg (by omega), if_neg (by omega), decide_eq_decide]
    omega
  · rw [h1, k1]
/-- The left children that stand ahead. -/
theorem left_k {L : List Id} {x : Id} {k : Nat} (hs : L.Pairwise (fun a b => Fo.lt a b = true)) (hx : x ∉ L) (h1 : ∀ i (hi : i < L.length), k ≤ i → Fo.lt x L[i] = true) (h2 : ∀ i (hi : i < L.length), i + 1 = k → Fo.lt x L[i] = false) (hkl : k ≤ L.length) : (∀ i (hi : i < L.length), i < k → Fo.lt L[i] x = true) ∧ ∀ i (hi : i < L.length), i = k → Fo.lt L[i] x = false := by
  refine ⟨fun i hi hik => ?_, fun i hi hik => Fo.lt_asymm (h1 i hi (by omega))⟩
  have hk : k - 1 < L.length := by omega
  have h3 := Fo.lt_total (h2 (k - 1) hk (by omega)) (fun e => hx (e ▸ List.getElem_mem hk))
  rcases Nat.eq_or_lt_of_le (show i ≤ k - 1 by omega) with e | hlt
  · simp only [e]
    exact h3
  · exact Fo.lt_trans (List.pairwise_iff_getElem.1 hs _ _ hi hk hlt) h3
theorem own_low {w : World} {B B' e sz n : Nat} {v : Value} {xs : List Value} (h : w.ownsRow B e sz v n xs) (hB : B' ≤ B) : w.ownsRow B' e sz v n xs := by
  refine ⟨h.1, ?_⟩
  rcases h.2 with h1 | ⟨g, cap, cur, h1, h2, h3⟩
  · exact .inl h1
  · exact .inr ⟨g, cap, cur, h1, Nat.le_trans hB h2, h3⟩
/-- The reference's blocks, and those that are new. -/
abbrev FX (F : Nat → Prop) (w A : World) : Nat → Prop := fun g => F g ∨ (w.heap.size ≤ g ∧ g < A.heap.size)
theorem Blk.uniq {w : World} {b e e' : Nat} {l l' : List Value} (h : Blk w b l e) (h' : Blk w b l' e') : l = l' := by
  have := Option.some.inj (h.symm.trans h')
  injection this with h1
  exact congrArg Array.toList h1
/-- A node's row is laid anew. -/
theorem RfEx.stored {w C w8 : World} {p : Nat} {F : Nat → Prop} {N rt ord : List Id} {ρ : Id → Rec} {vl vm vo : Value} {cs : List (List Value)} {x : Id} {left : Bool} {l : List Id} {v : Value} {B : Nat} (hE : RfEx C p (FX F w C) N ρ rt ord vl vm vo cs) (hx : x ∈ N) (hlt : ∀ g, F g → g < w.heap.size) (hp : F p) (hgw : ∀ g, vl.ownBlock = some g → w.heap.size ≤ g) (hb : Below C.heap.size C w8) (ho : OwnZ B w8 v (l.map (ix N))) (hB : C.heap.size ≤ B) (hC : w.heap.size ≤ C.heap.size) :
    ∃ g c ls, vl = .slice (some ⟨g, 0, none⟩) N.length c ∧ Blk w8 g ls 84 ∧ N.idxOf x * 10 + (if left then 8 else 9) < ls.length ∧ ∀ D, D = w8.putObj g (.cells (ls.set (N.idxOf x * 10 + (if left then 8 else 9)) v).toArray 84) → OnlyB w.heap.size p C D ∧ RfAt D p (FX F w D) N (fset ρ x (if left then { ρ x with L := l } else { ρ x with R := l })) rt ord := by
  obtain ⟨h1, h2, h3, h4, h5, h6, h7, h8⟩ := id hE
  have hi : N.idxOf x < N.length := List.idxOf_lt_length_iff.2 hx
  have hj : (if left then 8 else 9) < 10 := by split <;> omega
  have hfl := flat_len cs h5
  have hk : N.idxOf x * 10 + (if left then 8 else 9) < cs.flatten.length := by
    rw [hfl, h4]
    have : (N.idxOf x + 1) * 10 ≤ N.length * 10 := Nat.mul_le_mul_right _ hi
    omega
  have h28 := own_below h2 hb (Nat.le_refl _)
  obtain ⟨g, c, ls, rfl, hc, _, hblk, hkl, hset⟩ := own_set h28 hk
  refine ⟨g, c, ls, rfl, hblk, hkl, fun D hD => ?_⟩
  have hgC := own_ltg h2 (g := g) rfl
  have hgW := hgw g rfl
  have hgp := (h3 g rfl).2
  have hpw := hlt p hp
  have sD : D.heap.size = w8.heap.size := by rw [hD, World.putObj_size]
  have s8 := hb.size
  have up : ∀ q, FX F w C q → FX F w D q := fun q hq => by
    rcases hq with hq | hq
    · exact .inl hq
    · exact .inr ⟨hq.1, by omega⟩
  refine ⟨?_, fun q hq => ?_, .inl hp, .intro (.slice (some ⟨g, 0, none⟩) N.length c) (.intro vm (.intro vo ?_))⟩
  · rw [hD]
    exact (OnlyB.of hb hC).trans (OnlyB.put _ (.inr hgW))
  · rcases hq with hq | hq
    · have := hlt q hq
      omega
    · exact hq.2
  · refine hE.setRow hx (v := v) (Lz.of_own (v := v) (B := B) (e := 3) (nn := (l.map (ix N)).length) ?_ fun q hq => ?_) ?_ ?_ (by omega) up fun q hq hqp hqv => ?_
    · rw [hD]
      exact own_put ho (by omega) _
    · have q1 := (ho.lt q hq).1
      have q2 := own_ltg ho hq
      refine ⟨⟨.inr ⟨by omega, by omega⟩, fun e => ?_⟩, by omega⟩
      have : g = q := Option.some.inj e
      omega
    · rw [hD]
      exact Blk.put_ne (Ne.symm hgp) (h1.below hb h1.lt)
    · rw [hD]
      exact hset v
    · have hqC : q < C.heap.size := by
        rcases hq with hq | hq
        · have := hlt q hq
          omega
        · exact hq.2
      rw [hD, World.putObj_heap_other (fun e => hqv (congrArg some e.symm))]
      exact hb.block q hqC
end Sq
end Go.Proofs.Ytmammcgdjjldbaa
