/- Merged: SqRf, SqRg, SqRh. -/
import Derived.Test.YtmgipnckojopcaaGreatPcJSqNToSqRe
import Derived.Test.YtmgipnckojopcaaGreatPcJSxRToSxF
namespace Go.Proofs.YtmgipnckojopcaaGreat
set_option maxRecDepth 100000
namespace Sq
open Go Go.RowKit Sx Tl
section rules
variable {P : Program} {rd : Option Nat} {n : Nat} {ops : Array Oper} {Q : Post} {rest : List Oper} {F : Fr} {ds : List Deferred} {w : World} {ty : TypeId} {pos : String} {after : Array Edge}
/-- l[:n:n]. -/
theorem P_lslice3 {t e sz n' c m : Nat} {x hi mx : Operand} {k k' : IntKind} {b : Option Addr} {i : TypeInfo} (hx : ev F x = .slice b n' c) (hhi : ev F hi = .int k (m : Int)) (hmx : ev F mx = .int k' (m : Int)) (ht : P.underlying t = some (.slice e)) (hi' : P.info? e = some i) (hs : i.size = sz) (h2 : m ≤ c) :
    Pu P F (.slice t x none (some hi) (some mx)) ty (.slice b m m) := fun dst pos after w => by
  have hsz : (sizeOf e).run P w = .ok sz w := by simp [sizeOf, typeInfo, hi', hs]
  have e1 : Option.map (fun a : Addr => a.add 0) b = b := by
    cases b with
    | none => rfl
    | some a => rfl
  simp [execOp, hx, hhi, hmx, Instr.sliceAt, Instr.slice, Instr.sliceBounds, Instr.sliceBound, asIntOf, run_underlying ht, h2, hsz, e1]
/-- append to a slice that has no room left: a new row. -/
theorem Lst_appendFull {d : Nat} {s x : Operand} {t e size bytes nn m c : Nat} {a : Option Addr} {b : Addr} {i : TypeInfo} {z : Value} {xs news : List Value} (hs : ev F s = .slice a nn nn) (hx : ev F x = .slice (some b) m c) (ht : P.underlying t = some (.slice e)) (hi : P.info? e = some i) (hz : i.zero = some z)
    (hsize : i.size = size) (hby : i.bytes = bytes) (hzs : z.cells.size = size) (hsz : Nat.ble 1 size = true) (holds : ∀ j u, xs[j]? = some u → ∃ a', a = some a' ∧ w.cell? (a'.add j) = some u) (hlo : xs.length = nn * size) (hnews : ∀ j u, news[j]? = some u → w.cell? (b.add j) = some u) (hl : news.length = m * size) (hm : 0 < m)
    (h63 : nn + m ≤ 9223372036854775807) (hbytes : (nn + m) * bytes ≤ 140737488355328) (hd : Nat.blt d n = true)
    (h : ∀ v' w', w'.ownsRow w.heap.size e size v' (nn + m) (xs ++ news) → Below w.heap.size w w' → Lst P rd n ops Q rest (upd F d v') ds w') :
    Lst P rd n ops Q (⟨some d, .call { callee := .builtin .append, args := #[s, x], argTypes := #[t, t] }, ty, pos, after, none⟩ :: rest) F ds w := by
  subst hsize
  subst hby
  have hsz' : 1 ≤ i.size := by simpa using hsz
  have h63' : nn + m ≤ maxLen := by simp only [maxLen]; omega
  have hlen : (xs ++ news).length = (nn + m) * i.size := by rw [List.length_append, hlo, hl, Nat.add_mul]
  have grown : ∀ (old : Nat), old < nn + m →
      (w.drew.alloc (.cells (xs.toArray ++ news.toArray ++ Builtin.zeroCells z.cells (grownCap w (nn + m) old e - (nn + m))) e)).ownsRow w.heap.size e i.size
        (.slice (some ⟨w.heap.size, 0, none⟩) (nn + m) (grownCap w (nn + m) old e)) (nn + m) (xs ++ news) ∧
      Below w.heap.size w (w.drew.alloc (.cells (xs.toArray ++ news.toArray ++ Builtin.zeroCells z.cells (grownCap w (nn + m) old e - (nn + m))) e)) := by
    intro old ho
    have hge := grownCap_ge w (nn + m) old e
    have hcm : grownCap w (nn + m) old e ≤ maxLen := grownCap_le_maxLen w (nn + m) old e h63'
    refine ⟨⟨hlen, .inr ⟨w.heap.size, _, _, rfl, Nat.le_refl _, heap_alloc_new w.drew _, hge, hcm, ?_, ?_⟩⟩, ⟨rfl, rfl, rfl, by simp, fun k hk => heap_alloc_old w.drew _ hk⟩⟩
    · simp only [Array.size_append, List.size_toArray, size_zeroCells, hzs, hlo, hl, ← Nat.add_mul]
      congr 1
      omega
    · simp only [Array.toList_append, List.append_assoc]
      rw [← List.append_assoc, ← hlen]
      exact List.take_left
  cases a with
  | none =>
    have hxs : xs = [] := by
      cases xs with
      | nil => rfl
      | cons u l => obtain ⟨_, h1, _⟩ := holds 0 u rfl; cases h1
    subst hxs
    obtain rfl : nn = 0 := by
      have h1 : 0 = nn * i.size := hlo
      rcases Nat.mul_eq_zero.1 h1.symm with h | h
      · exact h
      · omega
    have hr := run_append_nil (P := P) w t ty e i z ht hi hz b m c news hl hnews hm (by omega) (by have hb := hbytes; simp only [Nat.zero_add] at hb; omega)
    have hgr := grown 0 (by omega)
    simp only [Nat.zero_add, List.nil_append, Array.empty_append] at hgr
    refine Lst_value (v := _) (w' := _) rfl ?_ hd (h _ _ (by simpa only [Nat.zero_add, List.nil_append] using hgr.1) hgr.2)
    simp [execOp, resolve, invoke, builtin, hs, hx, hr]
  | some a' =>
    have hr := run_append_grow (P := P) w t ty e i z ht hi hz a' nn nn xs hlo (fun j u hu => by obtain ⟨a'', h1, h2⟩ := holds j u hu; cases h1; exact h2) b m c news hl hnews (by omega) (by omega) (growslice_fits (by omega) hbytes)
    have hgr := grown nn (by omega)
    refine Lst_value (v := _) (w' := _) rfl ?_ hd (h _ _ hgr.1 hgr.2)
    simp [execOp, resolve, invoke, builtin, hs, hx, hr]
end rules
theorem own_full {w : World} {B e sz n c : Nat} {a : Option Addr} {xs : List Value} (h : w.ownsRow B e sz (.slice a n c) n xs) : ∀ j u, xs[j]? = some u → ∃ a', a = some a' ∧ w.cell? (a'.add j) = some u := fun j u hu => by
  rcases h.2 with ⟨hv, hn⟩ | ⟨g, cap, cur, hv, _⟩
  · have h1 := h.1
    rw [hn, Nat.zero_mul] at h1
    rw [List.eq_nil_of_length_eq_zero h1] at hu
    cases hu
  · injection hv with e1 e2 e3
    subst e1
    exact ⟨_, rfl, h.cells (g := g) rfl j u hu⟩
/-- Blocks below this one stay, but one. -/
structure OnlyB (B p : Nat) (w w' : World) : Prop where
  os : w'.os = w.os
  tape : w'.tape = w.tape
  output : w'.output = w.output
  size : w.heap.size ≤ w'.heap.size
  block : ∀ g, g < B → g ≠ p → w'.heap[g]? = w.heap[g]?
theorem OnlyB.trans {B p : Nat} {x y z : World} (h : OnlyB B p x y) (k : OnlyB B p y z) : OnlyB B p x z :=
  ⟨k.os.trans h.os, k.tape.trans h.tape, k.output.trans h.output, Nat.le_trans h.size k.size, fun g h1 h2 => (k.block g h1 h2).trans (h.block g h1 h2)⟩
theorem OnlyB.of {B B' p : Nat} {x y : World} (h : Below B' x y) (hB : B ≤ B') : OnlyB B p x y := ⟨h.os, h.tape, h.output, h.size, fun g h1 _ => h.block g (Nat.lt_of_lt_of_le h1 hB)⟩
theorem OnlyB.put {B p b : Nat} {w : World} (o : Obj) (hb : b = p ∨ B ≤ b) : OnlyB B p w (w.putObj b o) :=
  ⟨rfl, rfl, rfl, by rw [World.putObj_size]; exact Nat.le_refl _, fun g h1 h2 => World.putObj_heap_other (fun e => by rcases hb with h | h <;> omega)⟩
theorem OnlyB.turn {p : Nat} {F F' : Nat → Prop} {w w' : World} (h : OnlyB w.heap.size p w w') (hp : F p) (hF : ∀ g, g < w.heap.size → (F' g ↔ F g)) : Turn F F' w w' :=
  ⟨h.os, h.tape, h.output, h.size, hF, fun g hg hn => h.block g hg fun e => hn (e ▸ hp)⟩
theorem ix_old {N : List Id} {x k : Id} (hk : k ∈ N) : ix (N ++ [x]) k = ix N k := by
  unfold ix
  rw [List.idxOf_append, if_pos hk]
theorem ix_new {N : List Id} {x : Id} (hx : x ∉ N) : ix (N ++ [x]) x = (N.length : Int) := by
  unfold ix
  rw [List.idxOf_append, if_neg hx, List.idxOf_cons_self, Nat.zero_add]
theorem ix_olds {N l : List Id} {x : Id} (hl : ∀ j ∈ l, j ∈ N) : l.map (ix (N ++ [x])) = l.map (ix N) := List.map_congr_left fun j hj => ix_old (hl j hj)
section ups
variable {w w' : World} {p : Nat} {F F' : Nat → Prop} {N rt ord : List Id} {ρ : Id → Rec} {vl vm vo : Value} {cs : List (List Value)}
theorem RfEx.congr {σ : Id → Rec} (h : RfEx w p F N ρ rt ord vl vm vo cs) (he : ∀ k ∈ N, (σ k).u = (ρ k).u ∧ (σ k).par = (ρ k).par ∧ (σ k).L = (ρ k).L ∧ (σ k).R = (ρ k).R) : RfEx w p F N σ rt ord vl vm vo cs := by
  obtain ⟨h1, h2, h3, h4, h5, h6, h7, h8⟩ := h
  refine ⟨h1, h2, h3, h4, h5, h6, h7, fun k hk => ?_⟩
  obtain ⟨b, sl, sr, h9, h10, h11⟩ := h8 k hk
  obtain ⟨e1, e2, e3, e4⟩ := he k hk
  refine ⟨b, sl, sr, ?_, by rw [e3]; exact h10, by rw [e4]; exact h11⟩
  unfold rcs
  rw [e1, e2]
  exact h9
theorem Lz.nil (w : World) (F : Nat → Prop) (p : Nat) : Lz w F p (.slice none 0 0) [] := ⟨⟨0, 0, 0, .inr ⟨⟨none, rfl⟩, rfl⟩, fun h => absurd rfl h, fun _ hj => absurd hj (Nat.not_lt_zero _)⟩, fun h => absurd rfl h, none, 0, rfl, Nat.le_refl _⟩
/-- A node more. -/
theorem RfEx.add {x : Id} {r : Rec} {bl : Bool} {vl' : Value} (h : RfEx w p F N ρ rt ord vl vm vo cs) (hcl : Clo ord rt N N ρ) (hx : x ∉ N) (hL : r.L = []) (hR : r.R = []) (hp : ∀ j, r.par = some j → j ∈ N) (hS : Blk w' p [vl', vm, vo] 69) (hown : w'.ownsRow 0 78 10 vl' (N.length + 1) (cs.flatten ++ rcs N r bl (.slice none 0 0) (.slice none 0 0)))
    (hb : ∀ g, vl'.ownBlock = some g → F' g ∧ g ≠ p ∧ ¬ F g) (hs : w.heap.size ≤ w'.heap.size) (hF : ∀ g, F g → F' g) (hk : ∀ g, F g → g ≠ p → w'.heap[g]? = w.heap[g]?) : RfEx w' p F' (N ++ [x]) (fset ρ x r) rt ord vl' vm vo (cs ++ [rcs N r bl (.slice none 0 0) (.slice none 0 0)]) := by
  obtain ⟨h1, h2, h3, h4, h5, h6, h7, h8⟩ := h
  have up : ∀ {v : Value} {zs : List Int}, Lz w (fun g => F g ∧ vl.ownBlock ≠ some g) p v zs → Lz w' (fun g => F' g ∧ vl'.ownBlock ≠ some g) p v zs := fun h => h.kept hs (fun g hg => ⟨hF g hg.1, fun e => (hb g e).2.2 hg.1⟩) fun g hg hne => hk g hg.1 hne
  refine ⟨hS, ?_, fun g hg => ⟨(hb g hg).1, (hb g hg).2.1⟩, ?_, ?_, ?_, ?_, fun k hk' => ?_⟩
  · rw [List.length_append, List.flatten_append]
    have e : [rcs N r bl (.slice none 0 0) (.slice none 0 0)].flatten = rcs N r bl (.slice none 0 0) (.slice none 0 0) := by simp
    rw [e]
    exact hown
  · rw [List.length_append, List.length_append, h4]
    rfl
  · intro l hl
    rcases List.mem_append.1 hl with hl | hl
    · exact h5 l hl
    · rw [List.mem_singleton.1 hl]
      rfl
  · rw [ix_olds hcl.rt]
    exact up h6
  · rw [ix_olds hcl.ord]
    exact up h7
  · rcases List.mem_append.1 hk' with hk' | hk'
    · have hne : k ≠ x := fun e => hx (e ▸ hk')
      obtain ⟨b, sl, sr, h9, h10, h11⟩ := h8 k hk'
      rw [fset_ne hne]
      have hi : N.idxOf k < cs.length := by rw [h4]; exact List.idxOf_lt_length_iff.2 hk'
      refine ⟨b, sl, sr, ?_, ?_, ?_⟩
      · rw [List.idxOf_append, if_pos hk', List.getElem?_append_left hi, h9]
        have : px (N ++ [x]) (ρ k).par = px N (ρ k).par := by
          cases e : (ρ k).par with
          | none => rfl
          | some j => exact ix_old (hcl.par k hk' j e)
        unfold rcs
        rw [this]
      · rw [ix_olds (hcl.L k hk')]
        exact up h10
      · rw [ix_olds (hcl.R k hk')]
        exact up h11
    · obtain rfl := List.mem_singleton.1 hk'
      rw [fset_same, hL, hR]
      refine ⟨bl, .slice none 0 0, .slice none 0 0, ?_, Lz.nil _ _ _, Lz.nil _ _ _⟩
      have e1 : (N ++ [k]).idxOf k = cs.length := by rw [List.idxOf_append, if_neg hx, List.idxOf_cons_self, Nat.zero_add, h4]
      rw [e1, List.getElem?_append_right (Nat.le_refl _), Nat.sub_self]
      have : px (N ++ [k]) r.par = px N r.par := by
        cases e : r.par with
        | none => rfl
        | some j => exact ix_old (hp j e)
      show some _ = some _
      unfold rcs
      rw [this]
/-- The sequence's own rows turned. -/
theorem RfEx.setS {vm' vo' : Value} {rt' ord' : List Id} (h : RfEx w p F N ρ rt ord vl vm vo cs) (hS : Blk w' p [vl, vm', vo'] 69) (hm : Lz w' (fun g => F' g ∧ vl.ownBlock ≠ some g) p vm' (rt'.map (ix N))) (ho : Lz w' (fun g => F' g ∧ vl.ownBlock ≠ some g) p vo' (ord'.map (ix N))) (hs : w.heap.size ≤ w'.heap.size) (hF : ∀ g, F g → F' g) (hk : ∀ g, F g → g ≠ p → w'.heap[g]? = w.heap[g]?) : RfEx w' p F' N ρ rt' ord' vl vm' vo' cs := by
  obtain ⟨h1, h2, h3, h4, h5, h6, h7, h8⟩ := h
  have up : ∀ {v : Value} {zs : List Int}, Lz w (fun g => F g ∧ vl.ownBlock ≠ some g) p v zs → Lz w' (fun g => F' g ∧ vl.ownBlock ≠ some g) p v zs := fun h => h.kept hs (fun g hg => ⟨hF g hg.1, hg.2⟩) fun g hg hne => hk g hg.1 hne
  refine ⟨hS, own_kept h2 fun g hg => hk g (h3 g hg).1 (h3 g hg).2, fun g hg => ⟨hF g (h3 g hg).1, (h3 g hg).2⟩, h4, h5, hm, ho, fun k hk' => ?_⟩
  obtain ⟨b, sl, sr, h9, h10, h11⟩ := h8 k hk'
  exact ⟨b, sl, sr, h9, up h10, up h11⟩
/-- A node's row turned. -/
theorem RfEx.setRow {x : Id} {left : Bool} {v : Value} {l : List Id} (h : RfEx w p F N ρ rt ord vl vm vo cs) (hx : x ∈ N) (hv : Lz w' (fun g => F' g ∧ vl.ownBlock ≠ some g) p v (l.map (ix N))) (hS : Blk w' p [vl, vm, vo] 69) (hown : w'.ownsRow 0 78 10 vl N.length (cs.flatten.set (N.idxOf x * 10 + if left then 8 else 9) v))
    (hs : w.heap.size ≤ w'.heap.size) (hF : ∀ g, F g → F' g) (hk : ∀ g, F g → g ≠ p → vl.ownBlock ≠ some g → w'.heap[g]? = w.heap[g]?) : ∃ cs', RfEx w' p F' N (fset ρ x (if left then { ρ x with L := l } else { ρ x with R := l })) rt ord vl vm vo cs' := by
  obtain ⟨h1, h2, h3, h4, h5, h6, h7, h8⟩ := h
  have up : ∀ {v : Value} {zs : List Int}, Lz w (fun g => F g ∧ vl.ownBlock ≠ some g) p v zs → Lz w' (fun g => F' g ∧ vl.ownBlock ≠ some g) p v zs := fun h => h.kept hs (fun g hg => ⟨hF g hg.1, hg.2⟩) fun g hg hne => hk g hg.1 hne hg.2
  have hi : N.idxOf x < cs.length := by rw [h4]; exact List.idxOf_lt_length_iff.2 hx
  have hj : (if left then 8 else 9) < 10 := by split <;> omega
  rw [flat_set v cs (N.idxOf x) (if left then 8 else 9) hi h5 hj] at hown
  refine ⟨_, hS, hown, fun g hg => ⟨hF g (h3 g hg).1, (h3 g hg).2⟩, by rw [List.length_set]; exact h4, fun q hq => ?_, up h6, up h7, fun k hk' => ?_⟩
  · rcases List.mem_or_eq_of_mem_set hq with hq | rfl
    · exact h5 q hq
    · rw [List.length_set]
      exact h5 _ (List.getElem_mem hi)
  · obtain ⟨b, sl, sr, h9, h10, h11⟩ := h8 k hk'
    by_cases e : k = x
    · subst e
      rw [fset_same]
      have h9' : cs[N.idxOf k] = rcs N (ρ k) b sl sr := by rw [List.getElem?_eq_getElem hi] at h9; exact Option.some.inj h9
      rw [List.getElem?_set_self hi, h9']
      cases left with
      | true => exact ⟨b, v, sr, rfl, hv, up h11⟩
      | false => exact ⟨b, sl, v, rfl, up h10, hv⟩
    · rw [fset_ne e]
      refine ⟨b, sl, sr, ?_, up h10, up h11⟩
      rw [List.getElem?_set_ne, h9]
      intro he
      have h1 := List.getElem_idxOf (List.idxOf_lt_length_iff.2 hk')
      have h2 := List.getElem_idxOf (List.idxOf_lt_length_iff.2 hx)
      apply e
      rw [← h1, ← h2]
      simp only [he]
end ups
theorem fset_two (ρ : Id → Rec) (x : Id) (a b : Rec) : fset (fset ρ x a) x b = fset ρ x b := funext fun j => by
  by_cases e : j = x
  · subst e
    rw [fset_same, fset_same]
  · rw [fset_ne e, fset_ne e, fset_ne e]
theorem laid_L {ρ : Id → Rec} {rt : List Id} {u : Un} {V : Where} {q : Id} (hl : V.left = true) (hp : V.par = some q) (hne : q ≠ u.id) : laid (fset ρ u.id (newRec u)) rt u.id V = fset (fset ρ u.id ⟨u, V.par, [], [], 1⟩) q { ρ q with L := (ρ q).L.take V.k ++ u.id :: (ρ q).L.drop V.k } := by
  unfold laid
  rw [if_pos hl, hp]
  dsimp only
  rw [fset_same, fset_two, fset_ne hne]
  rfl
theorem laid_R {ρ : Id → Rec} {rt : List Id} {u : Un} {V : Where} {q : Id} (hl : V.left = false) (hp : V.par = some q) (hne : q ≠ u.id) : laid (fset ρ u.id (newRec u)) rt u.id V = fset (fset ρ u.id ⟨u, V.par, [], [], 1⟩) q { ρ q with R := (ρ q).R.take V.k ++ u.id :: (ρ q).R.drop V.k } := by
  unfold laid recR
  rw [if_neg (by rw [hl]; simp), hp]
  dsimp only [rowOf]
  rw [fset_same, fset_two, fset_ne hne, fset_ne hne]
  rfl
theorem laid_0 {ρ : Id → Rec} {rt : List Id} {u : Un} {V : Where} (hl : V.left = false) (hp : V.par = none) : laid (fset ρ u.id (newRec u)) rt u.id V = fset ρ u.id ⟨u, V.par, [], [], 1⟩ := by
  unfold laid recR
  rw [if_neg (by rw [hl]; simp), hp]
  dsimp only
  rw [fset_same, fset_two]
  rfl
theorem fartherV_eq {t : Fo} {a b : Un} (ha : a.r = Fo.none' ∨ a.r ∈ t.ids) (hb : b.r = Fo.none' ∨ b.r ∈ t.ids) : fartherV t.ids a b = aheadV t.ids t.ids a b := by
  have key : ∀ {x : Un}, x.r = Fo.none' ∨ x.r ∈ t.ids → (x.r = Fo.none' ∧ rfar t.ids x = (t.ids.length : Int) + 1 ∧ farV t.ids t.ids x = (t.ids.length : Int)) ∨ (rfar t.ids x = farV t.ids t.ids x ∧ rfar t.ids x < (t.ids.length : Int)) := fun {x} hx => by
    by_cases e : x.r = Fo.none'
    · exact .inl ⟨e, if_pos e, if_pos e⟩
    · have hm := hx.resolve_left e
      have h1 : rfar t.ids x = findV t.ids t.ids x.r := if_neg e
      have h2 : farV t.ids t.ids x = findV t.ids t.ids x.r := if_neg e
      have h3 : findV t.ids t.ids x.r = (t.ids.idxOf x.r : Int) := if_pos hm
      have h4 := List.idxOf_lt_length_iff.2 hm
      exact .inr ⟨h1.trans h2.symm, by omega⟩
  unfold fartherV aheadV
  rcases key ha with ⟨_, h1, h2⟩ | ⟨h1, h2⟩ <;> rcases key hb with ⟨_, k1, k2⟩ | ⟨k1, k2⟩
  · rw [if_pos (by omega), if_pos (by omega)]
  · rw [if_neg (by omega), if_neg (by omega), decide_eq_decide]
    omega
  · rw [if_neg (by omega), if_neg (by omega), decide_eq_decide]
    omega
  · rw [h1, k1]
/-- The left children that stand ahead. -/
theorem left_k {L : List Id} {x : Id} {k : Nat} (hs : L.Pairwise (fun a b => Fo.lt a b = true)) (hx : x ∉ L) (h1 : ∀ i (hi : i < L.length), k ≤ i → Fo.lt x L[i] = true) (h2 : ∀ i (hi : i < L.length), i + 1 = k → Fo.lt x L[i] = false) (hkl : k ≤ L.length) : (∀ i (hi : i < L.length), i < k → Fo.lt L[i] x = true) ∧ ∀ i (hi : i < L.length), i = k → Fo.lt L[i] x = false := by
  refine ⟨fun i hi hik => ?_, fun i hi hik => Fo.lt_asymm (h1 i hi (by omega))⟩
  have hk : k - 1 < L.length := by omega
  have h3 := Fo.lt_total (h2 (k - 1) hk (by omega)) (fun e => hx (e ▸ List.getElem_mem hk))
  rcases Nat.eq_or_lt_of_le (show i ≤ k - 1 by omega) with e | hlt
  · simp only [e]
    exact h3
  · exact Fo.lt_trans (List.pairwise_iff_getElem.1 hs _ _ hi hk hlt) h3
theorem own_low {w : World} {B B' e sz n : Nat} {v : Value} {xs : List Value} (h : w.ownsRow B e sz v n xs) (hB : B' ≤ B) : w.ownsRow B' e sz v n xs := by
  refine ⟨h.1, ?_⟩
  rcases h.2 with h1 | ⟨g, cap, cur, h1, h2, h3⟩
  · exact .inl h1
  · exact .inr ⟨g, cap, cur, h1, Nat.le_trans hB h2, h3⟩
/-- The reference's blocks, and those that are new. -/
abbrev FX (F : Nat → Prop) (w A : World) : Nat → Prop := fun g => F g ∨ (w.heap.size ≤ g ∧ g < A.heap.size)
theorem Blk.uniq {w : World} {b e e' : Nat} {l l' : List Value} (h : Blk w b l e) (h' : Blk w b l' e') : l = l' := by
  have := Option.some.inj (h.symm.trans h')
  injection this with h1
  exact congrArg Array.toList h1
/-- A node's row is laid anew. -/
theorem RfEx.stored {w C w8 : World} {p : Nat} {F : Nat → Prop} {N rt ord : List Id} {ρ : Id → Rec} {vl vm vo : Value} {cs : List (List Value)} {x : Id} {left : Bool} {l : List Id} {v : Value} {B : Nat} (hE : RfEx C p (FX F w C) N ρ rt ord vl vm vo cs) (hx : x ∈ N) (hlt : ∀ g, F g → g < w.heap.size) (hp : F p) (hgw : ∀ g, vl.ownBlock = some g → w.heap.size ≤ g) (hb : Below C.heap.size C w8) (ho : OwnZ B w8 v (l.map (ix N))) (hB : C.heap.size ≤ B) (hC : w.heap.size ≤ C.heap.size) :
    ∃ g c ls, vl = .slice (some ⟨g, 0, none⟩) N.length c ∧ Blk w8 g ls 78 ∧ N.idxOf x * 10 + (if left then 8 else 9) < ls.length ∧ ∀ D, D = w8.putObj g (.cells (ls.set (N.idxOf x * 10 + (if left then 8 else 9)) v).toArray 78) → OnlyB w.heap.size p C D ∧ RfAt D p (FX F w D) N (fset ρ x (if left then { ρ x with L := l } else { ρ x with R := l })) rt ord := by
  obtain ⟨h1, h2, h3, h4, h5, h6, h7, h8⟩ := id hE
  have hi : N.idxOf x < N.length := List.idxOf_lt_length_iff.2 hx
  have hj : (if left then 8 else 9) < 10 := by split <;> omega
  have hfl := flat_len cs h5
  have hk : N.idxOf x * 10 + (if left then 8 else 9) < cs.flatten.length := by
    rw [hfl, h4]
    have : (N.idxOf x + 1) * 10 ≤ N.length * 10 := Nat.mul_le_mul_right _ hi
    omega
  have h28 := own_below h2 hb (Nat.le_refl _)
  obtain ⟨g, c, ls, rfl, hc, _, hblk, hkl, hset⟩ := own_set h28 hk
  refine ⟨g, c, ls, rfl, hblk, hkl, fun D hD => ?_⟩
  have hgC := own_ltg h2 (g := g) rfl
  have hgW := hgw g rfl
  have hgp := (h3 g rfl).2
  have hpw := hlt p hp
  have sD : D.heap.size = w8.heap.size := by rw [hD, World.putObj_size]
  have s8 := hb.size
  have up : ∀ q, FX F w C q → FX F w D q := fun q hq => by
    rcases hq with hq | hq
    · exact .inl hq
    · exact .inr ⟨hq.1, by omega⟩
  refine ⟨?_, fun q hq => ?_, .inl hp, .intro (.slice (some ⟨g, 0, none⟩) N.length c) (.intro vm (.intro vo ?_))⟩
  · rw [hD]
    exact (OnlyB.of hb hC).trans (OnlyB.put _ (.inr hgW))
  · rcases hq with hq | hq
    · have := hlt q hq
      omega
    · exact hq.2
  · refine hE.setRow hx (v := v) (Lz.of_own (v := v) (B := B) (e := 3) (nn := (l.map (ix N)).length) ?_ fun q hq => ?_) ?_ ?_ (by omega) up fun q hq hqp hqv => ?_
    · rw [hD]
      exact own_put ho (by omega) _
    · have q1 := (ho.lt q hq).1
      have q2 := own_ltg ho hq
      refine ⟨⟨.inr ⟨by omega, by omega⟩, fun e => ?_⟩, by omega⟩
      have : g = q := Option.some.inj e
      omega
    · rw [hD]
      exact Blk.put_ne (Ne.symm hgp) (h1.below hb h1.lt)
    · rw [hD]
      exact hset v
    · have hqC : q < C.heap.size := by
        rcases hq with hq | hq
        · have := hlt q hq
          omega
        · exact hq.2
      rw [hD, World.putObj_heap_other (fun e => hqv (congrArg some e.symm))]
      exact hb.block q hqC
end Sq
namespace Sq
open Go Go.RowKit Sx Tl
variable {w : World} {p : Nat} {F : Nat → Prop}
/-- At p lies the reference's sequence of this tree. -/
def RefAt (w : World) (p : Nat) (F : Nat → Prop) (t : Fo) : Prop := ∃ N ρ, RfAt w p F N ρ t.tips t.ids ∧ Fo.Fits ρ none t ∧ Fo.Good t ∧ N.Nodup ∧ ∀ k, k ∈ N ↔ k ∈ t.ids
theorem len_of {N : List Id} {t : Fo} (hn : N.Nodup) (hg : Fo.Good t) (hN : ∀ k, k ∈ N ↔ k ∈ t.ids) : N.length = t.sz := by
  rw [← Fo.ids_len]
  exact ((List.perm_ext_iff_of_nodup hn hg.nd).2 hN).length_eq
section
attribute [local irreducible] RnS RnT
attribute [local irreducible] W Lst Qst Pu seqQ blkQ rndQ cutQ retQ Does Enters IntKind.wrap bits sb World.alloc World.putObj Blk
attribute [local irreducible] Rn Tk rnQ
set_option maxHeartbeats 4000000 in
theorem c_rInsert (u : Un) (t : Fo) (hs : t.sz ≤ 1000000000 - 1) (h : RefAt w p F t) :
    Does Tryz.prog 28 #[.pointer (some ⟨p, 0, none⟩), .agg (ucs u).toArray] w fun v w' => v = .bool (Fo.may t u) ∧ ∃ F', RefAt w' p F' (Fo.insert t u).1 ∧ Turn F F' w w' := by
  obtain ⟨N, ρ, h, hF, hg, hn, hN⟩ := h
  have hlen := len_of hn hg hN
  have hu : ∀ j ∈ N, (ρ j).u.id = j := fun j hj => fits_u hF j ((hN j).1 hj)
  have ho : ∀ j ∈ t.ids, j ∈ N := fun j hj => (hN j).2 hj
  have hlo : t.ids.length ≤ 1000000000 := by rw [Fo.ids_len]; omega
  have hlN : N.length ≤ 1000000000 := by omega
  refine Does_of (args := [.pointer (some ⟨p, 0, none⟩), .agg (ucs u).toArray]) Tryz.func28 (by kernel_rfl) rfl rfl rfl rfl rfl ?_
  obtain ⟨X, hXe⟩ : ∃ X, ((w.alloc (.cells (ucs u).toArray 52)).alloc (.cells [.int .u64 0, .int .u64 0].toArray 40)).putObj (w.heap.size + 1) (.cells [.int .u64 0, .int .u64 0].toArray 40) = X := ⟨_, rfl⟩
  have hbX : Below w.heap.size w X := by rw [← hXe]; exact Bel
  have kX : Blk X w.heap.size (ucs u) 52 := by rw [← hXe]; exact (by (repeat (first | assumption | (apply Blk.below (hb := hb1); rotate_left; (focus ((try simp only [Sx.sizes]); omega)); rotate_right) | (apply Blk.below (hb := hb2); rotate_left; (focus ((try simp only [Sx.sizes]); omega)); rotate_right) | (apply Blk.below (hb := hb3); rotate_left; (focus ((try simp only [Sx.sizes]); omega)); rotate_right) | (apply Blk.below (hb := hb4); rotate_left; (focus ((try simp only [Sx.sizes]); omega)); rotate_right) | (apply Blk.below (hb := hb5); rotate_left; (focus ((try simp only [Sx.sizes]); omega)); rotate_right) | (apply Blk.below (hb := hb6); rotate_left; (focus ((try simp only [Sx.sizes]); omega)); rotate_right) | (apply Blk.below (hb := hb7); rotate_left; (focus ((try simp only [Sx.sizes]); omega)); rotate_right) | (apply Blk.below (hb := hb8); rotate_left; (focus ((try simp only [Sx.sizes]); omega)); rotate_right) | (apply Blk.below (hb := hb9); rotate_left; (focus ((try simp only [Sx.sizes]); omega)); rotate_right) | exact Blk.newE (by first | rfl | ((try simp only [Sx.sizes]); first | done | omega)) _ _ | exact Blk.put_same (by (try simp only [Sx.sizes]); first | done | omega) _ _ | (apply Blk.put_ne; (focus omega)) | apply Blk.alloc | apply Blk.drew)); done)
  have zX : Blk X (w.heap.size + 1) [.int .u64 0, .int .u64 0] 40 := by rw [← hXe]; exact (by (repeat (first | assumption | (apply Blk.below (hb := hb1); rotate_left; (focus ((try simp only [Sx.sizes]); omega)); rotate_right) | (apply Blk.below (hb := hb2); rotate_left; (focus ((try simp only [Sx.sizes]); omega)); rotate_right) | (apply Blk.below (hb := hb3); rotate_left; (focus ((try simp only [Sx.sizes]); omega)); rotate_right) | (apply Blk.below (hb := hb4); rotate_left; (focus ((try simp only [Sx.sizes]); omega)); rotate_right) | (apply Blk.below (hb := hb5); rotate_left; (focus ((try simp only [Sx.sizes]); omega)); rotate_right) | (apply Blk.below (hb := hb6); rotate_left; (focus ((try simp only [Sx.sizes]); omega)); rotate_right) | (apply Blk.below (hb := hb7); rotate_left; (focus ((try simp only [Sx.sizes]); omega)); rotate_right) | (apply Blk.below (hb := hb8); rotate_left; (focus ((try simp only [Sx.sizes]); omega)); rotate_right) | (apply Blk.below (hb := hb9); rotate_left; (focus ((try simp only [Sx.sizes]); omega)); rotate_right) | exact Blk.newE (by first | rfl | ((try simp only [Sx.sizes]); first | done | omega)) _ _ | exact Blk.put_same (by (try simp only [Sx.sizes]); first | done | omega) _ _ | (apply Blk.put_ne; (focus omega)) | apply Blk.alloc | apply Blk.drew)); done)
  have hX := h.grown hbX
  unfold ucs at kX
  (refine Ga ?_)
  rw [hXe]
  clear hXe
  have lx := kX.lt
  have lz := zX.lt
  (refine Ga ?_)
  (apply Lst_call; (focus rfl); (focus rfl))
  refine (r_Right u.id X).mono ?_
  rintro v w2 ⟨rfl, hb2⟩
  have h2 := hX.grown hb2
  have k2 := kX.below hb2 lx
  have z2 := zX.below hb2 lz
  have b2 := hbX.trans (hb2.mono hbX.size)
  have s2 := hb2.size
  have end_no : ∀ A, Grown w A → Fo.may t u = false → Value.bool false = Value.bool (Fo.may t u) ∧ ∃ F', RefAt A p F' (Fo.insert t u).1 ∧ Turn F F' w A := fun A hA hm => by
    refine ⟨by rw [hm], F, ?_, Turn.of hA⟩
    have : (Fo.insert t u).1 = t := by unfold Fo.insert; rw [hm]; rfl
    rw [this]
    exact ⟨N, ρ, h.grown hA, hF, hg, hn, hN⟩
  cases hr : Fo.rightId u.id with
  | false =>
    (refine Ga ?_)
    apply retQ1
    focus rfl
    exact end_no w2 b2 (by unfold Fo.may; rw [hr]; rfl)
  | true =>
    (refine Ga ?_)
    (apply Lst_call; (focus rfl); (focus rfl))
    refine (c_rfind u.id hn hu hlN h2).mono ?_
    rintro v w3 ⟨rfl, hb3⟩
    have h3 := h2.grown hb3
    have k3 := k2.below hb3 k2.lt
    have z3 := z2.below hb3 z2.lt
    have b3 := b2.trans (hb3.mono b2.size)
    have s3 := hb3.size
    clear kX zX k2 z2 hX h2
    by_cases hnew : u.id ∈ N
    · have hf : fx N u.id = ix N u.id := if_pos hnew
      have h0 : 0 ≤ ix N u.id := by unfold ix; omega
      rw [hf]
      (refine Ga ?_)
      apply retQ1
      focus rfl
      exact end_no w3 b3 (by unfold Fo.may; rw [decide_eq_true ((hN u.id).1 hnew)]; simp)
    · have hf : fx N u.id = -1 := if_neg hnew
      rw [hf]
      have l3 := k3.lt
      have lz3 := z3.lt
      (refine Ga ?_)
      refine W_draws (Grown _) rfl (by kernel_rfl) (grown_start _) ?_
      (refine Qb ?_)
      apply Qst_call (.int .i64 (fx N u.l))
      focus rfl
      focus rfl
      · intro A9 hb9
        exact (c_rfind u.l hn hu hlN (h3.grown hb9)).mono fun v w' h => ⟨h.1, Sx.Below.after hb9 h.2⟩
      (refine Qb ?_)
      apply Qst_call (.int .i64 (fx N u.r))
      focus rfl
      focus rfl
      · intro A9 hb9
        exact (c_rfind u.r hn hu hlN (h3.grown hb9)).mono fun v w' h => ⟨h.1, Sx.Below.after hb9 h.2⟩
      (refine Qb ?_)
      intro w4 hb4
      have h4 := h3.grown hb4
      have k4 := k3.below hb4 l3
      have z4 := z3.below hb4 lz3
      have b4 := b3.trans (hb4.mono b3.size)
      apply seqQ_n
      apply W_seq
      refine W_cutS (α := Unit) (fun _ => [(0, .pointer (some ⟨p, 0, none⟩)), (3, .pointer (some ⟨w.heap.size, 0, none⟩)), (5, .pointer (some ⟨w.heap.size + 1, 0, none⟩)), (6, .int .i64 (fx N u.l)), (7, .int .i64 (fx N u.r))]) (fun _ A => Fo.may t u = true ∧ Grown w4 A) ?_ ?_
      · have three : ∀ k, k = Fo.none' ∨ k ∈ N ∨ (k ≠ Fo.none' ∧ k ∉ N) := fun k => by
          by_cases h1 : k = Fo.none'
          · exact .inl h1
          · by_cases h2 : k ∈ N
            · exact .inr (.inl h2)
            · exact .inr (.inr ⟨h1, h2⟩)
        have hno : Fo.none' ∉ N := fun h => hg.none ((hN _).1 h)
        have id_t : ∀ {k : Id}, k = Fo.none' → Eqv Tryz.prog 3 40 (idv k) (idv (0, 0)) true := fun {k} h => by
          have := id_eq k (0, 0)
          rwa [decide_eq_true (show k = (0, 0) from h)] at this
        have id_f : ∀ {k : Id}, k ≠ Fo.none' → Eqv Tryz.prog 3 40 (idv k) (idv (0, 0)) false := fun {k} h => by
          have := id_eq k (0, 0)
          rwa [decide_eq_false (show ¬ k = (0, 0) from h)] at this
        have l4 := k4.lt
        have lz4 := z4.lt
        have hr0 := three u.r
        rcases three u.l with hl1 | hl1 | hl1
        · have el := id_t hl1
          have fl0 : fx N u.l = -1 := if_neg (fun h => hno (hl1 ▸ h))
          rw [fl0]
          (refine Ga ?_)
          apply Lst_pu
          · apply P_neA
            focus rfl
            focus rfl
            focus kernel_rfl
            focus exact el
            focus rfl
          focus rfl
          (refine Ga ?_)
          rcases hr0 with hr1 | hr1 | hr1
          · have er := id_t hr1
            have fr0 : fx N u.r = -1 := if_neg (fun h => hno (hr1 ▸ h))
            rw [fr0]
            apply Lst_pu
            · apply P_neA
              focus rfl
              focus rfl
              focus kernel_rfl
              focus exact er
              focus rfl
            focus rfl
            (refine Ga ?_)
            exact cutQ_n () ⟨Fo.may_iff.2 ⟨⟨hr, fun h => hnew ((hN _).2 h), .inl hl1, .inl hr1⟩, .inr (.inl hr1)⟩, Below.refl _ _⟩ ⟨rfl, rfl, rfl, rfl, rfl, trivial⟩
          · have hne : u.r ≠ Fo.none' := fun e => hno (e ▸ hr1)
            have er := id_f hne
            have fr0 : fx N u.r = ix N u.r := if_pos hr1
            have fr1 : 0 ≤ ix N u.r := by unfold ix; omega
            rw [fr0]
            apply Lst_pu
            · apply P_neA
              focus rfl
              focus rfl
              focus kernel_rfl
              focus exact er
              focus rfl
            focus rfl
            (refine Ga ?_)
            exact cutQ_n () ⟨Fo.may_iff.2 ⟨⟨hr, fun h => hnew ((hN _).2 h), .inl hl1, .inr ((hN _).1 hr1)⟩, .inl hl1⟩, Below.refl _ _⟩ ⟨rfl, rfl, rfl, rfl, rfl, trivial⟩
          · have er := id_f hr1.1
            have fr0 : fx N u.r = -1 := if_neg hr1.2
            rw [fr0]
            apply Lst_pu
            · apply P_neA
              focus rfl
              focus rfl
              focus kernel_rfl
              focus exact er
              focus rfl
            focus rfl
            (refine Ga ?_)
            apply retQ1
            focus rfl
            exact end_no w4 b4 (by
              cases e : Fo.may t u with
              | false => rfl
              | true => exact ((Fo.may_iff.1 e).r.elim hr1.1 fun h => hr1.2 ((hN _).2 h)).elim)
        · have hne' : u.l ≠ Fo.none' := fun e => hno (e ▸ hl1)
          have el := id_f hne'
          have fl0 : fx N u.l = ix N u.l := if_pos hl1
          have fl1 : 0 ≤ ix N u.l := by unfold ix; omega
          rw [fl0]
          (refine Ga ?_)
          apply Lst_pu
          · apply P_neA
            focus rfl
            focus rfl
            focus kernel_rfl
            focus exact el
            focus rfl
          focus rfl
          (refine Ga ?_)
          rcases hr0 with hr1 | hr1 | hr1
          · have er := id_t hr1
            have fr0 : fx N u.r = -1 := if_neg (fun h => hno (hr1 ▸ h))
            rw [fr0]
            apply Lst_pu
            · apply P_neA
              focus rfl
              focus rfl
              focus kernel_rfl
              focus exact er
              focus rfl
            focus rfl
            (refine Ga ?_)
            exact cutQ_n () ⟨Fo.may_iff.2 ⟨⟨hr, fun h => hnew ((hN _).2 h), .inr ((hN _).1 hl1), .inl hr1⟩, .inr (.inl hr1)⟩, Below.refl _ _⟩ ⟨rfl, rfl, rfl, rfl, rfl, trivial⟩
          · have hne : u.r ≠ Fo.none' := fun e => hno (e ▸ hr1)
            have er := id_f hne
            have fr0 : fx N u.r = ix N u.r := if_pos hr1
            have fr1 : 0 ≤ ix N u.r := by unfold ix; omega
            rw [fr0]
            apply Lst_pu
            · apply P_neA
              focus rfl
              focus rfl
              focus kernel_rfl
              focus exact er
              focus rfl
            focus rfl
            (refine Ga ?_)
            (apply Lst_call; (focus rfl); (focus rfl))
            refine (c_place u.r hr1 ho hg.nd hlo h4).mono ?_
            rintro v w5 ⟨rfl, rfl⟩
            (refine Ga ?_)
            (apply Lst_call; (focus rfl); (focus rfl))
            refine (c_place u.l hl1 ho hg.nd hlo h4).mono ?_
            rintro v w5 ⟨rfl, rfl⟩
            have p1 := findV_pos ((hN _).1 hr1)
            have p2 := findV_pos ((hN _).1 hl1)
            rw [p1, p2]
            by_cases hp : t.pos u.l < t.pos u.r
            · (refine Ga ?_)
              exact cutQ_n () ⟨Fo.may_iff.2 ⟨⟨hr, fun h => hnew ((hN _).2 h), .inr ((hN _).1 hl1), .inr ((hN _).1 hr1)⟩, .inr (.inr hp)⟩, Below.refl _ _⟩ ⟨rfl, rfl, rfl, rfl, rfl, trivial⟩
            · (refine Ga ?_)
              apply retQ1
              focus rfl
              exact end_no w4 b4 (by
                cases e : Fo.may t u with
                | false => rfl
                | true =>
                  rcases (Fo.may_iff.1 e).lr with h | h | h
                  · exact absurd (h ▸ hl1) hno
                  · exact absurd h hne
                  · exact absurd h hp)
          · have er := id_f hr1.1
            have fr0 : fx N u.r = -1 := if_neg hr1.2
            rw [fr0]
            apply Lst_pu
            · apply P_neA
              focus rfl
              focus rfl
              focus kernel_rfl
              focus exact er
              focus rfl
            focus rfl
            (refine Ga ?_)
            apply retQ1
            focus rfl
            exact end_no w4 b4 (by
              cases e : Fo.may t u with
              | false => rfl
              | true => exact ((Fo.may_iff.1 e).r.elim hr1.1 fun h => hr1.2 ((hN _).2 h)).elim)
        · have el := id_f hl1.1
          have fl0 : fx N u.l = -1 := if_neg hl1.2
          rw [fl0]
          (refine Ga ?_)
          apply Lst_pu
          · apply P_neA
            focus rfl
            focus rfl
            focus kernel_rfl
            focus exact el
            focus rfl
          focus rfl
          (refine Ga ?_)
          apply retQ1
          focus rfl
          exact end_no w4 b4 (by
            cases e : Fo.may t u with
            | false => rfl
            | true => exact ((Fo.may_iff.1 e).l.elim hl1.1 fun h => hl1.2 ((hN _).2 h)).elim)
      · rintro J _ A ⟨hmay, hbA⟩
        have hM := Fo.may_iff.1 hmay
        have hA := h4.grown hbA
        have kA := k4.below hbA k4.lt
        have zA := z4.below hbA z4.lt
        have bA := b4.trans (hbA.mono b4.size)
        have sA : w.heap.size + 2 ≤ A.heap.size := by have := zA.lt; omega
        have hno : Fo.none' ∉ N := fun h => hg.none ((hN _).1 h)
        obtain ⟨rc, c, V, Pn, hP⟩ := puts hg hF hM.toCan
        have hVl : V.left = true → u.r ∈ N ∧ (u.l ∈ N → u.l ∈ rc) ∧ V.par = some u.r := fun e => by
          have := hP.hW
          rw [if_pos e] at this
          exact ⟨(hN _).2 this.1.r, fun hl => this.1.l ((hN _).1 hl), this.2⟩
        have hVr : V.left = false → (u.r ∈ N → u.l ∈ N ∧ u.l ∉ rc) ∧ V.par = parOf t.ids u := fun e => by
          have := hP.hW
          rw [if_neg (by rw [e]; simp)] at this
          exact ⟨fun hr => ⟨(hN _).2 (this.1.r ((hN _).1 hr)).1, (this.1.r ((hN _).1 hr)).2⟩, this.2⟩
        have hpf : V.left = false → px N V.par = fx N u.l := fun e => by
          rw [(hVr e).2]
          unfold parOf fx
          by_cases hl : u.l ∈ t.ids
          · rw [if_pos hl, if_pos ((hN _).2 hl)]
            rfl
          · rw [if_neg hl, if_neg fun h => hl ((hN _).1 h)]
            rfl
        have lA := kA.lt
        have lzA := zA.lt
        clear h3 h4 k3 k4 z3 z4 b2 b3 b4 s2 s3 hb2 hb3 hb4 hbX hbA end_no lx lz l3 lz3
        have bY : Below A.heap.size A ((A.alloc (.cells [.int .u64 0, .int .u64 0, .int .u64 0, .int .u64 0, .int .u64 0, .int .u64 0, .int .i64 0, .bool false, .slice none 0 0, .slice none 0 0].toArray 78)).putObj A.heap.size (.cells [.int .u64 (u.id.1 : Int), .int .u64 (u.id.2 : Int), .int .u64 (u.l.1 : Int), .int .u64 (u.l.2 : Int), .int .u64 (u.r.1 : Int), .int .u64 (u.r.2 : Int), .int .i64 (fx N u.l), .bool false, .slice none 0 0, .slice none 0 0].toArray 78)) := Bel
        have kY : Blk ((A.alloc (.cells [.int .u64 0, .int .u64 0, .int .u64 0, .int .u64 0, .int .u64 0, .int .u64 0, .int .i64 0, .bool false, .slice none 0 0, .slice none 0 0].toArray 78)).putObj A.heap.size (.cells [.int .u64 (u.id.1 : Int), .int .u64 (u.id.2 : Int), .int .u64 (u.l.1 : Int), .int .u64 (u.l.2 : Int), .int .u64 (u.r.1 : Int), .int .u64 (u.r.2 : Int), .int .i64 (fx N u.l), .bool false, .slice none 0 0, .slice none 0 0].toArray 78)) A.heap.size [.int .u64 (u.id.1 : Int), .int .u64 (u.id.2 : Int), .int .u64 (u.l.1 : Int), .int .u64 (u.l.2 : Int), .int .u64 (u.r.1 : Int), .int .u64 (u.r.2 : Int), .int .i64 (fx N u.l), .bool false, .slice none 0 0, .slice none 0 0] 78 := (by (repeat (first | assumption | (apply Blk.below (hb := hb1); rotate_left; (focus ((try simp only [Sx.sizes]); omega)); rotate_right) | (apply Blk.below (hb := hb2); rotate_left; (focus ((try simp only [Sx.sizes]); omega)); rotate_right) | (apply Blk.below (hb := hb3); rotate_left; (focus ((try simp only [Sx.sizes]); omega)); rotate_right) | (apply Blk.below (hb := hb4); rotate_left; (focus ((try simp only [Sx.sizes]); omega)); rotate_right) | (apply Blk.below (hb := hb5); rotate_left; (focus ((try simp only [Sx.sizes]); omega)); rotate_right) | (apply Blk.below (hb := hb6); rotate_left; (focus ((try simp only [Sx.sizes]); omega)); rotate_right) | (apply Blk.below (hb := hb7); rotate_left; (focus ((try simp only [Sx.sizes]); omega)); rotate_right) | (apply Blk.below (hb := hb8); rotate_left; (focus ((try simp only [Sx.sizes]); omega)); rotate_right) | (apply Blk.below (hb := hb9); rotate_left; (focus ((try simp only [Sx.sizes]); omega)); rotate_right) | exact Blk.newE (by first | rfl | ((try simp only [Sx.sizes]); first | done | omega)) _ _ | exact Blk.put_same (by (try simp only [Sx.sizes]); first | done | omega) _ _ | (apply Blk.put_ne; (focus omega)) | apply Blk.alloc | apply Blk.drew)); done)
        apply W_seq
        refine W_cut2 (α := Unit) (fun _ => [(0, .pointer (some ⟨p, 0, none⟩)), (3, .pointer (some ⟨w.heap.size, 0, none⟩)), (6, .int .i64 (fx N u.l)), (7, .int .i64 (fx N u.r)), (8, .pointer (some ⟨A.heap.size, 0, none⟩))]) (fun _ A' => Below A.heap.size A A' ∧ Blk A' A.heap.size [.int .u64 (u.id.1 : Int), .int .u64 (u.id.2 : Int), .int .u64 (u.l.1 : Int), .int .u64 (u.l.2 : Int), .int .u64 (u.r.1 : Int), .int .u64 (u.r.2 : Int), .int .i64 (px N V.par), .bool V.left, .slice none 0 0, .slice none 0 0] 78) ?_ ?_
        · (refine Ga ?_)
          generalize (A.alloc (.cells [.int .u64 0, .int .u64 0, .int .u64 0, .int .u64 0, .int .u64 0, .int .u64 0, .int .i64 0, .bool false, .slice none 0 0, .slice none 0 0].toArray 78)).putObj A.heap.size (.cells [.int .u64 (u.id.1 : Int), .int .u64 (u.id.2 : Int), .int .u64 (u.l.1 : Int), .int .u64 (u.l.2 : Int), .int .u64 (u.r.1 : Int), .int .u64 (u.r.2 : Int), .int .i64 (fx N u.l), .bool false, .slice none 0 0, .slice none 0 0].toArray 78) = Y at *
          by_cases hrN : u.r ∈ N
          · have fr : fx N u.r = (N.idxOf u.r : Int) := if_pos hrN
            have hlr := List.idxOf_lt_length_iff.2 hrN
            obtain ⟨hch, hpar⟩ := hP.hrc ((hN _).1 hrN)
            have hY := hA.below bY hA.lt
            have kY3 := kA.below bY kA.lt
            have zY := zA.below bY zA.lt
            have lY := kY.lt
            have lY3 := kY3.lt
            have lzY := zY.lt
            rw [fr]
            (refine Ga ?_)
            apply Lst_pu
            · apply P_eqA
              focus rfl
              focus rfl
              focus kernel_rfl
              focus exact id_eq u.l (0, 0)
              focus rfl
            focus rfl
            obtain ⟨W0, hW0e⟩ : ∃ W0, Y.putObj A.heap.size (.cells [.int .u64 (u.id.1 : Int), .int .u64 (u.id.2 : Int), .int .u64 (u.l.1 : Int), .int .u64 (u.l.2 : Int), .int .u64 (u.r.1 : Int), .int .u64 (u.r.2 : Int), .int .i64 (fx N u.l), .bool (decide (u.l = (0, 0))), .slice none 0 0, .slice none 0 0].toArray 78) = W0 := ⟨_, rfl⟩
            have b0 : Below A.heap.size A W0 := by rw [← hW0e]; exact Bel
            have k0 : Blk W0 A.heap.size [.int .u64 (u.id.1 : Int), .int .u64 (u.id.2 : Int), .int .u64 (u.l.1 : Int), .int .u64 (u.l.2 : Int), .int .u64 (u.r.1 : Int), .int .u64 (u.r.2 : Int), .int .i64 (fx N u.l), .bool (decide (u.l = (0, 0))), .slice none 0 0, .slice none 0 0] 78 := by rw [← hW0e]; exact (by (repeat (first | assumption | (apply Blk.below (hb := hb1); rotate_left; (focus ((try simp only [Sx.sizes]); omega)); rotate_right) | (apply Blk.below (hb := hb2); rotate_left; (focus ((try simp only [Sx.sizes]); omega)); rotate_right) | (apply Blk.below (hb := hb3); rotate_left; (focus ((try simp only [Sx.sizes]); omega)); rotate_right) | (apply Blk.below (hb := hb4); rotate_left; (focus ((try simp only [Sx.sizes]); omega)); rotate_right) | (apply Blk.below (hb := hb5); rotate_left; (focus ((try simp only [Sx.sizes]); omega)); rotate_right) | (apply Blk.below (hb := hb6); rotate_left; (focus ((try simp only [Sx.sizes]); omega)); rotate_right) | (apply Blk.below (hb := hb7); rotate_left; (focus ((try simp only [Sx.sizes]); omega)); rotate_right) | (apply Blk.below (hb := hb8); rotate_left; (focus ((try simp only [Sx.sizes]); omega)); rotate_right) | (apply Blk.below (hb := hb9); rotate_left; (focus ((try simp only [Sx.sizes]); omega)); rotate_right) | exact Blk.newE (by first | rfl | ((try simp only [Sx.sizes]); first | done | omega)) _ _ | exact Blk.put_same (by (try simp only [Sx.sizes]); first | done | omega) _ _ | (apply Blk.put_ne; (focus omega)) | apply Blk.alloc | apply Blk.drew)); done)
            (refine Ga ?_)
            rw [hW0e]
            clear hW0e kY zY kY3 hY bY
            obtain ⟨a, c0, a1, c1, a2, c2, hSA, _, _, _, _, hnode⟩ := hA.view
            have ltpA := hSA.lt
            have hS := hSA.below b0 ltpA
            have ltp := hS.lt
            obtain ⟨g, nb, nb1, nd1, nb2, nd2, rfl, hcell, _⟩ := hnode u.r hrN
            have hc6 := hcell 6 _ rfl
            rw [hpar] at hc6
            clear hcell
            (refine Ga ?_)
            apply Lst_pu
            · apply P_idxn (j := N.idxOf u.r)
              focus rfl
              focus rfl
              focus rfl
              focus rfl
              focus rfl
              focus exact hlr
            focus rfl
            (refine Ga ?_)
            apply Lst_loadc
            focus rfl
            focus rfl
            focus rfl
            focus exact cell_below b0 hc6
            focus rfl
            (refine Ga ?_)
            refine W_loop (α := List Id × Bool) (fun x => [(0, .pointer (some ⟨p, 0, none⟩)), (3, .pointer (some ⟨w.heap.size, 0, none⟩)), (6, .int .i64 (fx N u.l)), (7, .int .i64 (N.idxOf u.r : Int)), (8, .pointer (some ⟨A.heap.size, 0, none⟩)), (9, .int .i64 (px N x.1.head?))])
              (fun x A' => ChainL ρ t.ids x.1 ∧ (x.2 || decide (u.l ∈ x.1)) = (decide (u.l = (0, 0)) || decide (u.l ∈ rc)) ∧ Below A.heap.size A A' ∧ Blk A' A.heap.size [.int .u64 (u.id.1 : Int), .int .u64 (u.id.2 : Int), .int .u64 (u.l.1 : Int), .int .u64 (u.l.2 : Int), .int .u64 (u.r.1 : Int), .int .u64 (u.r.2 : Int), .int .i64 (fx N u.l), .bool x.2, .slice none 0 0, .slice none 0 0] 78) (fun x _ => x.1.length) (rc, decide (u.l = (0, 0))) ⟨hch, rfl, b0, k0⟩ ⟨rfl, rfl, rfl, rfl, rfl, rfl, trivial⟩ ?_
            clear hS hc6 b0 k0 ltp lY lY3 lzY
            rintro J ⟨ls, b⟩ A' ⟨hcl, hbe, hb0, hk0⟩
            dsimp only at hcl hbe hk0 ⊢
            have hS := hSA.below hb0 ltpA
            have ltp := hS.lt
            have ltk := hk0.lt
            have hpA : p ≠ A.heap.size := by omega
            cases ls with
            | nil =>
              have hb' : b = (decide (u.l = (0, 0)) || decide (u.l ∈ rc)) := by rw [← hbe]; simp
              have hpx : px N ([] : List Id).head? = -1 := rfl
              rw [hpx]
              cases b with
              | false =>
                have hb2 := hb'.symm
                simp only [Bool.or_eq_false_iff, decide_eq_false_iff_not] at hb2
                have hlN : u.l ∈ N := (hM.l.resolve_left hb2.1 |> (hN _).2)
                have hv : V.left = false := by
                  cases e : V.left with
                  | false => rfl
                  | true => exact absurd ((hVl e).2.1 hlN) hb2.2
                (refine Ga ?_)
                exact cutQ_n () ⟨hb0, by rw [hpf hv, hv]; exact hk0⟩ ⟨rfl, rfl, rfl, rfl, rfl, trivial⟩
              | true =>
                have hb2 := hb'.symm
                simp only [Bool.or_eq_true, decide_eq_true_eq] at hb2
                have hv : V.left = true := by
                  cases e : V.left with
                  | true => rfl
                  | false =>
                    obtain ⟨h1, h2⟩ := (hVr e).1 hrN
                    exact hb2.elim (fun h => absurd (by have h' : u.l = Fo.none' := h; rw [← h']; exact h1) hno) fun h => absurd h h2
                have hpx2 : px N V.par = (N.idxOf u.r : Int) := by rw [(hVl hv).2.2]; rfl
                (refine Ga ?_)
                exact cutQ_n () ⟨Bel, by rw [hpx2, hv]; exact (by (repeat (first | assumption | (apply Blk.below (hb := hb1); rotate_left; (focus ((try simp only [Sx.sizes]); omega)); rotate_right) | (apply Blk.below (hb := hb2); rotate_left; (focus ((try simp only [Sx.sizes]); omega)); rotate_right) | (apply Blk.below (hb := hb3); rotate_left; (focus ((try simp only [Sx.sizes]); omega)); rotate_right) | (apply Blk.below (hb := hb4); rotate_left; (focus ((try simp only [Sx.sizes]); omega)); rotate_right) | (apply Blk.below (hb := hb5); rotate_left; (focus ((try simp only [Sx.sizes]); omega)); rotate_right) | (apply Blk.below (hb := hb6); rotate_left; (focus ((try simp only [Sx.sizes]); omega)); rotate_right) | (apply Blk.below (hb := hb7); rotate_left; (focus ((try simp only [Sx.sizes]); omega)); rotate_right) | (apply Blk.below (hb := hb8); rotate_left; (focus ((try simp only [Sx.sizes]); omega)); rotate_right) | (apply Blk.below (hb := hb9); rotate_left; (focus ((try simp only [Sx.sizes]); omega)); rotate_right) | exact Blk.newE (by first | rfl | ((try simp only [Sx.sizes]); first | done | omega)) _ _ | exact Blk.put_same (by (try simp only [Sx.sizes]); first | done | omega) _ _ | (apply Blk.put_ne; (focus omega)) | apply Blk.alloc | apply Blk.drew)); done)⟩ ⟨rfl, rfl, rfl, rfl, rfl, trivial⟩
            | cons j ls =>
              have hj : px N (j :: ls).head? = (N.idxOf j : Int) := rfl
              have hjN : j ∈ N := (hN j).2 hcl.1
              have hlj := List.idxOf_lt_length_iff.2 hjN
              obtain ⟨g', nb, nb1, nd1, nb2, nd2, hge, hcell, _⟩ := hnode j hjN
              cases hge
              have hc6 := hcell 6 _ rfl
              rw [hcl.2.1] at hc6
              clear hcell
              rw [hj]
              cases b with
              | true =>
                have hk1 : ∀ q, q = A'.putObj A.heap.size (.cells [.int .u64 (u.id.1 : Int), .int .u64 (u.id.2 : Int), .int .u64 (u.l.1 : Int), .int .u64 (u.l.2 : Int), .int .u64 (u.r.1 : Int), .int .u64 (u.r.2 : Int), .int .i64 (fx N u.l), .bool true, .slice none 0 0, .slice none 0 0].toArray 78) → Below A.heap.size A q ∧ Blk q A.heap.size [.int .u64 (u.id.1 : Int), .int .u64 (u.id.2 : Int), .int .u64 (u.l.1 : Int), .int .u64 (u.l.2 : Int), .int .u64 (u.r.1 : Int), .int .u64 (u.r.2 : Int), .int .i64 (fx N u.l), .bool true, .slice none 0 0, .slice none 0 0] 78 := fun q e => by
                  subst e
                  exact ⟨Bel, (by (repeat (first | assumption | (apply Blk.below (hb := hb1); rotate_left; (focus ((try simp only [Sx.sizes]); omega)); rotate_right) | (apply Blk.below (hb := hb2); rotate_left; (focus ((try simp only [Sx.sizes]); omega)); rotate_right) | (apply Blk.below (hb := hb3); rotate_left; (focus ((try simp only [Sx.sizes]); omega)); rotate_right) | (apply Blk.below (hb := hb4); rotate_left; (focus ((try simp only [Sx.sizes]); omega)); rotate_right) | (apply Blk.below (hb := hb5); rotate_left; (focus ((try simp only [Sx.sizes]); omega)); rotate_right) | (apply Blk.below (hb := hb6); rotate_left; (focus ((try simp only [Sx.sizes]); omega)); rotate_right) | (apply Blk.below (hb := hb7); rotate_left; (focus ((try simp only [Sx.sizes]); omega)); rotate_right) | (apply Blk.below (hb := hb8); rotate_left; (focus ((try simp only [Sx.sizes]); omega)); rotate_right) | (apply Blk.below (hb := hb9); rotate_left; (focus ((try simp only [Sx.sizes]); omega)); rotate_right) | exact Blk.newE (by first | rfl | ((try simp only [Sx.sizes]); first | done | omega)) _ _ | exact Blk.put_same (by (try simp only [Sx.sizes]); first | done | omega) _ _ | (apply Blk.put_ne; (focus omega)) | apply Blk.alloc | apply Blk.drew)); done)⟩
                obtain ⟨hb1, hk2⟩ := hk1 _ rfl
                clear hk1
                (refine Ga ?_)
                apply Lst_pu
                · apply P_idxn (j := N.idxOf j)
                  focus rfl
                  focus rfl
                  focus rfl
                  focus rfl
                  focus rfl
                  focus exact hlj
                focus rfl
                (refine Ga ?_)
                apply Lst_loadc
                focus rfl
                focus rfl
                focus rfl
                focus exact cell_below hb1 hc6
                focus rfl
                (refine Ga ?_)
                refine rndQ_n (α := List Id × Bool) (ls, true) ⟨hcl.2.2, ?_, hb1, hk2⟩ ⟨rfl, rfl, rfl, rfl, rfl, rfl, trivial⟩ (by dsimp only [List.length_cons]; omega)
                rw [← hbe]
                simp
              | false =>
                by_cases hjl : u.l = j
                · have fl : fx N u.l = (N.idxOf j : Int) := by rw [hjl]; exact if_pos hjN
                  rw [fl] at hk0 ⊢
                  have hk1 : ∀ q, q = A'.putObj A.heap.size (.cells [.int .u64 (u.id.1 : Int), .int .u64 (u.id.2 : Int), .int .u64 (u.l.1 : Int), .int .u64 (u.l.2 : Int), .int .u64 (u.r.1 : Int), .int .u64 (u.r.2 : Int), .int .i64 ((N.idxOf j : Int)), .bool true, .slice none 0 0, .slice none 0 0].toArray 78) → Below A.heap.size A q ∧ Blk q A.heap.size [.int .u64 (u.id.1 : Int), .int .u64 (u.id.2 : Int), .int .u64 (u.l.1 : Int), .int .u64 (u.l.2 : Int), .int .u64 (u.r.1 : Int), .int .u64 (u.r.2 : Int), .int .i64 ((N.idxOf j : Int)), .bool true, .slice none 0 0, .slice none 0 0] 78 := fun q e => by
                    subst e
                    exact ⟨Bel, (by (repeat (first | assumption | (apply Blk.below (hb := hb1); rotate_left; (focus ((try simp only [Sx.sizes]); omega)); rotate_right) | (apply Blk.below (hb := hb2); rotate_left; (focus ((try simp only [Sx.sizes]); omega)); rotate_right) | (apply Blk.below (hb := hb3); rotate_left; (focus ((try simp only [Sx.sizes]); omega)); rotate_right) | (apply Blk.below (hb := hb4); rotate_left; (focus ((try simp only [Sx.sizes]); omega)); rotate_right) | (apply Blk.below (hb := hb5); rotate_left; (focus ((try simp only [Sx.sizes]); omega)); rotate_right) | (apply Blk.below (hb := hb6); rotate_left; (focus ((try simp only [Sx.sizes]); omega)); rotate_right) | (apply Blk.below (hb := hb7); rotate_left; (focus ((try simp only [Sx.sizes]); omega)); rotate_right) | (apply Blk.below (hb := hb8); rotate_left; (focus ((try simp only [Sx.sizes]); omega)); rotate_right) | (apply Blk.below (hb := hb9); rotate_left; (focus ((try simp only [Sx.sizes]); omega)); rotate_right) | exact Blk.newE (by first | rfl | ((try simp only [Sx.sizes]); first | done | omega)) _ _ | exact Blk.put_same (by (try simp only [Sx.sizes]); first | done | omega) _ _ | (apply Blk.put_ne; (focus omega)) | apply Blk.alloc | apply Blk.drew)); done)⟩
                  obtain ⟨hb1, hk2⟩ := hk1 _ rfl
                  clear hk1
                  (refine Ga ?_)
                  apply Lst_pu
                  · apply P_idxn (j := N.idxOf j)
                    focus rfl
                    focus rfl
                    focus rfl
                    focus rfl
                    focus rfl
                    focus exact hlj
                  focus rfl
                  (refine Ga ?_)
                  apply Lst_loadc
                  focus rfl
                  focus rfl
                  focus rfl
                  focus exact cell_below hb1 hc6
                  focus rfl
                  (refine Ga ?_)
                  refine rndQ_n (α := List Id × Bool) (ls, true) ⟨hcl.2.2, ?_, hb1, hk2⟩ ⟨rfl, rfl, rfl, rfl, rfl, rfl, trivial⟩ (by dsimp only [List.length_cons]; omega)
                  rw [← hbe, hjl]
                  simp
                · have fl : fx N u.l ≠ (N.idxOf j : Int) := fun e => by
                    by_cases hl : u.l ∈ N
                    · exact hjl (ix_inj hl hjN ((if_pos hl).symm.trans e))
                    · have : fx N u.l = -1 := if_neg hl
                      omega
                  have fl' : (N.idxOf j : Int) ≠ fx N u.l := fun e => fl e.symm
                  have hk1 : ∀ q, q = A'.putObj A.heap.size (.cells [.int .u64 (u.id.1 : Int), .int .u64 (u.id.2 : Int), .int .u64 (u.l.1 : Int), .int .u64 (u.l.2 : Int), .int .u64 (u.r.1 : Int), .int .u64 (u.r.2 : Int), .int .i64 (fx N u.l), .bool false, .slice none 0 0, .slice none 0 0].toArray 78) → Below A.heap.size A q ∧ Blk q A.heap.size [.int .u64 (u.id.1 : Int), .int .u64 (u.id.2 : Int), .int .u64 (u.l.1 : Int), .int .u64 (u.l.2 : Int), .int .u64 (u.r.1 : Int), .int .u64 (u.r.2 : Int), .int .i64 (fx N u.l), .bool false, .slice none 0 0, .slice none 0 0] 78 := fun q e => by
                    subst e
                    exact ⟨Bel, (by (repeat (first | assumption | (apply Blk.below (hb := hb1); rotate_left; (focus ((try simp only [Sx.sizes]); omega)); rotate_right) | (apply Blk.below (hb := hb2); rotate_left; (focus ((try simp only [Sx.sizes]); omega)); rotate_right) | (apply Blk.below (hb := hb3); rotate_left; (focus ((try simp only [Sx.sizes]); omega)); rotate_right) | (apply Blk.below (hb := hb4); rotate_left; (focus ((try simp only [Sx.sizes]); omega)); rotate_right) | (apply Blk.below (hb := hb5); rotate_left; (focus ((try simp only [Sx.sizes]); omega)); rotate_right) | (apply Blk.below (hb := hb6); rotate_left; (focus ((try simp only [Sx.sizes]); omega)); rotate_right) | (apply Blk.below (hb := hb7); rotate_left; (focus ((try simp only [Sx.sizes]); omega)); rotate_right) | (apply Blk.below (hb := hb8); rotate_left; (focus ((try simp only [Sx.sizes]); omega)); rotate_right) | (apply Blk.below (hb := hb9); rotate_left; (focus ((try simp only [Sx.sizes]); omega)); rotate_right) | exact Blk.newE (by first | rfl | ((try simp only [Sx.sizes]); first | done | omega)) _ _ | exact Blk.put_same (by (try simp only [Sx.sizes]); first | done | omega) _ _ | (apply Blk.put_ne; (focus omega)) | apply Blk.alloc | apply Blk.drew)); done)⟩
                  obtain ⟨hb1, hk2⟩ := hk1 _ rfl
                  clear hk1
                  (refine Ga ?_)
                  apply Lst_pu
                  · apply P_idxn (j := N.idxOf j)
                    focus rfl
                    focus rfl
                    focus rfl
                    focus rfl
                    focus rfl
                    focus exact hlj
                  focus rfl
                  (refine Ga ?_)
                  apply Lst_loadc
                  focus rfl
                  focus rfl
                  focus rfl
                  focus exact cell_below hb1 hc6
                  focus rfl
                  (refine Ga ?_)
                  refine rndQ_n (α := List Id × Bool) (ls, false) ⟨hcl.2.2, ?_, hb1, hk2⟩ ⟨rfl, rfl, rfl, rfl, rfl, rfl, trivial⟩ (by dsimp only [List.length_cons]; omega)
                  rw [← hbe]
                  simp [hjl]
          · have fr : fx N u.r = -1 := if_neg hrN
            have hv : V.left = false := by
              cases e : V.left with
              | false => rfl
              | true => exact absurd (hVl e).1 hrN
            rw [fr]
            (refine Ga ?_)
            rw [← fr]
            exact cutQ_n () ⟨bY, by rw [hpf hv, hv]; exact kY⟩ ⟨rfl, rfl, rfl, rfl, rfl, trivial⟩
        · rintro J _ B0 ⟨hbB, kB8⟩
          have hB := hA.below hbB hA.lt
          have kB := kA.below hbB lA
          have bB := bA.trans (hbB.mono bA.size)
          have sB := hbB.size
          have l8 := kB8.lt
          have lkB := kB.lt
          obtain ⟨vl, vm, vo, cs, hE⟩ := hB.ex
          obtain ⟨hS, hown, hvb, hcs, hc10, hLm, hLo, _⟩ := id hE
          obtain ⟨a, cp, rfl, hcp⟩ := own_form hown
          obtain ⟨a1, c1, rfl, hc1⟩ := hLm.cap
          obtain ⟨a2, c2, rfl, hc2⟩ := hLo.cap
          have ltp := hS.lt
          (refine Ga ?_)
          refine W_drawT 14 (fun A' => Grown B0 A') rfl rfl ?_
          refine T_takeV 0 11 13 rfl (by kernel_rfl) (by repeat (first | exact retQ_p | apply seqQ_p | apply blkQ_p | apply rndQ_p | apply cutQ_p)) (grown_start B0) ?_
          (refine Qb ?_)
          refine T_takeV 1 2 12 rfl (by kernel_rfl) (by repeat (first | exact retQ_p | apply seqQ_p | apply blkQ_p | apply rndQ_p | apply cutQ_p)) (grown_start B0) ?_
          (refine Qb ?_)
          refine T_takeV 2 3 11 rfl (by kernel_rfl) (by repeat (first | exact retQ_p | apply seqQ_p | apply blkQ_p | apply rndQ_p | apply cutQ_p)) (grown_start B0) ?_
          (refine Qb ?_)
          refine T_takeV 3 4 10 rfl (by kernel_rfl) (by repeat (first | exact retQ_p | apply seqQ_p | apply blkQ_p | apply rndQ_p | apply cutQ_p)) (grown_start B0) ?_
          (refine Qb ?_)
          refine T_takeV 4 7 9 rfl (by kernel_rfl) (by repeat (first | exact retQ_p | apply seqQ_p | apply blkQ_p | apply rndQ_p | apply cutQ_p)) (grown_start B0) ?_
          (refine Qb ?_)
          refine T_takeV 5 7 8 rfl (by kernel_rfl) (by repeat (first | exact retQ_p | apply seqQ_p | apply blkQ_p | apply rndQ_p | apply cutQ_p)) (grown_start B0) ?_
          (refine Qb ?_)
          refine T_takeV 6 7 7 rfl (by kernel_rfl) (by repeat (first | exact retQ_p | apply seqQ_p | apply blkQ_p | apply rndQ_p | apply cutQ_p)) (grown_start B0) ?_
          (refine Qb ?_)
          refine T_takeV 7 10 6 rfl (by kernel_rfl) (by repeat (first | exact retQ_p | apply seqQ_p | apply blkQ_p | apply rndQ_p | apply cutQ_p)) (grown_start B0) ?_
          apply Qst_pu
          · apply P_lslice3 (m := N.length)
            focus rfl
            focus rfl
            focus rfl
            focus rfl
            focus rfl
            focus rfl
            focus exact hcp
          focus rfl
          (refine Qb ?_)
          refine T_takeV 8 9 5 rfl (by kernel_rfl) (by repeat (first | exact retQ_p | apply seqQ_p | apply blkQ_p | apply rndQ_p | apply cutQ_p)) (grown_start B0) ?_
          (refine Qb ?_)
          have hbL : Below B0.heap.size B0 (B0.drew.alloc (.cells [.int .u64 (u.id.1 : Int), .int .u64 (u.id.2 : Int), .int .u64 (u.l.1 : Int), .int .u64 (u.l.2 : Int), .int .u64 (u.r.1 : Int), .int .u64 (u.r.2 : Int), .int .i64 (px N V.par), .bool V.left, .slice none 0 0, .slice none 0 0].toArray 78)) := Bel
          refine T_any [9] 4 rfl (by kernel_rfl) (all1 ?_)
          (apply Lst_lit1; (focus constructor); (focus rfl); (focus rfl); (focus rfl); (focus rfl); (focus rfl); (focus rfl); (focus rfl); (focus rfl); (focus ((try simp only [Sx.sizes]); first | done | rfl)); (focus rfl))
          apply Lst_nil
          apply rnQ_n
          refine ⟨hbL, ?_⟩
          have kL : Blk (B0.drew.alloc (.cells [.int .u64 (u.id.1 : Int), .int .u64 (u.id.2 : Int), .int .u64 (u.l.1 : Int), .int .u64 (u.l.2 : Int), .int .u64 (u.r.1 : Int), .int .u64 (u.r.2 : Int), .int .i64 (px N V.par), .bool V.left, .slice none 0 0, .slice none 0 0].toArray 78)) B0.heap.size [.int .u64 (u.id.1 : Int), .int .u64 (u.id.2 : Int), .int .u64 (u.l.1 : Int), .int .u64 (u.l.2 : Int), .int .u64 (u.r.1 : Int), .int .u64 (u.r.2 : Int), .int .i64 (px N V.par), .bool V.left, .slice none 0 0, .slice none 0 0] 78 := (by (repeat (first | assumption | (apply Blk.below (hb := hb1); rotate_left; (focus ((try simp only [Sx.sizes]); omega)); rotate_right) | (apply Blk.below (hb := hb2); rotate_left; (focus ((try simp only [Sx.sizes]); omega)); rotate_right) | (apply Blk.below (hb := hb3); rotate_left; (focus ((try simp only [Sx.sizes]); omega)); rotate_right) | (apply Blk.below (hb := hb4); rotate_left; (focus ((try simp only [Sx.sizes]); omega)); rotate_right) | (apply Blk.below (hb := hb5); rotate_left; (focus ((try simp only [Sx.sizes]); omega)); rotate_right) | (apply Blk.below (hb := hb6); rotate_left; (focus ((try simp only [Sx.sizes]); omega)); rotate_right) | (apply Blk.below (hb := hb7); rotate_left; (focus ((try simp only [Sx.sizes]); omega)); rotate_right) | (apply Blk.below (hb := hb8); rotate_left; (focus ((try simp only [Sx.sizes]); omega)); rotate_right) | (apply Blk.below (hb := hb9); rotate_left; (focus ((try simp only [Sx.sizes]); omega)); rotate_right) | exact Blk.newE (by first | rfl | ((try simp only [Sx.sizes]); first | done | omega)) _ _ | exact Blk.put_same (by (try simp only [Sx.sizes]); first | done | omega) _ _ | (apply Blk.put_ne; (focus omega)) | apply Blk.alloc | apply Blk.drew)); done)
          have hownL := own_below hown hbL (Nat.le_refl _)
          have hSL := hS.below hbL ltp
          generalize B0.drew.alloc (.cells [.int .u64 (u.id.1 : Int), .int .u64 (u.id.2 : Int), .int .u64 (u.l.1 : Int), .int .u64 (u.l.2 : Int), .int .u64 (u.r.1 : Int), .int .u64 (u.r.2 : Int), .int .i64 (px N V.par), .bool V.left, .slice none 0 0, .slice none 0 0].toArray 78) = L0 at *
          refine T_any [10] 3 rfl (by kernel_rfl) (all1 ?_)
          apply Lst_appendFull (a := a) (nn := N.length) (xs := cs.flatten) (news := [.int .u64 (u.id.1 : Int), .int .u64 (u.id.2 : Int), .int .u64 (u.l.1 : Int), .int .u64 (u.l.2 : Int), .int .u64 (u.r.1 : Int), .int .u64 (u.r.2 : Int), .int .i64 (px N V.par), .bool V.left, .slice none 0 0, .slice none 0 0]) (m := 1) (bytes := 112)
          focus rfl
          focus rfl
          focus rfl
          focus rfl
          focus rfl
          focus rfl
          focus rfl
          focus rfl
          focus rfl
          focus exact own_full hownL
          focus exact hownL.1
          focus exact fun j v hv => by rw [add_none, kL.cell, Nat.zero_add]; exact hv
          focus rfl
          focus omega
          focus omega
          focus omega
          focus rfl
          intro v1 w5 ho5 hb5
          have b5 : Below B0.heap.size B0 w5 := hbL.trans (hb5.mono hbL.size)
          obtain ⟨y1, y2, y3, rfl⟩ := own_slice ho5
          apply Lst_nil
          apply rnQ_n
          refine ⟨b5, ?_⟩
          refine T_takeV 11 12 2 rfl (by kernel_rfl) (by repeat (first | exact retQ_p | apply seqQ_p | apply blkQ_p | apply rndQ_p | apply cutQ_p)) b5 ?_
          (refine Qb ?_)
          refine T_takeV 12 13 1 rfl (by kernel_rfl) (by repeat (first | exact retQ_p | apply seqQ_p | apply blkQ_p | apply rndQ_p | apply cutQ_p)) b5 ?_
          (refine Qb ?_)
          have hS5 := hS.below b5 ltp
          have ltp5 := hS5.lt
          refine T_last 13 (by kernel_rfl) ?_
          (refine Ga ?_)
          apply rnQ_n
          have hpw : p < w.heap.size := h.lt p h.own
          obtain ⟨C0, hC0⟩ : ∃ C0, w5.putObj p (.cells [.slice y1 y2 y3, .slice a1 (t.tips.map (ix N)).length c1, .slice a2 (t.ids.map (ix N)).length c2].toArray 69) = C0 := ⟨_, rfl⟩
          have sC : C0.heap.size = w5.heap.size := by rw [← hC0, World.putObj_size]
          have sw5 : B0.heap.size ≤ w5.heap.size := b5.size
          have sL : B0.heap.size ≤ L0.heap.size := hbL.size
          have swB : w.heap.size + 2 ≤ B0.heap.size := Nat.le_trans sA sB
          have oC : OnlyB w.heap.size p w C0 := by
            rw [← hC0]
            exact ((OnlyB.of bB (Nat.le_refl _)).trans (OnlyB.of b5 (by omega))).trans (OnlyB.put _ (.inl rfl))
          have kC : Blk C0 w.heap.size (ucs u) 52 := by
            rw [← hC0]
            exact Blk.put_ne (by omega) (kB.below b5 lkB)
          have k8C : Blk C0 A.heap.size [.int .u64 (u.id.1 : Int), .int .u64 (u.id.2 : Int), .int .u64 (u.l.1 : Int), .int .u64 (u.l.2 : Int), .int .u64 (u.r.1 : Int), .int .u64 (u.r.2 : Int), .int .i64 (px N V.par), .bool V.left, .slice none 0 0, .slice none 0 0] 78 := by
            rw [← hC0]
            exact Blk.put_ne (by omega) (kB8.below b5 l8)
          have hclN : Clo t.ids t.tips N N ρ := by
            obtain ⟨q1, q2, _, q4, q5, q6⟩ := fits_clo hg.nd hF
            exact ⟨fun j hj => ho j hj, fun j hj => ho j (q2 j hj), fun j hj => hj, fun k hk j hj => ho j (q4 k ((hN k).1 hk) j hj), fun k hk j hj => ho j (q5 k ((hN k).1 hk) j hj), fun k hk j hj => ho j (q6 k ((hN k).1 hk) j hj)⟩
          have hE1 : RfEx C0 p (FX F w C0) (N ++ [u.id]) (fset ρ u.id ⟨u, V.par, [], [], 1⟩) t.tips t.ids (.slice y1 y2 y3) (.slice a1 (t.tips.map (ix N)).length c1) (.slice a2 (t.ids.map (ix N)).length c2) (cs ++ [rcs N ⟨u, V.par, [], [], 1⟩ V.left (.slice none 0 0) (.slice none 0 0)]) := by
            refine hE.add hclN hnew rfl rfl (fun j hj => ?_) (by rw [← hC0]; exact Blk.put_same ltp5 _ _) ?_ (fun g hgo => ?_) (by omega) (fun g hg' => .inl hg') (fun g hg' hne => ?_)
            · cases e : V.left with
              | true =>
                obtain ⟨q1, _, q3⟩ := hVl e
                have hj' : V.par = some j := hj
                rw [q3] at hj'
                cases hj'
                exact q1
              | false =>
                have hj' : V.par = some j := hj
                rw [(hVr e).2] at hj'
                unfold parOf at hj'
                split at hj'
                · rename_i hm
                  cases hj'
                  exact (hN _).2 hm
                · cases hj'
            · rw [← hC0]
              exact own_low (own_put ho5 (by omega) _) (Nat.zero_le _)
            · have q1 := (ho5.lt g hgo).1
              have q2 := own_ltg ho5 hgo
              exact ⟨.inr ⟨by omega, by omega⟩, by omega, fun hf => by have := h.lt g hf; omega⟩
            · have := h.lt g hg'
              rw [← hC0, World.putObj_heap_other hne]
              exact b5.block g (by omega)
          have hgw : ∀ g, (Value.slice y1 y2 y3).ownBlock = some g → w.heap.size ≤ g := fun g hgo => by have := (ho5.lt g hgo).1; omega
          rw [hC0]
          have sCw : w.heap.size ≤ C0.heap.size := by omega
          have bAC : A.heap.size < C0.heap.size := by omega
          clear hC0 ho5 hb5 b5 hownL hSL kL hbL hE hS hown hvb hcs hc10 hLm hLo hc1 hc2 hcp ltp kB8 kB l8 lkB hbB hB bB sB sL sw5 swB hS5 ltp5 kA zA lA lzA hA bY kY bA sA sC
          apply seqQ_n
          apply W_seq
          apply W_block
          refine W_cutB (α := Unit) (fun _ => [(0, .pointer (some ⟨p, 0, none⟩))]) (fun _ D => OnlyB w.heap.size p w D ∧ RfAt D p (FX F w D) (N ++ [u.id]) (laid (fset ρ u.id (newRec u)) t.tips u.id V) (Fo.put t u).tips t.ids) ?_ ?_
          · have hn1 : (N ++ [u.id]).Nodup := List.nodup_append.2 ⟨hn, List.pairwise_singleton .., fun q hq q' hq' e => hnew (by rw [← List.mem_singleton.1 hq', ← e]; exact hq)⟩
            have hC : RfAt C0 p (FX F w C0) (N ++ [u.id]) (fset ρ u.id ⟨u, V.par, [], [], 1⟩) t.tips t.ids := by
              refine ⟨fun g hg' => ?_, .inl h.own, _, _, _, _, hE1⟩
              rcases hg' with hg' | hg'
              · have := h.lt g hg'
                omega
              · exact hg'.2
            have hu1 : ∀ j ∈ N ++ [u.id], (fset ρ u.id ⟨u, V.par, [], [], 1⟩ j).u.id = j := fun j hj => by
              by_cases e : j = u.id
              · subst e
                rw [fset_same]
              · rw [fset_ne e]
                rcases List.mem_append.1 hj with hj | hj
                · exact hu j hj
                · exact absurd (List.mem_singleton.1 hj) e
            have in1 : ∀ {j : Id}, j ∈ N → j ∈ N ++ [u.id] := fun {j} hj => List.mem_append_left _ hj
            have hl1 : (N ++ [u.id]).length ≤ 1000000000 := by rw [List.length_append, hlen]; show t.sz + 1 ≤ _; omega
            have hxN1 : u.id ∈ N ++ [u.id] := List.mem_append_right _ (List.mem_singleton.2 rfl)
            have hme : (N.length : Int) = ix (N ++ [u.id]) u.id := (ix_new hnew).symm
            obtain ⟨a, c, a1', c1', a2', c2', hS, hc, hc1', hIm, _, hnode⟩ := hC.view
            have hSe := Blk.uniq hE1.1 hS
            simp only [List.cons.injEq, Value.slice.injEq, and_true] at hSe
            obtain ⟨⟨rfl, rfl, rfl⟩, ⟨rfl, _, rfl⟩, rfl, _, rfl⟩ := hSe
            have ltp := hS.lt
            have lk8 := k8C.lt
            have lkC := kC.lt
            cases hv : V.left with
            | true =>
              rw [hv] at k8C
              obtain ⟨hrN, _, hpar⟩ := hVl hv
              have hrN1 := in1 hrN
              have hne : u.r ≠ u.id := fun e => hnew (e ▸ hrN)
              have hLO := hP.hW
              rw [if_pos hv] at hLO
              obtain ⟨⟨_, _, hkl, hk1', hk2'⟩, _⟩ := hLO
              have hLN : ∀ j ∈ (ρ u.r).L, j ∈ N := hclN.L u.r hrN
              obtain ⟨hk1, hk2⟩ := left_k (ls_at hg.ls hg.nd hF ((hN _).1 hrN)) (fun hm => hnew (hLN _ hm)) hk1' hk2' hkl
              have hLl : (ρ u.r).L.length ≤ 1000000000 := by have := (fits_sizes hg.nd hF hs).L _ ((hN _).1 hrN); omega
              have hf7 : fx N u.r = ((N ++ [u.id]).idxOf u.r : Int) := by
                unfold fx
                rw [if_pos hrN, ← ix_old (x := u.id) hrN]
                rfl
              have hlr := List.idxOf_lt_length_iff.2 hrN1
              obtain ⟨g, nb, b1, d1, b2, d2, rfl, hcell, hd1, hIL, hd2, hIR⟩ := hnode u.r hrN1
              rw [fset_ne hne] at hcell hIL hIR hd1
              have hc8 := hcell 8 _ rfl
              clear hcell
              rw [hf7]
              (refine Ga ?_)
              apply Lst_pu
              · apply P_idxn (j := (N ++ [u.id]).idxOf u.r)
                focus rfl
                focus rfl
                focus rfl
                focus rfl
                focus rfl
                focus exact hlr
              focus rfl
              (refine Ga ?_)
              refine W_cutB (α := Unit) (fun _ => [(0, .pointer (some ⟨p, 0, none⟩)), (3, .pointer (some ⟨w.heap.size, 0, none⟩)), (7, .int .i64 ((N ++ [u.id]).idxOf u.r : Int)), (10, .int .i64 (N.length : Int)), (11, .slice b1 (ρ u.r).L.length d1), (12, .int .i64 (V.k : Int))]) (fun _ Z => Grown C0 Z) ?_ ?_
              · refine W_loop (α := Nat) (fun i => [(0, .pointer (some ⟨p, 0, none⟩)), (3, .pointer (some ⟨w.heap.size, 0, none⟩)), (7, .int .i64 ((N ++ [u.id]).idxOf u.r : Int)), (10, .int .i64 (N.length : Int)), (11, .slice b1 (ρ u.r).L.length d1), (12, .int .i64 (i : Int))]) (fun i Z => i ≤ V.k ∧ Grown C0 Z) (fun i _ => V.k - i) 0 ⟨Nat.zero_le _, Below.refl _ _⟩ ⟨rfl, rfl, rfl, rfl, rfl, rfl, trivial⟩ ?_
                rintro J i Z ⟨hik, hbZ⟩
                have hSZ := hS.below hbZ ltp
                have kZ := kC.below hbZ lkC
                have ltZ := hSZ.lt
                have lkZ := kZ.lt
                unfold ucs at kZ
                by_cases hil : i < (ρ u.r).L.length
                · obtain ⟨g2, off, rfl, hci⟩ := hIL.at hil
                  rw [ix_map_at hil] at hci
                  have hxN := hLN _ (List.getElem_mem hil)
                  have h1i := hk1 i hil
                  have h2i := hk2 i hil
                  generalize (ρ u.r).L[i] = x at *
                  have hxN' := in1 hxN
                  have hlx := List.idxOf_lt_length_iff.2 hxN'
                  obtain ⟨g', nb', xb1, xd1, xb2, xd2, hge, hcellx, _⟩ := hnode x hxN'
                  cases hge
                  have hxu := hu1 x hxN'
                  have hcx := (rcs_sub hcellx).1
                  rw [hxu] at hcx
                  unfold ix at hci
                  clear hcellx hnode
                  (refine Ga ?_)
                  refine W_draws (Grown _) rfl (by kernel_rfl) (grown_start _) ?_
                  (refine Qb ?_)
                  apply Qst_loadc
                  focus rfl
                  focus rfl
                  focus rfl
                  focus exact fun A9 hA9 => cell_below (hbZ.trans (hA9.mono hbZ.size)) hci
                  focus rfl
                  (refine Qb ?_)
                  apply Qst_pu
                  · apply P_idxn (j := (N ++ [u.id]).idxOf x)
                    focus rfl
                    focus rfl
                    focus rfl
                    focus rfl
                    focus rfl
                    focus exact hlx
                  focus rfl
                  (refine Qb ?_)
                  apply Qst_loadS (cs := idcs x)
                  focus rfl
                  focus rfl
                  focus rfl
                  focus rfl
                  focus rfl
                  focus exact fun A9 hA9 => hcx A9 (hbZ.trans (hA9.mono hbZ.size))
                  focus rfl
                  (refine Qb ?_)
                  apply Qst_call (.bool (Fo.lt x u.id))
                  focus rfl
                  focus rfl
                  · intro A9 hb9
                    exact (r_Less x u.id A9).mono fun v w' h => ⟨h.1, Sx.Below.after hb9 h.2⟩
                  by_cases hik' : i = V.k
                  · rw [h2i hik']
                    subst hik'
                    (refine Qb ?_)
                    intro w8 hb8
                    (refine Ga ?_)
                    exact cutQ_n () (hbZ.trans (hb8.mono hbZ.size)) ⟨rfl, rfl, rfl, rfl, rfl, rfl, trivial⟩
                  · rw [h1i (by omega)]
                    (refine Qb ?_)
                    intro w8 hb8
                    (refine Ga ?_)
                    exact rndQ_n (α := Nat) (i + 1) ⟨by omega, hbZ.trans (hb8.mono hbZ.size)⟩ ⟨rfl, rfl, rfl, rfl, rfl, rfl, trivial⟩ (by omega)
                · obtain rfl : i = V.k := by omega
                  (refine Ga ?_)
                  refine W_draws (Grown _) rfl (by kernel_rfl) (grown_start _) ?_
                  (refine Qb ?_)
                  intro w8 hb8
                  (refine Ga ?_)
                  exact cutQ_n () (hbZ.trans (hb8.mono hbZ.size)) ⟨rfl, rfl, rfl, rfl, rfl, rfl, trivial⟩
              · intro J _ Z hbZ
                have hSZ := hS.below hbZ ltp
                have ltZ := hSZ.lt
                have hIZ := hIL.below hbZ (Nat.le_refl _)
                (refine Ga ?_)
                refine W_drawT 12 (fun A' => Grown Z A') rfl rfl ?_
                refine T_takeV 0 1 11 rfl (by kernel_rfl) (by repeat (first | exact retQ_p | apply seqQ_p | apply blkQ_p | apply rndQ_p | apply cutQ_p)) (grown_start Z) ?_
                (refine Qb ?_)
                refine T_takeV 1 2 10 rfl (by kernel_rfl) (by repeat (first | exact retQ_p | apply seqQ_p | apply blkQ_p | apply rndQ_p | apply cutQ_p)) (grown_start Z) ?_
                (refine Qb ?_)
                refine T_takeV 2 3 9 rfl (by kernel_rfl) (by repeat (first | exact retQ_p | apply seqQ_p | apply blkQ_p | apply rndQ_p | apply cutQ_p)) (grown_start Z) ?_
                (refine Qb ?_)
                refine T_takeV 3 9 8 rfl (by kernel_rfl) (by repeat (first | exact retQ_p | apply seqQ_p | apply blkQ_p | apply rndQ_p | apply cutQ_p)) (grown_start Z) ?_
                (refine Qb ?_)
                refine T_takeV 4 9 7 rfl (by kernel_rfl) (by repeat (first | exact retQ_p | apply seqQ_p | apply blkQ_p | apply rndQ_p | apply cutQ_p)) (grown_start Z) ?_
                (refine Qb ?_)
                refine T_takeV 5 8 6 rfl (by kernel_rfl) (by repeat (first | exact retQ_p | apply seqQ_p | apply blkQ_p | apply rndQ_p | apply cutQ_p)) (grown_start Z) ?_
                (refine Qb ?_)
                refine T_takeV 6 8 5 rfl (by kernel_rfl) (by repeat (first | exact retQ_p | apply seqQ_p | apply blkQ_p | apply rndQ_p | apply cutQ_p)) (grown_start Z) ?_
                (refine Qb ?_)
                refine T_takeV 7 8 4 rfl (by kernel_rfl) (by repeat (first | exact retQ_p | apply seqQ_p | apply blkQ_p | apply rndQ_p | apply cutQ_p)) (grown_start Z) ?_
                (refine Qb ?_)
                refine T_any [8] 3 rfl (by kernel_rfl) (all1 ?_)
                have hml : ((ρ u.r).L.map (ix (N ++ [u.id]))).length = (ρ u.r).L.length := List.length_map _
                have hw := c_within V.k (ix (N ++ [u.id]) u.id) b1 d1 ((ρ u.r).L.map (ix (N ++ [u.id]))) (by rw [hml]; exact hkl) (by rw [hml]; exact hd1) (by rw [hml]; exact hLl) Z.drew (by rw [hml]; exact hIZ)
                rw [hml, ← hme] at hw
                (apply Lst_call; (focus rfl); (focus rfl))
                refine hw.mono ?_
                rintro v w8 ⟨ho8, hb8⟩
                have b8 : Below C0.heap.size C0 w8 := hbZ.trans ((Below.after (grown_start Z) hb8).mono hbZ.size)
                have bZ8 : Grown Z w8 := Below.after (grown_start Z) hb8
                have ho8 : OwnZ Z.heap.size w8 v (((ρ u.r).L.take V.k ++ u.id :: (ρ u.r).L.drop V.k).map (ix (N ++ [u.id]))) := by
                  rw [List.map_append, List.map_cons, List.map_take, List.map_drop, ← hme]
                  exact ho8
                have sZ := hbZ.size
                obtain ⟨z1, z2, z3, rfl⟩ := own_slice ho8
                apply Lst_nil
                apply rnQ_n
                refine ⟨bZ8, ?_⟩
                refine T_takeV 9 10 2 rfl (by kernel_rfl) (by repeat (first | exact retQ_p | apply seqQ_p | apply blkQ_p | apply rndQ_p | apply cutQ_p)) bZ8 ?_
                apply Qst_pu
                · apply P_idxn (j := (N ++ [u.id]).idxOf u.r)
                  focus rfl
                  focus rfl
                  focus rfl
                  focus rfl
                  focus rfl
                  focus exact hlr
                focus rfl
                (refine Qb ?_)
                refine T_takeV 10 11 1 rfl (by kernel_rfl) (by repeat (first | exact retQ_p | apply seqQ_p | apply blkQ_p | apply rndQ_p | apply cutQ_p)) bZ8 ?_
                (refine Qb ?_)
                obtain ⟨g8, c8, ls, e8, hblk8, hkl8, hfin8⟩ := hE1.stored (left := true) (w8 := w8) hrN1 h.lt h.own hgw b8 ho8 sZ sCw
                injection e8 with q1 q2 q3
                cases q1
                rw [if_pos rfl] at hkl8 hfin8
                refine T_last 11 (by kernel_rfl) ?_
                apply Lst_storeN (hb := hblk8)
                focus rfl
                focus constructor
                focus rfl
                focus rfl
                focus rfl
                focus rfl
                focus exact hkl8
                obtain ⟨oD, hD⟩ := hfin8 _ rfl
                (refine Ga ?_)
                apply rnQ_n
                (refine Ga ?_)
                refine cutQ_n () ⟨oC.trans oD, ?_⟩ ⟨rfl, trivial⟩
                have ht := hP.tips
                rw [if_pos hv] at ht
                rw [← ht, laid_L hv hpar hne]
                rw [if_pos rfl, fset_ne hne] at hD
                exact hD
            | false =>
              rw [hv] at k8C
              have hRO := hP.hW
              rw [if_neg (by rw [hv]; simp)] at hRO
              obtain ⟨⟨_, hkl, hk1', hk2'⟩, hpar⟩ := hRO
              have horg : ∀ j ∈ t.ids, (ρ j).u.r = Fo.none' ∨ (ρ j).u.r ∈ t.ids := fun j hj => by
                obtain ⟨q, hq, rfl⟩ := List.mem_map.1 hj
                rw [hF.rec_u q hq]
                exact (hg.org q hq).2
              have hfar : ∀ j, j ∈ N → fartherV t.ids (fset ρ u.id ⟨u, V.par, [], [], 1⟩ j).u (fset ρ u.id ⟨u, V.par, [], [], 1⟩ u.id).u = aheadV t.ids t.ids (ρ j).u u := fun j hj => by
                have hjn : j ≠ u.id := fun e => hnew (e ▸ hj)
                rw [fset_same, fset_ne hjn]
                exact fartherV_eq (horg j ((hN j).1 hj)) hM.r
              have hoN1 : ∀ j ∈ t.ids, j ∈ N ++ [u.id] := fun j hj => in1 (ho j hj)
              have ht := hP.tips
              rw [if_neg (by rw [hv]; simp)] at ht
              by_cases hlN : u.l ∈ N
              · have hpo : parOf t.ids u = some u.l := if_pos ((hN _).1 hlN)
                rw [hpo] at hkl hk1' hk2' hpar
                have hlN1 := in1 hlN
                have hne : u.l ≠ u.id := fun e => hnew (e ▸ hlN)
                have hLN : ∀ j ∈ (ρ u.l).R, j ∈ N := hclN.R u.l hlN
                have hLl : (ρ u.l).R.length ≤ 1000000000 := by have := (fits_sizes hg.nd hF hs).R _ ((hN _).1 hlN); omega
                have hf6 : fx N u.l = ((N ++ [u.id]).idxOf u.l : Int) := by
                  unfold fx
                  rw [if_pos hlN, ← ix_old (x := u.id) hlN]
                  rfl
                have hll := List.idxOf_lt_length_iff.2 hlN1
                obtain ⟨g, nb, b1, d1, b2, d2, rfl, hcell, hd1, hIL, hd2, hIR⟩ := hnode u.l hlN1
                rw [fset_ne hne] at hcell hIR hd2
                have hc9 := hcell 9 _ rfl
                clear hcell
                rw [hf6]
                (refine Ga ?_)
                refine W_drawT 19 (fun A' => Grown C0 A') rfl rfl ?_
                refine T_takeV 0 1 18 rfl (by kernel_rfl) (by repeat (first | exact retQ_p | apply seqQ_p | apply blkQ_p | apply rndQ_p | apply cutQ_p)) (grown_start C0) ?_
                (refine Qb ?_)
                refine T_takeV 1 2 17 rfl (by kernel_rfl) (by repeat (first | exact retQ_p | apply seqQ_p | apply blkQ_p | apply rndQ_p | apply cutQ_p)) (grown_start C0) ?_
                (refine Qb ?_)
                refine T_takeV 2 3 16 rfl (by kernel_rfl) (by repeat (first | exact retQ_p | apply seqQ_p | apply blkQ_p | apply rndQ_p | apply cutQ_p)) (grown_start C0) ?_
                (refine Qb ?_)
                refine T_takeV 3 16 15 rfl (by kernel_rfl) (by repeat (first | exact retQ_p | apply seqQ_p | apply blkQ_p | apply rndQ_p | apply cutQ_p)) (grown_start C0) ?_
                (refine Qb ?_)
                refine T_takeV 4 16 14 rfl (by kernel_rfl) (by repeat (first | exact retQ_p | apply seqQ_p | apply blkQ_p | apply rndQ_p | apply cutQ_p)) (grown_start C0) ?_
                (refine Qb ?_)
                refine T_takeV 5 15 13 rfl (by kernel_rfl) (by repeat (first | exact retQ_p | apply seqQ_p | apply blkQ_p | apply rndQ_p | apply cutQ_p)) (grown_start C0) ?_
                (refine Qb ?_)
                refine T_takeV 6 7 12 rfl (by kernel_rfl) (by repeat (first | exact retQ_p | apply seqQ_p | apply blkQ_p | apply rndQ_p | apply cutQ_p)) (grown_start C0) ?_
                (refine Qb ?_)
                refine T_takeV 7 8 11 rfl (by kernel_rfl) (by repeat (first | exact retQ_p | apply seqQ_p | apply blkQ_p | apply rndQ_p | apply cutQ_p)) (grown_start C0) ?_
                (refine Qb ?_)
                refine T_takeV 8 9 10 rfl (by kernel_rfl) (by repeat (first | exact retQ_p | apply seqQ_p | apply blkQ_p | apply rndQ_p | apply cutQ_p)) (grown_start C0) ?_
                (refine Qb ?_)
                refine T_takeV 9 11 9 rfl (by kernel_rfl) (by repeat (first | exact retQ_p | apply seqQ_p | apply blkQ_p | apply rndQ_p | apply cutQ_p)) (grown_start C0) ?_
                (refine Qb ?_)
                refine T_takeV 10 11 8 rfl (by kernel_rfl) (by repeat (first | exact retQ_p | apply seqQ_p | apply blkQ_p | apply rndQ_p | apply cutQ_p)) (grown_start C0) ?_
                (refine Qb ?_)
                refine T_takeV 11 12 7 rfl (by kernel_rfl) (by repeat (first | exact retQ_p | apply seqQ_p | apply blkQ_p | apply rndQ_p | apply cutQ_p)) (grown_start C0) ?_
                apply Qst_pu
                · apply P_idxn (j := (N ++ [u.id]).idxOf u.l)
                  focus rfl
                  focus rfl
                  focus rfl
                  focus rfl
                  focus rfl
                  focus exact hll
                focus rfl
                (refine Qb ?_)
                refine T_takeV 12 13 6 rfl (by kernel_rfl) (by repeat (first | exact retQ_p | apply seqQ_p | apply blkQ_p | apply rndQ_p | apply cutQ_p)) (grown_start C0) ?_
                (refine Qb ?_)
                refine T_takeV 13 15 5 rfl (by kernel_rfl) (by repeat (first | exact retQ_p | apply seqQ_p | apply blkQ_p | apply rndQ_p | apply cutQ_p)) (grown_start C0) ?_
                apply Qst_loadc
                focus rfl
                focus rfl
                focus rfl
                focus exact fun A9 hA9 => cell_below hA9 hc9
                focus rfl
                (refine Qb ?_)
                refine T_takeV 14 15 4 rfl (by kernel_rfl) (by repeat (first | exact retQ_p | apply seqQ_p | apply blkQ_p | apply rndQ_p | apply cutQ_p)) (grown_start C0) ?_
                (refine Qb ?_)
                refine T_any [15] 3 rfl (by kernel_rfl) (all1 ?_)
                have hw := c_among u.id (ρ u.l).R b2 d2 V.k hxN1 (fun j hj => in1 (hLN j hj)) hLl hd2 (hIR.below (grown_start C0) (Nat.le_refl _)) hkl (fun i hi hik => (hfar _ (hLN _ (List.getElem_mem hi))).trans (hk1' i hi hik)) (fun i hi hik => (hfar _ (hLN _ (List.getElem_mem hi))).trans (hk2' i hi hik)) hn1 hu1 hl1 hoN1 hg.nd hlo (hC.grown (grown_start C0))
                rw [← hme] at hw
                (apply Lst_call; (focus rfl); (focus rfl))
                refine hw.mono ?_
                rintro v w8 ⟨ho8, hb8⟩
                have b8 : Below C0.heap.size C0 w8 := Below.after (grown_start C0) hb8
                obtain ⟨z1, z2, z3, rfl⟩ := own_slice ho8
                apply Lst_nil
                apply rnQ_n
                refine ⟨b8, ?_⟩
                refine T_takeV 16 17 2 rfl (by kernel_rfl) (by repeat (first | exact retQ_p | apply seqQ_p | apply blkQ_p | apply rndQ_p | apply cutQ_p)) b8 ?_
                apply Qst_pu
                · apply P_idxn (j := (N ++ [u.id]).idxOf u.l)
                  focus rfl
                  focus rfl
                  focus rfl
                  focus rfl
                  focus rfl
                  focus exact hll
                focus rfl
                (refine Qb ?_)
                refine T_takeV 17 18 1 rfl (by kernel_rfl) (by repeat (first | exact retQ_p | apply seqQ_p | apply blkQ_p | apply rndQ_p | apply cutQ_p)) b8 ?_
                (refine Qb ?_)
                obtain ⟨g8, c8, ls, e8, hblk8, hkl8, hfin8⟩ := hE1.stored (left := false) (w8 := w8) hlN1 h.lt h.own hgw b8 ho8 (Nat.le_refl _) sCw
                injection e8 with q1 q2 q3
                cases q1
                rw [if_neg (by simp)] at hkl8 hfin8
                refine T_last 18 (by kernel_rfl) ?_
                apply Lst_storeN (hb := hblk8)
                focus rfl
                focus constructor
                focus rfl
                focus rfl
                focus rfl
                focus rfl
                focus exact hkl8
                obtain ⟨oD, hD⟩ := hfin8 _ rfl
                (refine Ga ?_)
                apply rnQ_n
                (refine Ga ?_)
                refine cutQ_n () ⟨oC.trans oD, ?_⟩ ⟨rfl, trivial⟩
                rw [hpar] at ht
                have ht' : t.tips = (Fo.put t u).tips := ht
                rw [← ht', laid_R hv hpar hne]
                rw [if_neg (by simp), fset_ne hne] at hD
                exact hD
              · have hpo : parOf t.ids u = none := if_neg fun hm => hlN ((hN _).2 hm)
                rw [hpo] at hkl hk1' hk2' hpar
                have hf6 : fx N u.l = -1 := if_neg hlN
                have hLN : ∀ j ∈ t.tips, j ∈ N := fun j hj => ho j (Fo.tips_ids hj)
                have hLl : t.tips.length ≤ 1000000000 := by have := tips_le t; omega
                rw [hf6]
                (refine Ga ?_)
                (apply Lst_call; (focus rfl); (focus rfl))
                have hw := c_among u.id t.tips a1 c1 V.k hxN1 (fun j hj => in1 (hLN j hj)) hLl hc1' hIm hkl (fun i hi hik => (hfar _ (hLN _ (List.getElem_mem hi))).trans (hk1' i hi hik)) (fun i hi hik => (hfar _ (hLN _ (List.getElem_mem hi))).trans (hk2' i hi hik)) hn1 hu1 hl1 hoN1 hg.nd hlo hC
                rw [← hme] at hw
                refine hw.mono ?_
                rintro v w8 ⟨ho8, hb8⟩
                have hS8 := hS.below hb8 ltp
                have ltp8 := hS8.lt
                have s8 := hb8.size
                obtain ⟨z1, z2, z3, rfl⟩ := own_slice ho8
                have hfin : ∀ D, D = w8.putObj p (.cells [.slice y1 (N ++ [u.id]).length y3, .slice z1 z2 z3, .slice a2 t.ids.length c2].toArray 69) → OnlyB w.heap.size p C0 D ∧ RfAt D p (FX F w D) (N ++ [u.id]) (fset ρ u.id ⟨u, V.par, [], [], 1⟩) (t.tips.take V.k ++ u.id :: t.tips.drop V.k) t.ids := fun D hDe => by
                  have sD : D.heap.size = w8.heap.size := by rw [hDe, World.putObj_size]
                  have up : ∀ q, FX F w C0 q → FX F w D q := fun q hq => by
                    rcases hq with hq | hq
                    · exact .inl hq
                    · exact .inr ⟨hq.1, by omega⟩
                  refine ⟨?_, fun q hq => ?_, .inl h.own, .intro (.slice y1 (N ++ [u.id]).length y3) (.intro (.slice z1 z2 z3) (.intro (.slice a2 t.ids.length c2) (.intro _ (hE1.setS (by rw [hDe]; exact Blk.put_same ltp8 _ _) ?_ ?_ (by omega) up fun q hq hqp => ?_))))⟩
                  · rw [hDe]
                    exact (OnlyB.of hb8 sCw).trans (OnlyB.put _ (.inl rfl))
                  · rcases hq with hq | hq
                    · have := h.lt q hq
                      omega
                    · exact hq.2
                  · have ho9 : OwnZ C0.heap.size D (.slice z1 z2 z3) ((t.tips.take V.k ++ u.id :: t.tips.drop V.k).map (ix (N ++ [u.id]))) := by
                      rw [hDe]
                      exact own_put ho8 ltp _
                    refine Lz.of_own ho9 fun q hq => ?_
                    have q1 := (ho8.lt q hq).1
                    have q2 := own_ltg ho8 hq
                    refine ⟨⟨.inr ⟨by omega, by omega⟩, fun e => ?_⟩, by omega⟩
                    have := hC.lt q (hE1.2.2.1 q e).1
                    omega
                  · have hLo := hE1.2.2.2.2.2.2.1
                    rw [List.length_map] at hLo
                    refine hLo.kept (by omega) (fun q hq => ⟨up q hq.1, hq.2⟩) fun q hq hqp => ?_
                    rw [hDe, World.putObj_heap_other hqp]
                    exact hb8.block q (hC.lt q hq.1)
                  · rw [hDe, World.putObj_heap_other hqp]
                    exact hb8.block q (hC.lt q hq)
                obtain ⟨oD, hD⟩ := hfin _ rfl
                (refine Ga ?_)
                refine cutQ_n () ⟨oC.trans oD, ?_⟩ ⟨rfl, trivial⟩
                rw [hpar] at ht
                have ht' : t.tips.take V.k ++ u.id :: t.tips.drop V.k = (Fo.put t u).tips := ht
                rw [← ht', laid_0 hv hpar]
                exact hD
          · rintro J _ D ⟨oD, hD⟩
            obtain ⟨σ, hσ⟩ : ∃ σ, bump 1 c (laid (fset ρ u.id (newRec u)) t.tips u.id V) = σ := ⟨_, rfl⟩
            have hfits := hP.fits
            rw [hσ] at hfits
            have hDσ : RfAt D p (FX F w D) (N ++ [u.id]) σ (Fo.put t u).tips t.ids := by
              refine ⟨hD.lt, hD.own, ?_⟩
              obtain ⟨vl, vm, vo, cs', q⟩ := hD.ex
              exact ⟨vl, vm, vo, cs', q.congr fun k _ => by rw [← hσ]; exact ⟨rfl, rfl, rfl, rfl⟩⟩
            clear hD
            obtain ⟨vl, vm, vo, cs', hE2⟩ := hDσ.ex
            obtain ⟨hS, _, hvb, _, _, hLm, hLo, _⟩ := id hE2
            obtain ⟨a1, c1, rfl, hc1⟩ := hLm.cap
            rw [List.length_map] at hS hLm hE2
            have ltp := hS.lt
            have hpN : ∀ j ∈ (Fo.put t u).ids, j ∈ N ++ [u.id] := fun j hj => by
              rw [List.mem_append, List.mem_singleton]
              rcases (Fo.put_ids hg.nd j).1 hj with rfl | hj
              · exact .inr rfl
              · exact .inl (ho j hj)
            have hpl : (Fo.put t u).sz = t.sz + 1 := by
              obtain ⟨q1, q2, q3, q4⟩ := Fo.put_in (u := u) hg.nd
              unfold Fo.sz
              rw [q3, q4]
              simp only [List.length_append, List.length_cons]
              omega
            have hLm' : Lz D (FX F w D) p (.slice a1 (Fo.put t u).tips.length c1) ((Fo.put t u).tips.map (ix (N ++ [u.id]))) := hLm.kept (Nat.le_refl _) (fun _ h => h.1) fun _ _ _ => rfl
            (refine Ga ?_)
            (apply Lst_call; (focus rfl); (focus rfl))
            refine (c_walk D.heap.size hDσ.lt (Fo.put t u).sz (Fo.put t u) none a1 c1 (.slice none 0 0) [] D (Nat.le_refl _) hfits hpN (Nat.le_refl _) hLm' (OwnZ.nil _ _) (by rw [hpl, List.length_nil]; omega) hDσ).mono ?_
            rintro v w6 ⟨ho6, hb6⟩
            rw [List.nil_append] at ho6
            obtain ⟨z1, z2, z3, rfl⟩ := own_slice ho6
            have hS6 := hS.below hb6 ltp
            have ltp6 := hS6.lt
            have s6 := hb6.size
            (refine Ga ?_)
            have hfin : ∀ W, W = w6.putObj p (.cells [vl, .slice a1 (Fo.put t u).tips.length c1, .slice z1 z2 z3].toArray 69) → OnlyB w.heap.size p w W ∧ RefAt W p (FX F w W) (Fo.put t u) := fun W hW => by
              have sW : W.heap.size = w6.heap.size := by rw [hW, World.putObj_size]
              have sD := oD.size
              refine ⟨?_, N ++ [u.id], σ, ⟨fun g hg' => ?_, .inl h.own, vl, .slice a1 (Fo.put t u).tips.length c1, .slice z1 z2 z3, cs', ?_⟩, hfits, hg.put hM.toCan, ?_, ?_⟩
              · rw [hW]
                exact (oD.trans (OnlyB.of hb6 sD)).trans (OnlyB.put _ (.inl rfl))
              · rcases hg' with hg' | hg'
                · have := h.lt g hg'
                  omega
                · exact hg'.2
              · refine hE2.setS (by rw [hW]; exact Blk.put_same ltp6 _ _) ?_ ?_ (by omega) ?_ ?_
                · refine hLm.kept (by omega) (fun g hg' => ⟨?_, hg'.2⟩) fun g hg' hne => ?_
                  · rcases hg'.1 with hg1 | hg1
                    · exact .inl hg1
                    · exact .inr ⟨hg1.1, by omega⟩
                  · rw [hW, World.putObj_heap_other hne]
                    exact hb6.block g (hDσ.lt g hg'.1)
                · have ho7 : OwnZ D.heap.size W (.slice z1 z2 z3) ((Fo.put t u).ids.map (ix (N ++ [u.id]))) := by
                    rw [hW]
                    exact own_put ho6 ltp _
                  refine Lz.of_own ho7 fun g hgo => ?_
                  have q1 := (ho6.lt g hgo).1
                  have q2 := own_ltg ho6 hgo
                  refine ⟨⟨.inr ⟨by omega, by omega⟩, fun e => ?_⟩, by omega⟩
                  have := hDσ.lt g (hvb g e).1
                  omega
                · intro g hg'
                  rcases hg' with hg1 | hg1
                  · exact .inl hg1
                  · exact .inr ⟨hg1.1, by omega⟩
                · intro g hg' hne
                  rw [hW, World.putObj_heap_other hne]
                  exact hb6.block g (hDσ.lt g hg')
              · exact List.nodup_append.2 ⟨hn, List.pairwise_singleton .., fun q hq q' hq' e => hnew (by rw [← List.mem_singleton.1 hq', ← e]; exact hq)⟩
              · intro k
                rw [List.mem_append, List.mem_singleton, Fo.put_ids hg.nd, hN]
                exact Or.comm
            obtain ⟨oW, hW⟩ := hfin _ rfl
            apply retQ1
            focus rfl
            have hi : (Fo.insert t u).1 = Fo.put t u := by unfold Fo.insert; rw [hmay]; rfl
            rw [hi, hmay]
            exact ⟨rfl, _, hW, oW.turn h.own fun g hg' => ⟨fun q => q.elim id fun q => by omega, .inl⟩⟩
end
end Sq
namespace Sq
open Go Go.RowKit Sx Tl
/-! ### Plain: units put in one after the other -/
namespace Fo
def putL (t : Fo) (us : List Un) : Fo := us.foldl put t
theorem putL_cons (t : Fo) (u : Un) (us : List Un) : putL t (u :: us) = putL (put t u) us := rfl
theorem putL_snoc (t : Fo) (us : List Un) (u : Un) : putL t (us ++ [u]) = put (putL t us) u := by unfold putL; rw [List.foldl_append]; rfl
theorem put_sz {t : Fo} {u : Un} (h : t.ids.Nodup) : (put t u).sz = t.sz + 1 := by
  obtain ⟨A, B, h1, h2⟩ := put_in (u := u) h
  unfold sz
  rw [h1, h2]
  simp only [List.length_append, List.length_cons]
  omega
end Fo
/-! ### The reference, kept -/
variable {w w' : World} {p : Nat} {F F' G G' : Nat → Prop} {t : Fo}
theorem RefAt.kept (h : RefAt w p F t) (hs : w.heap.size ≤ w'.heap.size) (hb : ∀ g, F g → w'.heap[g]? = w.heap[g]?) : RefAt w' p F t := by
  obtain ⟨N, ρ, h1, h2⟩ := h
  exact ⟨N, ρ, h1.kept hs hb, h2⟩
theorem RefAt.lt (h : RefAt w p F t) {g : Nat} (hg : F g) : g < w.heap.size := by
  obtain ⟨N, ρ, h1, h2⟩ := h
  exact h1.lt g hg
theorem RefAt.good (h : RefAt w p F t) : Fo.Good t := by
  obtain ⟨N, ρ, h1, h2, h3, _⟩ := h
  exact h3
theorem RefAt.below (h : RefAt w p F t) (hb : Below w.heap.size w w') : RefAt w' p F t := h.kept hb.size fun _ hg => hb.block _ (h.lt hg)
theorem RefAt.other (h : RefAt w p F t) (hT : Turn G G' w w') (hd : ∀ g, F g → ¬ G g) : RefAt w' p F t := h.kept hT.size fun g hg => hT.block g (h.lt hg) (hd g hg)
theorem RefAt.put (h : RefAt w p F t) {b : Nat} (hb : ¬ F b) (o : Obj) : RefAt (w.putObj b o) p F t :=
  h.kept (by rw [World.putObj_size]; exact Nat.le_refl _) fun g hg => World.putObj_heap_other fun e => hb (e ▸ hg)
theorem r_Len (h : RefAt w p F t) : Does Tryz.prog 11 #[.pointer (some ⟨p, 0, none⟩)] w fun v w' => v = .int .i64 (t.sz : Int) ∧ w = w' := by
  obtain ⟨N, ρ, h1, h2⟩ := h
  have := c_rLen h1
  rwa [Fo.ids_len] at this
theorem r_At (i : Int) (h : RefAt w p F t) : Does Tryz.prog 17 #[.pointer (some ⟨p, 0, none⟩), .int .i64 i] w fun v w' =>
    (v = if 0 ≤ i ∧ i < t.sz then .tuple #[.agg (ucs (t.flat.getD i.toNat default)).toArray, .bool true] else .tuple #[.agg (ucs ⟨(0, 0), (0, 0), (0, 0)⟩).toArray, .bool false]) ∧ Below w.heap.size w w' := by
  obtain ⟨N, ρ, h1, h2, h3, h4, h5⟩ := h
  refine (c_rAt i (fun j hj => (h5 j).2 hj) h1).mono ?_
  rintro v w' ⟨rfl, hb⟩
  refine ⟨?_, hb⟩
  rw [Fo.ids_len]
  by_cases hi : 0 ≤ i ∧ i < t.sz
  · rw [if_pos hi, if_pos hi, fits_ord h2 _ (by omega)]
  · rw [if_neg hi, if_neg hi]
theorem RefAt.new {w : World} {b : Nat} (h : Blk w b [.slice none 0 0, .slice none 0 0, .slice none 0 0] 69) : RefAt w b (fun g => g = b) .nil := by
  refine ⟨[], fun _ => ⟨default, none, [], [], 0⟩, ⟨fun g hg => by rw [hg]; exact h.lt, rfl, .slice none 0 0, .slice none 0 0, .slice none 0 0, [], h, ⟨rfl, .inl ⟨rfl, rfl⟩⟩, ?_, rfl, ?_, Lz.nil _ _ _, Lz.nil _ _ _, ?_⟩, trivial, Fo.Good.nil, List.nodup_nil, fun k => Iff.rfl⟩
  · intro g hg
    cases hg
  · intro l hl
    cases hl
  · intro k hk
    cases hk
/-! ### A row of units of one's own -/
attribute [local irreducible] W Lst Qst Pu seqQ blkQ rndQ cutQ retQ Does Enters IntKind.wrap bits sb World.alloc World.putObj Blk
end Sq
end Go.Proofs.YtmgipnckojopcaaGreat
