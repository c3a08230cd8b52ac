/- The document's awareness: Tell, Leave, All, Seen; quirehelp.Spoil; both side by side. -/
import Derived.Test.YtoljcnlmockpcaaSxE
import Derived.Test.YtoljcnlmockpcaaRwB
import Derived.Test.YtoljcnlmockpcaaAwAny
namespace Go.Proofs.Ytoljcnlmockpcaa
set_option maxRecDepth 100000
namespace Aw
open Go Go.RowKit Sx Wire
open So (cutQ_p rndQ_p)
attribute [local irreducible] W Lst Qst Pu seqQ blkQ rndQ cutQ retQ Does Enters IntKind.wrap bits sb World.alloc World.putObj Blk
set_option maxHeartbeats 2000000 in
theorem r_Tell (p : Nat) (a : Awr) (s : ByteArray) (h1 : s.size ≤ 256) (hc : a.client < 18446744073709551616) (h2 : a.own < 9007199254740991) (hel : a.es.length ≤ 100000000) (w : World) (h : RAt w p a) :
    Does Try.prog 17 #[.pointer (some ⟨p, 0, none⟩), .string s] w fun v w' =>
      (∃ u, v = .tuple #[u, .int .i64 0] ∧ Own8 w.heap.size w' u (wrL [a.mine s false])) ∧ RAt w' p (a.say s false) ∧ Chg [p] w w' := by
  refine Does_of (args := [.pointer (some ⟨p, 0, none⟩), .string s]) Try.func17 (by kernel_rfl) rfl rfl rfl rfl rfl ?_
  have hlt := h.lt
  obtain ⟨x, cp, hblk, hrows, hcp, hsrt⟩ := id h
  have hw : arith .add .u64 (a.own : Int) 1 = ((a.own + 1 : Nat) : Int) := by
    show IntKind.u64.wrap ((a.own : Int) + 1) = _
    rw [wu64 (by omega) (by omega)]
    omega
  have hchX : Chg [p] w (w.putObj p (.cells [.int .u64 (a.client : Int), .int .u64 ((a.own + 1 : Nat) : Int), .int .u64 a.now, .int .u64 a.last, .slice x a.es.length cp].toArray 65)) := (Chg.refl _ _).put (.inl (by simp)) _
  have hblkX : Blk (w.putObj p (.cells [.int .u64 (a.client : Int), .int .u64 ((a.own + 1 : Nat) : Int), .int .u64 a.now, .int .u64 a.last, .slice x a.es.length cp].toArray 65)) p [.int .u64 (a.client : Int), .int .u64 ((a.own + 1 : Nat) : Int), .int .u64 a.now, .int .u64 a.last, .slice x a.es.length cp] 65 := Blk.put_same hlt _ _
  have hX := own_growth (a' := { a with own := a.own + 1 }) h rfl rfl rfl rfl hblk hblkX hchX
  (refine Ga ?_)
  generalize w.putObj p (.cells [.int .u64 (a.client : Int), .int .u64 ((a.own + 1 : Nat) : Int), .int .u64 a.now, .int .u64 a.last, .slice x a.es.length cp].toArray 65) = X at *
  refine So.W_cutS (α := Nat) (fun k => [(0, .pointer (some ⟨p, 0, none⟩)), (6, .pointer (some ⟨k, 0, none⟩))]) (fun k A' => Blk A' k (pcs (a.mine s false)) 37 ∧ Below X.heap.size X A' ∧ X.heap.size ≤ k) ?_ ?_
  · refine W_drawS 12 (fun A' => Below X.heap.size X A') rfl rfl ?_
    have hS : Below X.heap.size X X.drew := Below.drew (Below.refl _ _)
    generalize X.drew = Y at *
    (refine S_take 0 11 rfl (by kernel_rfl) (by repeat (first | exact retQ_p | apply seqQ_p | apply blkQ_p | apply rndQ_p | apply cutQ_p)) hS ?_)
    (refine Qb ?_)
    (refine S_take 4 10 rfl (by kernel_rfl) (by repeat (first | exact retQ_p | apply seqQ_p | apply blkQ_p | apply rndQ_p | apply cutQ_p)) hS ?_)
    (refine Qb ?_)
    (refine S_take 8 9 rfl (by kernel_rfl) (by repeat (first | exact retQ_p | apply seqQ_p | apply blkQ_p | apply rndQ_p | apply cutQ_p)) hS ?_)
    (refine Qb ?_)
    refine S_takeP 1 8 rfl (by kernel_rfl) (by repeat (first | exact retQ_p | apply seqQ_p | apply blkQ_p | apply rndQ_p | apply cutQ_p)) hS rfl (P_nilCheck rfl) rfl ?_
    (refine S_take 2 7 rfl (by kernel_rfl) (by repeat (first | exact retQ_p | apply seqQ_p | apply blkQ_p | apply rndQ_p | apply cutQ_p)) hS ?_)
    (refine Qb ?_)
    (refine S_take 3 6 rfl (by kernel_rfl) (by repeat (first | exact retQ_p | apply seqQ_p | apply blkQ_p | apply rndQ_p | apply cutQ_p)) hS ?_)
    apply Qst_load (hb := fun A9 hA9 => hblkX.below hA9 hblkX.lt)
    focus rfl
    focus rfl
    focus rfl
    focus rfl
    focus rfl
    (refine Qb ?_)
    refine S_takeP 5 5 rfl (by kernel_rfl) (by repeat (first | exact retQ_p | apply seqQ_p | apply blkQ_p | apply rndQ_p | apply cutQ_p)) hS rfl (P_nilCheck rfl) rfl ?_
    (refine S_take 6 4 rfl (by kernel_rfl) (by repeat (first | exact retQ_p | apply seqQ_p | apply blkQ_p | apply rndQ_p | apply cutQ_p)) hS ?_)
    (refine Qb ?_)
    (refine S_take 7 3 rfl (by kernel_rfl) (by repeat (first | exact retQ_p | apply seqQ_p | apply blkQ_p | apply rndQ_p | apply cutQ_p)) hS ?_)
    apply Qst_load (hb := fun A9 hA9 => hblkX.below hA9 hblkX.lt)
    focus rfl
    focus rfl
    focus rfl
    focus rfl
    focus rfl
    (refine Qb ?_)
    refine S_takeP 9 2 rfl (by kernel_rfl) (by repeat (first | exact retQ_p | apply seqQ_p | apply blkQ_p | apply rndQ_p | apply cutQ_p)) hS rfl (v := .agg (pcs (a.mine s false)).toArray) ?_ rfl ?_
    · apply P_build
      focus rfl
      focus rfl
      focus rfl
      focus rfl
      focus rfl
      focus (repeat (first | apply FillO.nil | (apply FillO.cons; (focus constructor); (focus rfl); (focus rfl); (focus (repeat constructor)))))
    (refine S_any [10] 1 rfl (by kernel_rfl) (all1 ?_))
    apply Lst_alloc (hB := rfl)
    focus rfl
    focus rfl
    focus rfl
    focus rfl
    apply Lst_nil
    apply rnQ_n
    have hS2 : Below X.heap.size X (Y.alloc (.cells [.int .u64 0, .int .u64 0, .string ⟨#[]⟩, .bool false].toArray 37)) := hS.alloc hS.size _
    have kZ : Blk (Y.alloc (.cells [.int .u64 0, .int .u64 0, .string ⟨#[]⟩, .bool false].toArray 37)) Y.heap.size [.int .u64 0, .int .u64 0, .string ⟨#[]⟩, .bool false] 37 := Blk.newE rfl _ _
    refine ⟨hS2, ?_⟩
    have hXY := hS.size
    generalize Y.heap.size = K at *
    generalize Y.alloc (.cells [.int .u64 0, .int .u64 0, .string ⟨#[]⟩, .bool false].toArray 37) = Z at *
    (refine S_any [11] 0 rfl (by kernel_rfl) (all1 ?_))
    apply Lst_storeA (hb := kZ) (vs := pcs (a.mine s false)) (l' := pcs (a.mine s false))
    focus rfl
    focus rfl
    focus rfl
    focus rfl
    focus exact fun v hv => pcs_one [a.mine s false] v (by simpa using hv)
    focus (unfold pcs; repeat constructor)
    apply Lst_nil
    apply rnQ_n
    have hS4 : Below X.heap.size X (Z.putObj K (.cells (pcs (a.mine s false)).toArray 37)) := Below.put hS2 hXY _
    refine ⟨hS4, ?_⟩
    refine S_done (by kernel_rfl) ?_
    exact cutQ_n K ⟨Blk.put_same kZ.lt _ _, hS4, hXY⟩ ⟨rfl, rfl, trivial⟩
  clear hblk hblkX hrows
  rintro J k A ⟨kA, hbA, hXk⟩
  have hA := hX.below hbA
  have hcA := hchX.trans (.of hbA)
  have hlX := hX.lt
  have hkp : k ≠ p := by omega
  have kA' := kA
  unfold pcs Awr.mine at kA'
  (refine Ga ?_)
  (apply Lst_call; (focus rfl); (focus rfl))
  refine (r_put p { a with own := a.own + 1 } (a.mine s false) hel A hA).mono ?_
  rintro v A2 ⟨rfl, hA2, hc2⟩
  have k2 := hc2.blk kA' (by simpa using hkp)
  have hsay : RAt A2 p (a.say s false) := hA2
  have hcA2 := hcA.trans hc2
  clear hA2 kA kA' hA
  (refine Ga ?_)
  (apply Lst_lit1; (focus constructor); (focus rfl); (focus rfl); (focus rfl); (focus rfl); (focus rfl); (focus rfl); (focus rfl); (focus rfl); (focus ((try simp only [Sx.sizes]); first | done | rfl)); (focus rfl))
  have hP : Prs (A2.alloc (.cells [.int .u64 (a.client : Int), .int .u64 ((a.own + 1 : Nat) : Int), .string s, .bool false].toArray 37)) (.slice (some ⟨A2.heap.size, 0, none⟩) 1 1) [a.mine s false] := Prs.one (p := a.mine s false) (Blk.newE rfl _ _) 1
  have hb3 : Below A2.heap.size A2 (A2.alloc (.cells [.int .u64 (a.client : Int), .int .u64 ((a.own + 1 : Nat) : Int), .string s, .bool false].toArray 37)) := Bel
  have hfit : (a.mine s false).Fit := ⟨by show a.client < _; omega, by show a.own + 1 < _; omega, by show s.size ≤ 100000000; omega⟩
  have hlp := wr1_len _ hfit
  have hsz : (a.mine s false).s.size ≤ 256 := h1
  have hsay3 := hsay.below hb3
  have hc3 := hcA2.trans (.of hb3)
  (refine Ga ?_)
  generalize A2.alloc (.cells [.int .u64 (a.client : Int), .int .u64 ((a.own + 1 : Nat) : Int), .string s, .bool false].toArray 37) = A3 at *
  (apply Lst_call; (focus rfl); (focus rfl))
  refine (r_Write _ [a.mine s false] (fun q hq => by rw [List.mem_singleton.1 hq]; exact hfit) (by omega) A3 hP).mono ?_
  rintro u A4 ⟨hu, hb4⟩
  have hsay4 := hsay3.below hb4
  have hc4 := hc3.trans (.of hb4)
  have hu2 : Own8 w.heap.size A4 u (wrL [a.mine s false]) := own_baseN hu hc3.size
  obtain ⟨u1, u2, u3, rfl⟩ := own_slice hu2
  (refine Ga ?_)
  (apply retQ2; (focus rfl); (focus rfl))
  exact ⟨⟨_, rfl, hu2⟩, hsay4, hc4⟩
theorem r_Tell_no (p : Nat) (a : Awr) (s : ByteArray) (w : World) (h : RAt w p a) (h0 : 256 < s.size ∨ 9007199254740991 ≤ a.own) :
    Does Try.prog 17 #[.pointer (some ⟨p, 0, none⟩), .string s] w fun v w' => v = .tuple #[.slice none 0 0, .int .i64 200] ∧ w = w' := by
  refine Does_of (args := [.pointer (some ⟨p, 0, none⟩), .string s]) Try.func17 (by kernel_rfl) rfl rfl rfl rfl rfl ?_
  obtain ⟨x, cp, hblk, hrows, hcp, hsrt⟩ := h
  by_cases h1 : 256 < s.size
  · (refine Ga ?_)
    (apply retQ2; (focus rfl); (focus rfl))
    exact ⟨rfl, rfl⟩
  · have h2 : 9007199254740991 ≤ a.own := by omega
    (refine Ga ?_)
    (apply retQ2; (focus rfl); (focus rfl))
    exact ⟨rfl, rfl⟩

set_option maxHeartbeats 2000000 in
theorem r_Leave (p : Nat) (a : Awr)  (hc : a.client < 18446744073709551616) (h2 : a.own < 9007199254740991) (hel : a.es.length ≤ 100000000) (w : World) (h : RAt w p a) :
    Does Try.prog 31 #[.pointer (some ⟨p, 0, none⟩)] w fun v w' =>
      (∃ u, v = u ∧ Own8 w.heap.size w' u (wrL [a.mine ⟨#[]⟩ true])) ∧ RAt w' p (a.say ⟨#[]⟩ true) ∧ Chg [p] w w' := by
  refine Does_of (args := [.pointer (some ⟨p, 0, none⟩)]) Try.func31 (by kernel_rfl) rfl rfl rfl rfl rfl ?_
  have hlt := h.lt
  obtain ⟨x, cp, hblk, hrows, hcp, hsrt⟩ := id h
  have hw : arith .add .u64 (a.own : Int) 1 = ((a.own + 1 : Nat) : Int) := by
    show IntKind.u64.wrap ((a.own : Int) + 1) = _
    rw [wu64 (by omega) (by omega)]
    omega
  have hchX : Chg [p] w (w.putObj p (.cells [.int .u64 (a.client : Int), .int .u64 ((a.own + 1 : Nat) : Int), .int .u64 a.now, .int .u64 a.last, .slice x a.es.length cp].toArray 65)) := (Chg.refl _ _).put (.inl (by simp)) _
  have hblkX : Blk (w.putObj p (.cells [.int .u64 (a.client : Int), .int .u64 ((a.own + 1 : Nat) : Int), .int .u64 a.now, .int .u64 a.last, .slice x a.es.length cp].toArray 65)) p [.int .u64 (a.client : Int), .int .u64 ((a.own + 1 : Nat) : Int), .int .u64 a.now, .int .u64 a.last, .slice x a.es.length cp] 65 := Blk.put_same hlt _ _
  have hX := own_growth (a' := { a with own := a.own + 1 }) h rfl rfl rfl rfl hblk hblkX hchX
  (refine Ga ?_)
  generalize w.putObj p (.cells [.int .u64 (a.client : Int), .int .u64 ((a.own + 1 : Nat) : Int), .int .u64 a.now, .int .u64 a.last, .slice x a.es.length cp].toArray 65) = X at *
  refine So.W_cutS (α := Nat) (fun k => [(0, .pointer (some ⟨p, 0, none⟩)), (3, .pointer (some ⟨k, 0, none⟩))]) (fun k A' => Blk A' k (pcs (a.mine ⟨#[]⟩ true)) 37 ∧ Below X.heap.size X A' ∧ X.heap.size ≤ k) ?_ ?_
  · refine W_drawS 11 (fun A' => Below X.heap.size X A') rfl rfl ?_
    have hS : Below X.heap.size X X.drew := Below.drew (Below.refl _ _)
    generalize X.drew = Y at *
    (refine S_take 0 10 rfl (by kernel_rfl) (by repeat (first | exact retQ_p | apply seqQ_p | apply blkQ_p | apply rndQ_p | apply cutQ_p)) hS ?_)
    (refine Qb ?_)
    (refine S_take 4 9 rfl (by kernel_rfl) (by repeat (first | exact retQ_p | apply seqQ_p | apply blkQ_p | apply rndQ_p | apply cutQ_p)) hS ?_)
    (refine Qb ?_)
    refine S_takeP 1 8 rfl (by kernel_rfl) (by repeat (first | exact retQ_p | apply seqQ_p | apply blkQ_p | apply rndQ_p | apply cutQ_p)) hS rfl (P_nilCheck rfl) rfl ?_
    (refine S_take 2 7 rfl (by kernel_rfl) (by repeat (first | exact retQ_p | apply seqQ_p | apply blkQ_p | apply rndQ_p | apply cutQ_p)) hS ?_)
    (refine Qb ?_)
    (refine S_take 3 6 rfl (by kernel_rfl) (by repeat (first | exact retQ_p | apply seqQ_p | apply blkQ_p | apply rndQ_p | apply cutQ_p)) hS ?_)
    apply Qst_load (hb := fun A9 hA9 => hblkX.below hA9 hblkX.lt)
    focus rfl
    focus rfl
    focus rfl
    focus rfl
    focus rfl
    (refine Qb ?_)
    refine S_takeP 5 5 rfl (by kernel_rfl) (by repeat (first | exact retQ_p | apply seqQ_p | apply blkQ_p | apply rndQ_p | apply cutQ_p)) hS rfl (P_nilCheck rfl) rfl ?_
    (refine S_take 6 4 rfl (by kernel_rfl) (by repeat (first | exact retQ_p | apply seqQ_p | apply blkQ_p | apply rndQ_p | apply cutQ_p)) hS ?_)
    (refine Qb ?_)
    (refine S_take 7 3 rfl (by kernel_rfl) (by repeat (first | exact retQ_p | apply seqQ_p | apply blkQ_p | apply rndQ_p | apply cutQ_p)) hS ?_)
    apply Qst_load (hb := fun A9 hA9 => hblkX.below hA9 hblkX.lt)
    focus rfl
    focus rfl
    focus rfl
    focus rfl
    focus rfl
    (refine Qb ?_)
    refine S_takeP 8 2 rfl (by kernel_rfl) (by repeat (first | exact retQ_p | apply seqQ_p | apply blkQ_p | apply rndQ_p | apply cutQ_p)) hS rfl (v := .agg (pcs (a.mine ⟨#[]⟩ true)).toArray) ?_ rfl ?_
    · apply P_build
      focus rfl
      focus rfl
      focus rfl
      focus rfl
      focus rfl
      focus (repeat (first | apply FillO.nil | (apply FillO.cons; (focus constructor); (focus rfl); (focus rfl); (focus (repeat constructor)))))
    (refine S_any [9] 1 rfl (by kernel_rfl) (all1 ?_))
    apply Lst_alloc (hB := rfl)
    focus rfl
    focus rfl
    focus rfl
    focus rfl
    apply Lst_nil
    apply rnQ_n
    have hS2 : Below X.heap.size X (Y.alloc (.cells [.int .u64 0, .int .u64 0, .string ⟨#[]⟩, .bool false].toArray 37)) := hS.alloc hS.size _
    have kZ : Blk (Y.alloc (.cells [.int .u64 0, .int .u64 0, .string ⟨#[]⟩, .bool false].toArray 37)) Y.heap.size [.int .u64 0, .int .u64 0, .string ⟨#[]⟩, .bool false] 37 := Blk.newE rfl _ _
    refine ⟨hS2, ?_⟩
    have hXY := hS.size
    generalize Y.heap.size = K at *
    generalize Y.alloc (.cells [.int .u64 0, .int .u64 0, .string ⟨#[]⟩, .bool false].toArray 37) = Z at *
    (refine S_any [10] 0 rfl (by kernel_rfl) (all1 ?_))
    apply Lst_storeA (hb := kZ) (vs := pcs (a.mine ⟨#[]⟩ true)) (l' := pcs (a.mine ⟨#[]⟩ true))
    focus rfl
    focus rfl
    focus rfl
    focus rfl
    focus exact fun v hv => pcs_one [a.mine ⟨#[]⟩ true] v (by simpa using hv)
    focus (unfold pcs; repeat constructor)
    apply Lst_nil
    apply rnQ_n
    have hS4 : Below X.heap.size X (Z.putObj K (.cells (pcs (a.mine ⟨#[]⟩ true)).toArray 37)) := Below.put hS2 hXY _
    refine ⟨hS4, ?_⟩
    refine S_done (by kernel_rfl) ?_
    exact cutQ_n K ⟨Blk.put_same kZ.lt _ _, hS4, hXY⟩ ⟨rfl, rfl, trivial⟩
  clear hblk hblkX hrows
  rintro J k A ⟨kA, hbA, hXk⟩
  have hA := hX.below hbA
  have hcA := hchX.trans (.of hbA)
  have hlX := hX.lt
  have hkp : k ≠ p := by omega
  have kA' := kA
  unfold pcs Awr.mine at kA'
  (refine Ga ?_)
  (apply Lst_call; (focus rfl); (focus rfl))
  refine (r_put p { a with own := a.own + 1 } (a.mine ⟨#[]⟩ true) hel A hA).mono ?_
  rintro v A2 ⟨rfl, hA2, hc2⟩
  have k2 := hc2.blk kA' (by simpa using hkp)
  have hsay : RAt A2 p (a.say ⟨#[]⟩ true) := hA2
  have hcA2 := hcA.trans hc2
  clear hA2 kA kA' hA
  (refine Ga ?_)
  (apply Lst_lit1; (focus constructor); (focus rfl); (focus rfl); (focus rfl); (focus rfl); (focus rfl); (focus rfl); (focus rfl); (focus rfl); (focus ((try simp only [Sx.sizes]); first | done | rfl)); (focus rfl))
  have hP : Prs (A2.alloc (.cells [.int .u64 (a.client : Int), .int .u64 ((a.own + 1 : Nat) : Int), .string ⟨#[]⟩, .bool true].toArray 37)) (.slice (some ⟨A2.heap.size, 0, none⟩) 1 1) [a.mine ⟨#[]⟩ true] := Prs.one (p := a.mine ⟨#[]⟩ true) (Blk.newE rfl _ _) 1
  have hb3 : Below A2.heap.size A2 (A2.alloc (.cells [.int .u64 (a.client : Int), .int .u64 ((a.own + 1 : Nat) : Int), .string ⟨#[]⟩, .bool true].toArray 37)) := Bel
  have hfit : (a.mine ⟨#[]⟩ true).Fit := ⟨by show a.client < _; omega, by show a.own + 1 < _; omega, Nat.zero_le _⟩
  have hlp := wr1_len _ hfit
  have hsz : (a.mine ⟨#[]⟩ true).s.size ≤ 256 := Nat.zero_le _
  have hsay3 := hsay.below hb3
  have hc3 := hcA2.trans (.of hb3)
  (refine Ga ?_)
  generalize A2.alloc (.cells [.int .u64 (a.client : Int), .int .u64 ((a.own + 1 : Nat) : Int), .string ⟨#[]⟩, .bool true].toArray 37) = A3 at *
  (apply Lst_call; (focus rfl); (focus rfl))
  refine (r_Write _ [a.mine ⟨#[]⟩ true] (fun q hq => by rw [List.mem_singleton.1 hq]; exact hfit) (by omega) A3 hP).mono ?_
  rintro u A4 ⟨hu, hb4⟩
  have hsay4 := hsay3.below hb4
  have hc4 := hc3.trans (.of hb4)
  have hu2 : Own8 w.heap.size A4 u (wrL [a.mine ⟨#[]⟩ true]) := own_baseN hu hc3.size
  obtain ⟨u1, u2, u3, rfl⟩ := own_slice hu2
  (refine Ga ?_)
  (apply retQ1; (focus rfl))
  exact ⟨⟨_, rfl, hu2⟩, hsay4, hc4⟩
theorem r_Leave_no (p : Nat) (a : Awr)  (w : World) (h : RAt w p a) (h2 : 9007199254740991 ≤ a.own) :
    Does Try.prog 31 #[.pointer (some ⟨p, 0, none⟩)] w fun v w' => v = .slice none 0 0 ∧ w = w' := by
  refine Does_of (args := [.pointer (some ⟨p, 0, none⟩)]) Try.func31 (by kernel_rfl) rfl rfl rfl rfl rfl ?_
  obtain ⟨x, cp, hblk, hrows, hcp, hsrt⟩ := h
  (refine Ga ?_)
  (apply retQ1; (focus rfl))
  exact ⟨rfl, rfl⟩

end Aw
namespace Aw
open Go Go.RowKit Sx Wire
open So (cutQ_p rndQ_p)
/-- All but bytes stays. -/
def Keep8 (w w' : World) : Prop := ∀ (b off : Nat) (v : Value), w.cell? ⟨b, off, none⟩ = some v → (∀ z, v ≠ .int .u8 z) → w'.cell? ⟨b, off, none⟩ = some v
theorem Keep8.rows {w w' : World} {v : Value} {es : List En} (h : SRows w 5 v (es.map ecs)) (hk : Keep8 w w') (hs : w.heap.size ≤ w'.heap.size) : SRows w' 5 v (es.map ecs) := by
  obtain ⟨b, off, cap, hf, hr⟩ := h
  refine ⟨b, off, cap, hf, fun i hi => ?_⟩
  obtain ⟨h1, h2⟩ := hr i hi
  refine ⟨Nat.lt_of_lt_of_le h1 hs, fun j u hu => hk _ _ _ (h2 j u hu) fun z e => ?_⟩
  rw [List.getElem_map] at hu
  subst e
  have hm := List.mem_of_getElem? hu
  unfold ecs at hm
  simp at hm
theorem RAt.keep {w w' : World} {p B : Nat} {a : Awr} (h : RAt w p a) (hp : p < B) (hb : Below B w w') (hk : Keep8 w w') : RAt w' p a := by
  obtain ⟨x, c, h1, h2, h3, h4⟩ := h
  exact ⟨x, c, h1.below hb hp, Keep8.rows h2 hk hb.size, h3, h4⟩
theorem flat_takeE {l : List En} {i : Nat} (h : i < l.length) : ((l.take (i + 1)).map fun e => pcs e.p).flatten = ((l.take i).map fun e => pcs e.p).flatten ++ pcs l[i].p := by
  rw [List.take_succ_eq_append_getElem h, List.map_append, List.flatten_append, List.map_singleton, List.flatten_singleton]
attribute [local irreducible] W Lst Qst Pu seqQ blkQ rndQ cutQ retQ Does Enters IntKind.wrap bits sb World.alloc World.putObj Blk
set_option maxHeartbeats 2000000 in
theorem r_All (p : Nat) (a : Awr) (hf : ∀ e ∈ a.es, e.p.Fit) (hl : (wrL (a.es.map (·.p))).length ≤ 100000000) (w : World) (h : RAt w p a) : Does Try.prog 23 #[.pointer (some ⟨p, 0, none⟩)] w fun v w' =>
    Ints w' .u8 v (nums (wrL (a.es.map (·.p)))) ∧ RAt w' p a ∧ Below w.heap.size w w' := by
  refine Does_of (args := [.pointer (some ⟨p, 0, none⟩)]) Try.func23 (by kernel_rfl) rfl rfl rfl rfl rfl ?_
  have hlen : a.es.length ≤ 100000000 := by
    have := wrs_len (a.es.map (·.p))
    unfold wrL at hl
    rw [List.length_append] at hl
    rw [List.length_map] at this
    omega
  obtain ⟨x, cp, hblk, hrows, hcp, hsrt⟩ := id h
  (refine Ga ?_)
  refine W_loop (α := Nat × Value) (fun y => [(0, .pointer (some ⟨p, 0, none⟩)), (3, y.2), (4, .int .i64 (y.1 : Int))])
    (fun y A => y.1 ≤ a.es.length ∧ Below w.heap.size w A ∧ A.ownsRow w.heap.size 37 4 y.2 y.1 (((a.es.take y.1).map fun e => pcs e.p).flatten)) (fun y _ => a.es.length - y.1) (0, .slice none 0 0)
    ⟨Nat.zero_le _, Below.refl _ _, World.ownsRow_nil _ _ _ _⟩ ⟨rfl, rfl, rfl, trivial⟩ ?_
  rintro J ⟨i, out⟩ A ⟨hi, hbA, ho⟩
  dsimp only at hi ho ⊢
  have sA := hbA.size
  have hbk := hblk.below hbA hblk.lt
  have hrA := hrows.below hbA (Nat.le_refl _)
  by_cases hil : i < a.es.length
  · obtain ⟨b, off, rfl, hbl, hcells⟩ := hrA.at (i := i) (by rw [List.length_map]; exact hil)
    rw [List.getElem_map] at hcells
    have hft := flat_takeE hil
    generalize a.es[i] = e at *
    obtain ⟨o1, o2, o3, rfl⟩ := own_slice ho
    have hc4 : ∀ (j : Nat) (u : Value), (pcs e.p)[j]? = some u → A.cell? ⟨b, off + i * 5 + j, none⟩ = some u := fun j u hu => hcells j u (by
      have hj : j < 4 := (List.getElem?_eq_some_iff.1 hu).1
      rw [← hu]
      match j, hj with
      | 0, _ => rfl
      | 1, _ => rfl
      | 2, _ => rfl
      | 3, _ => rfl)
    (refine Ga ?_)
    apply Lst_pu
    · apply P_idx (sz := 5)
      focus rfl
      focus rfl
      focus rfl
      focus rfl
      focus rfl
      focus omega
      focus omega
    focus rfl
    rw [Int.toNat_natCast]
    (refine Ga ?_)
    apply Lst_loadS' (hc := hc4)
    focus rfl
    focus rfl
    focus rfl
    focus rfl
    focus rfl
    focus rfl
    unfold pcs
    (refine Ga ?_)
    apply Lst_push (hown := ho) (bytes := 40)
    ((focus constructor); (focus rfl); (focus rfl); (focus rfl); (focus rfl); (focus rfl); (focus rfl); (focus rfl); (focus rfl); (focus rfl); (focus rfl); (focus simp [Value.oneCell']); (focus rfl); (focus rfl); (focus rfl); (focus rfl); (focus omega); (focus omega); (focus omega))
    intro v' A2 ho2 hg _
    have hb2' := Sx.Below.own hbA ho hg (Nat.le_refl _) (by omega)
    obtain ⟨u1, u2, u3, rfl⟩ := own_slice ho2
    (refine Ga ?_)
    refine rndQ_n (α := Nat × Value) (i + 1, .slice u1 u2 u3) ⟨by dsimp only; omega, hb2', ?_⟩ ⟨rfl, rfl, ?_, trivial⟩ (by dsimp only; omega)
    · have hz : A2.ownsRow w.heap.size 37 4 (.slice u1 u2 u3) (i + 1) (((a.es.take (i + 1)).map fun e => pcs e.p).flatten) := by
        rw [hft]
        exact ho2
      exact hz
    · show Value.int .i64 ((i : Int) + 1) = Value.int .i64 ((i + 1 : Nat) : Int)
      rw [Int.natCast_add]
      rfl
  · obtain rfl : i = a.es.length := by omega
    rw [List.take_of_length_le (Nat.le_refl _)] at ho
    have hP : Prs A out (a.es.map (·.p)) := by
      unfold Prs
      rw [List.map_map]
      exact SRows.of_own ho (fun l hl => by
        obtain ⟨e, _, rfl⟩ := List.mem_map.1 hl
        rfl) (by omega)
    obtain ⟨o1, o2, o3, rfl⟩ := own_slice ho
    (refine Ga ?_)
    (apply Lst_call; (focus rfl); (focus rfl))
    refine (r_Write _ (a.es.map (·.p)) (fun q hq => by
      obtain ⟨e, he, rfl⟩ := List.mem_map.1 hq
      exact hf e he) hl A hP).mono ?_
    rintro u A2 ⟨hu, hb2⟩
    have hb3 := hbA.trans (hb2.mono sA)
    have hu2 := hu.ints
    obtain ⟨u1, u2, u3, rfl⟩ := own_slice hu
    (refine Ga ?_)
    (apply retQ1; (focus rfl))
    exact ⟨hu2, h.below hb3, hb3⟩
set_option maxHeartbeats 2000000 in
theorem h_Spoil (B nn : Nat) (v : Value) (xs : List Value) (w : World) (h : w.ownsRow B 5 1 v nn xs) (hn : nn ≤ 100000000) (hx : ∀ x ∈ xs, ∃ z, x = .int .u8 z) : Does Try.prog 20 #[v] w fun u w' => u = .tuple #[] ∧ Below B w w' ∧ Keep8 w w' := by
  refine Does_of (args := [v]) Try.func20 (by kernel_rfl) rfl rfl rfl rfl rfl ?_
  obtain ⟨a1, c1, rfl, _⟩ := own_form h
  (refine Ga ?_)
  refine W_loop (α := Nat × List Value) (fun y => [(0, .slice a1 nn c1), (2, .int .i64 (y.1 : Int))])
    (fun y A => y.1 ≤ nn ∧ A.ownsRow B 5 1 (.slice a1 nn c1) nn y.2 ∧ (∀ x ∈ y.2, ∃ z, x = .int .u8 z) ∧ Below B w A ∧ Keep8 w A) (fun y _ => nn - y.1) (0, xs)
    ⟨Nat.zero_le _, h, hx, Below.refl _ _, fun _ _ _ h _ => h⟩ ⟨rfl, rfl, trivial⟩ ?_
  clear h hx xs
  rintro J ⟨i, xs⟩ A ⟨hi, ho, hx, hb, hk⟩
  dsimp only at hi ho hx ⊢
  have hxl : xs.length = nn := by have := ho.1; omega
  by_cases hil : i < nn
  · obtain ⟨g, cap, cs, e, hcap, hBg, hblk, hkl, hset⟩ := own_set ho (k := i) (by omega)
    obtain ⟨b, c, e2, hcell⟩ := own_cells ho (k := i) (by omega)
    cases e
    cases e2
    obtain ⟨z, hz⟩ := hx xs[i] (List.getElem_mem (by omega))
    rw [hz] at hcell
    have hcell0 : A.cell? ⟨g, 0 + i, none⟩ = some (.int .u8 z) := by rw [Nat.zero_add]; exact hcell
    (refine Ga ?_)
    have hput := hset (.int .u8 (bits .xor .u8 z 165))
    have hbP : Below B w (A.putObj g (.cells (cs.set i (.int .u8 (bits .xor .u8 z 165))).toArray 5)) := Below.put hb hBg _
    have hkP : Keep8 w (A.putObj g (.cells (cs.set i (.int .u8 (bits .xor .u8 z 165))).toArray 5)) := by
      intro b off v hv hne
      have h1 := hk b off v hv hne
      by_cases hbg : b = g
      · subst hbg
        rw [(Blk.put_same hblk.lt _ _).cell]
        rw [hblk.cell] at h1
        by_cases ho : i = off
        · subst ho
          rw [hblk.cell, h1] at hcell
          exact absurd (Option.some.inj hcell) (hne z)
        · rw [List.getElem?_set_ne ho]
          exact h1
      · rw [← h1]
        unfold World.cell?
        simp only [World.putObj_heap_other hbg]
    apply Lst_storeN (hb := hblk)
    focus rfl
    focus constructor
    focus rfl
    focus rfl
    focus rfl
    focus rfl
    focus omega
    simp only [Nat.zero_add]
    generalize A.putObj g (.cells (cs.set i (.int .u8 (bits .xor .u8 z 165))).toArray 5) = A2 at *
    (refine Ga ?_)
    refine rndQ_n (α := Nat × List Value) (i + 1, xs.set i (.int .u8 (bits .xor .u8 z 165))) ⟨by dsimp only; omega, hput, fun x hxm => ?_, hbP, hkP⟩ ⟨rfl, ?_, trivial⟩ (by dsimp only; omega)
    · rcases List.mem_or_eq_of_mem_set hxm with h | h
      · exact hx x h
      · exact ⟨_, h⟩
    · show Value.int .i64 ((i : Int) + 1) = Value.int .i64 ((i + 1 : Nat) : Int)
      rw [Int.natCast_add]
      rfl
  · (refine Ga ?_)
    apply retQ0n
    exact ⟨rfl, hb, hk⟩
end Aw
namespace Aw
open Go Go.RowKit Sx Wire
open So (cutQ_p rndQ_p)
/-- An entry that was read, or told. -/
def Pr.Sm (p : Pr) : Prop := p.c ≤ 9007199254740991 ∧ p.k ≤ 9007199254740991 ∧ p.s.size ≤ 256
theorem Pr.Sm.fit {p : Pr} (h : p.Sm) : p.Fit := ⟨by have := h.1; omega, by have := h.2.1; omega, by have := h.2.2; omega⟩
theorem rdP_sm {last : Nat} {s s' : Option (List UInt8)} {p : Pr} (h : rdP last s = some (p, s')) : p.Sm := by
  unfold rdP at h
  have h1 := mUint_le 9007199254740991 s
  have h2 := mUint_le 9007199254740991 (mUint 9007199254740991 s).2
  have h3 := (mText_len (m := 256) (s := (mByte (mUint 9007199254740991 (mUint 9007199254740991 s).2).2).2)).1
  dsimp only at h
  split at h
  · cases h
  · split at h
    · cases h
    · have e := (Prod.mk.inj (Option.some.inj h)).1
      subst e
      refine ⟨h1, h2, ?_⟩
      show (mText 256 _).1.toArray.size ≤ 256
      rw [List.size_toArray]
      exact h3
theorem rdN_sm : ∀ {n last : Nat} {s s' : Option (List UInt8)} {ps : List Pr}, rdN n last s = some (ps, s') → ∀ p ∈ ps, p.Sm
  | 0, _, s, s', ps, h => by cases h; intro p hp; cases hp
  | n + 1, _, none, s', ps, h => by cases h; intro p hp; cases hp
  | n + 1, last, some l, s', ps, h => by
    unfold rdN at h
    cases hp : rdP last (some l) with
    | none => rw [hp] at h; cases h
    | some x =>
      obtain ⟨p, s1⟩ := x
      rw [hp] at h
      dsimp only at h
      cases hr : rdN n p.c s1 with
      | none => rw [hr] at h; cases h
      | some y =>
        obtain ⟨ps1, s2⟩ := y
        rw [hr] at h
        cases h
        intro q hq
        rcases List.mem_cons.1 hq with rfl | hq
        · exact rdP_sm hp
        · exact rdN_sm hr q hq
theorem rdL_sm {b : List UInt8} {ps : List Pr} (h : rdL b = some ps) : ∀ p ∈ ps, p.Sm := by
  unfold rdL at h
  dsimp only at h
  cases hr : rdN (mUint b.length (some b)).1 0 (mUint b.length (some b)).2 with
  | none => rw [hr] at h; cases h
  | some y =>
    obtain ⟨ps1, s2⟩ := y
    rw [hr] at h
    match s2 with
    | none => cases h
    | some [] => cases h; exact rdN_sm hr
    | some (_ :: _) => cases h
def Awr.Sm (a : Awr) : Prop := ∀ e ∈ a.es, e.p.Sm
theorem take1_sm {a : Awr} {p : Pr} (h : a.Sm) (hp : p.Sm) : (a.take1 p).1.Sm := by
  unfold Awr.take1
  split
  · exact h
  · split
    · exact h
    · intro e he
      rcases ins_mem he with rfl | he
      · exact hp
      · exact h e he
theorem takeL_sm : ∀ {l : List Pr} {a : Awr}, a.Sm → (∀ p ∈ l, p.Sm) → (a.takeL l).1.Sm ∧ (a.takeL l).1.es.length ≤ a.es.length + l.length
  | [], a, h, _ => ⟨h, Nat.le_refl _⟩
  | p :: l, a, h, hl => by
    obtain ⟨h1, h2⟩ := takeL_sm (l := l) (take1_sm h (hl p (by simp))) fun q hq => hl q (by simp [hq])
    have := take1_len a p
    refine ⟨h1, ?_⟩
    show ((a.take1 p).1.takeL l).1.es.length ≤ _
    rw [List.length_cons]
    omega
theorem take_sm {a : Awr} (h : a.Sm) (b : List UInt8) : (a.take b).1.Sm ∧ (a.take b).1.es.length ≤ a.es.length + b.length := by
  unfold Awr.take
  cases hr : rdL b with
  | none => exact ⟨h, Nat.le_add_right _ _⟩
  | some l =>
    have h1 := takeL_sm h (rdL_sm hr)
    have h2 := rdL_len hr
    exact ⟨h1.1, by have := h1.2; show (a.takeL l).1.es.length ≤ _; omega⟩
theorem wrs_sm : ∀ {l : List Pr}, (∀ p ∈ l, p.Sm) → (wrs l).length ≤ 300 * l.length
  | [], _ => Nat.le_refl _
  | p :: l, h => by
    have ih := wrs_sm (l := l) fun q hq => h q (by simp [hq])
    have h1 := wr1_len p (h p (by simp)).fit
    have h4 := (h p (by simp)).2.2
    have h2 := uvarint_pos' 1
    have h3 : (wrL [p]).length = (Lib.uvarint 1).length + (wrP p).length := by
      unfold wrL wrs wrs
      rw [List.length_append, List.append_nil]
      rfl
    show (wrP p ++ wrs l).length ≤ _
    rw [List.length_append, List.length_cons]
    omega
theorem wrL_sm {l : List Pr} (h : ∀ p ∈ l, p.Sm) (hl : l.length ≤ 3300) : (wrL l).length ≤ 100000000 := by
  have h1 := wrs_sm h
  have h2 := Lib.uvarint_length64 (show l.length < 18446744073709551616 by omega)
  unfold wrL
  rw [List.length_append]
  omega
theorem Awr.Sm.all {a : Awr} (h : a.Sm) : ∀ p ∈ a.es.map (·.p), p.Sm := by
  intro p hp
  obtain ⟨e, he, rfl⟩ := List.mem_map.1 hp
  exact h e he
/-- What the program's one knows, and the document's. -/
structure Pair (w0 w : World) (p mb q : Nat) (a : Awr) : Prop where
  A : AwAt w p mb a
  R : RAt w q a
  n1 : q ≠ p
  n2 : q ≠ mb
  lo : w0.heap.size ≤ p ∧ w0.heap.size ≤ mb ∧ w0.heap.size ≤ q
  bel : Below w0.heap.size w0 w
theorem Pair.belA {w0 w w' : World} {p mb q : Nat} {a : Awr} (h : Pair w0 w p mb q a) (hc : Chg [p, mb] w w') : Below w0.heap.size w0 w' :=
  h.bel.trans (hc.below (by
    intro x hx
    simp only [List.mem_cons, List.not_mem_nil, or_false] at hx
    rcases hx with rfl | rfl
    · exact h.lo.1
    · exact h.lo.2.1) h.bel.size)
theorem Pair.belR {w0 w w' : World} {p mb q : Nat} {a : Awr} (h : Pair w0 w p mb q a) (hc : Chg [q] w w') : Below w0.heap.size w0 w' :=
  h.bel.trans (hc.below (by
    intro x hx
    simp only [List.mem_cons, List.not_mem_nil, or_false] at hx
    subst hx
    exact h.lo.2.2) h.bel.size)
theorem Pair.rchg {w0 w w' : World} {p mb q : Nat} {a : Awr} (h : Pair w0 w p mb q a) (hc : Chg [p, mb] w w') : RAt w' q a :=
  h.R.chg hc (by simp [h.n1, h.n2]) h.A.ns
theorem Pair.below {w0 w w' : World} {p mb q : Nat} {a : Awr} (h : Pair w0 w p mb q a) (hb : Below w.heap.size w w') : Pair w0 w' p mb q a :=
  ⟨h.A.below hb, h.R.below hb, h.n1, h.n2, h.lo, h.bel.trans (hb.mono h.bel.size)⟩
/-- Both go on alike. -/
theorem Pair.step {w0 w w1 w2 : World} {p mb q : Nat} {a a' : Awr} (h : Pair w0 w p mb q a) (hA : AwAt w1 p mb a') (hc : Chg [p, mb] w w1) (hR : RAt w2 q a') (hc2 : Chg [q] w1 w2) : Pair w0 w2 p mb q a' :=
  ⟨hA.chg hc2 (by simp [Ne.symm h.n1]) (by simp [Ne.symm h.n2]), hR, h.n1, h.n2, h.lo, (h.belA hc).trans (hc2.below (by
    intro x hx
    simp only [List.mem_cons, List.not_mem_nil, or_false] at hx
    subst hx
    exact h.lo.2.2) (h.belA hc).size)⟩
end Aw
end Go.Proofs.Ytoljcnlmockpcaa
