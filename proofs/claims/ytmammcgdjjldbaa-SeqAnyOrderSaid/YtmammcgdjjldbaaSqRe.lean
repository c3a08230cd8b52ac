/- The reference: walk. -/
import Derived.Test.YtmammcgdjjldbaaSqRd
namespace Go.Proofs.Ytmammcgdjjldbaa
set_option maxRecDepth 100000
namespace Sq
open Go Go.RowKit Sx Tl
variable {w : World} {p : Nat} {F : Nat → Prop} {N rt ord : List Id} {ρ : Id → Rec}
/-- What is read of it, with whose blocks the rows are. -/
theorem RfAt.viewL (h : RfAt w p F N ρ rt ord) : ∃ a c a1 c1 a2 c2, Blk w p [.slice a N.length c, .slice a1 rt.length c1, .slice a2 ord.length c2] 59 ∧ rt.length ≤ c1 ∧ Lz w F p (.slice a1 rt.length c1) (rt.map (ix N)) ∧ Lz w F p (.slice a2 ord.length c2) (ord.map (ix N)) ∧
    ∀ k ∈ N, ∃ g b b1 d1 b2 d2, a = some ⟨g, 0, none⟩ ∧ (∀ j u, (rcs N (ρ k) b (.slice b1 (ρ k).L.length d1) (.slice b2 (ρ k).R.length d2))[j]? = some u → w.cell? ⟨g, N.idxOf k * 10 + j, none⟩ = some u) ∧ Lz w F p (.slice b1 (ρ k).L.length d1) ((ρ k).L.map (ix N)) ∧ Lz w F p (.slice b2 (ρ k).R.length d2) ((ρ k).R.map (ix N)) := by
  obtain ⟨vl, vm, vo, cs, h1, h2, h3, h4, h5, h6, h7, h8⟩ := h.ex
  have up : ∀ {v : Value} {zs : List Int}, Lz w (fun g => F g ∧ vl.ownBlock ≠ some g) p v zs → Lz w F p v zs := fun h => h.kept (Nat.le_refl _) (fun _ h => h.1) fun _ _ _ => rfl
  have h6' := up h6
  have h7' := up h7
  obtain ⟨a, c, rfl, hc⟩ := own_form h2
  obtain ⟨a1, c1, rfl, hc1⟩ := h6.cap
  obtain ⟨a2, c2, rfl, hc2⟩ := h7.cap
  simp only [List.length_map] at h1 h6' h7' hc1
  refine ⟨a, c, a1, c1, a2, c2, h1, hc1, h6', h7', fun k hk => ?_⟩
  obtain ⟨b, sl, sr, h9, h10, h11⟩ := h8 k hk
  have h10' := up h10
  have h11' := up h11
  obtain ⟨b1, d1, rfl, hd1⟩ := h10.cap
  obtain ⟨b2, d2, rfl, hd2⟩ := h11.cap
  simp only [List.length_map] at h9 h10' h11'
  have hs := SRows.of_own h2 h5 (by decide)
  have hi : N.idxOf k < cs.length := by rw [h4]; exact List.idxOf_lt_length_iff.2 hk
  obtain ⟨g, off, cap, hf | ⟨_, hf⟩, hr⟩ := hs
  · injection hf with e5 e6 e7
    have hoff : off = 0 := by
      rcases h2.2 with ⟨hv, _⟩ | ⟨g', cap', cur, hv, _⟩
      · rw [e5] at hv; cases hv
      · rw [e5] at hv; cases hv; rfl
    subst hoff
    subst e5
    refine ⟨g, b, b1, d1, b2, d2, rfl, fun j u hu => ?_, h10', h11'⟩
    have := (hr _ hi).2 j u (by rw [List.getElem?_eq_getElem hi] at h9; rw [Option.some.inj h9]; exact hu)
    rwa [Nat.zero_add] at this
  · rw [hf] at hi
    exact absurd hi (Nat.not_lt_zero _)
theorem Lz.grown {w w' : World} {v : Value} {zs : List Int} (h : Lz w F p v zs) (hF : ∀ g, F g → g < w.heap.size) (hb : Grown w w') : Lz w' F p v zs := h.kept hb.size (fun _ h => h) fun g hg _ => hb.block g (hF g hg)
theorem Lz.belowB {w w' : World} {B : Nat} {v : Value} {zs : List Int} (h : Lz w F p v zs) (hF : ∀ g, F g → g < B) (hb : Below B w w') : Lz w' F p v zs := h.kept hb.size (fun _ h => h) fun g hg _ => hb.block g (hF g hg)
attribute [local irreducible] W Lst Qst Pu seqQ blkQ rndQ cutQ retQ Does Enters IntKind.wrap bits sb World.alloc World.putObj Blk
theorem c_walk (B : Nat) (hFB : ∀ g, F g → g < B) : ∀ (n : Nat) (x : Fo) (q : Option Id) (a : Option Addr) (c : Nat) (v : Value) (zs : List Int) (w : World), x.sz ≤ n → Fo.Fits ρ q x → (∀ j ∈ x.ids, j ∈ N) → B ≤ w.heap.size → Lz w F p (.slice a x.tips.length c) (x.tips.map (ix N)) → OwnZ B w v zs → zs.length + x.sz ≤ 1000000000 → RfAt w p F N ρ rt ord →
    Does Try.prog 44 #[.pointer (some ⟨p, 0, none⟩), .slice a x.tips.length c, v] w fun v' w' => OwnZ B w' v' (zs ++ x.ids.map (ix N)) ∧ Below B w w' := by
  intro n
  induction n using Nat.strongRecOn with
  | _ n ih =>
  intro x q a c v zs w hx hF hN hB hz ho hsz h
  refine Does_of (args := [.pointer (some ⟨p, 0, none⟩), .slice a x.tips.length c, v]) Try.func44 (by kernel_rfl) rfl rfl rfl rfl rfl ?_
  (refine Ga ?_)
  refine W_loop (α := Nat × Fo × Value × List Int) (fun y => [(0, .pointer (some ⟨p, 0, none⟩)), (1, .slice a x.tips.length c), (2, y.2.2.1), (7, .int .i64 (y.1 : Int))])
    (fun y A => Fo.Fits ρ q y.2.1 ∧ y.2.1.tips = x.tips.drop y.1 ∧ y.1 + y.2.1.tips.length = x.tips.length ∧ (∀ j ∈ y.2.1.ids, j ∈ N) ∧ y.2.1.sz ≤ n ∧ y.2.2.2 ++ y.2.1.ids.map (ix N) = zs ++ x.ids.map (ix N) ∧ OwnZ B A y.2.2.1 y.2.2.2 ∧ Below B w A) (fun y _ => y.2.1.tips.length) (0, x, v, zs)
    ⟨hF, rfl, Nat.zero_add _, hN, hx, rfl, ho, Below.refl _ _⟩ ⟨rfl, rfl, rfl, rfl, trivial⟩ ?_
  rintro J ⟨i, y, v1, zs1⟩ A ⟨hFy, hty, hil, hNy, hsy, htot, hoA, hbA⟩
  dsimp only at hFy hty hil hNy hsy htot hoA ⊢
  have hA := h.below hbA hFB
  have hzA := hz.belowB hFB hbA
  obtain ⟨x1, x2, x3, rfl⟩ := own_slice hoA
  have htl : zs1.length + y.sz = zs.length + x.sz := by
    have := congrArg List.length htot
    simp only [List.length_append, List.length_map, Fo.ids_len] at this
    exact this
  cases y with
  | nil =>
    have hi : i = x.tips.length := hil
    (refine Ga ?_)
    apply retQ1
    focus rfl
    have : zs1 = zs ++ x.ids.map (ix N) := by rw [← htot]; exact (List.append_nil _).symm
    rw [← this]
    exact ⟨hoA, hbA⟩
  | nd u l r s =>
    obtain ⟨a', c', a1, c1, a2, c2, hS, _, _, _, hnode⟩ := hA.viewL
    have hltp := hS.lt
    have hi : i < x.tips.length := by have : i + (s.tips.length + 1) = x.tips.length := hil; omega
    have hxi : x.tips[i] = u.id := by
      have e := congrArg (fun l => l[0]?) hty
      simp only [List.getElem?_drop, Nat.add_zero] at e
      rw [List.getElem?_eq_getElem hi] at e
      exact (Option.some.inj e).symm
    have hm : ∀ j, j ∈ l.ids ∨ j = u.id ∨ j ∈ r.ids ∨ j ∈ s.ids → j ∈ N := fun j hj => hNy j (by
      rw [Fo.ids_nd]
      simp only [List.mem_append, List.mem_cons]
      rcases hj with h | h | h | h
      · exact .inl (.inl h)
      · exact .inl (.inr (.inl h))
      · exact .inl (.inr (.inr h))
      · exact .inr h)
    have huN := hm u.id (.inr (.inl rfl))
    obtain ⟨g, b, b1, d1, b2, d2, rfl, hcell, hzl, hzr⟩ := hnode u.id huN
    obtain ⟨g2, off, rfl, hci⟩ := hzA.ints.at hi
    rw [ix_map_at hi, hxi] at hci
    unfold ix at hci
    have hg2 : g2 < B := hFB _ (hz.own (by intro e; have := congrArg List.length e; simp only [List.length_map, List.length_nil] at this; omega) g2 off _ _ rfl).1
    have hci0 : w.cell? ⟨g2, off + i, none⟩ = some (.int .i64 (N.idxOf u.id : Int)) := (Below.cell hbA (p := ⟨g2, off + i, none⟩) hg2).symm.trans hci
    have hlt := List.idxOf_lt_length_iff.2 huN
    rw [hFy.1] at hcell hzl hzr
    dsimp only at hcell hzl hzr
    have hcl := hcell 8 _ rfl
    have hcr := hcell 9 _ rfl
    clear hcell hnode
    have hszs : (Fo.nd u l r s).sz = l.sz + 1 + r.sz + s.sz := by
      show (l.flat ++ u :: r.flat ++ s.flat).length = _
      unfold Fo.sz
      simp only [List.length_append, List.length_cons]
      omega
    (refine Ga ?_)
    refine W_draw 13 (Grown A) rfl (by kernel_rfl) (grown_start A) ?_
    (refine Qb ?_)
    apply Qst_loadc
    focus rfl
    focus rfl
    focus rfl
    focus exact fun A9 hA9 => cell_below hA9 hci
    focus rfl
    (refine Qb ?_)
    apply Qst_pu
    · apply P_idxn (j := N.idxOf u.id)
      focus rfl
      focus rfl
      focus rfl
      focus rfl
      focus rfl
      focus exact hlt
    focus rfl
    (refine Qb ?_)
    apply Qst_loadc
    focus rfl
    focus rfl
    focus rfl
    focus exact fun A9 hA9 => cell_below hA9 hcl
    focus rfl
    (refine Qb ?_)
    intro w1 hb1
    have hzl1 := (hzl.grown hA.lt hb1)
    have ho1 := hoA.up hb1
    have h1 := hA.grown hb1
    have bB1 : Below B w w1 := hbA.trans (hb1.mono (Nat.le_trans hB hbA.size))
    (refine Ga ?_)
    (apply Lst_call; (focus rfl); (focus rfl))
    refine (ih (n - 1) (by omega) l (some u.id) b1 d1 _ zs1 w1 (by omega) hFy.2.1 (fun j hj => hm j (.inl hj)) (Nat.le_trans hB bB1.size) hzl1 ho1 (by omega) h1).mono ?_
    rintro v2 w2 ⟨ho2, hb2⟩
    have bB2 := bB1.trans hb2
    obtain ⟨y1, y2, y3, rfl⟩ := own_slice ho2
    have hci2 := (Below.cell bB2 (p := ⟨g2, off + i, none⟩) hg2).trans hci0
    (refine Ga ?_)
    have hl2 : (zs1 ++ l.ids.map (ix N)).length = zs1.length + l.sz := by rw [List.length_append, List.length_map, Fo.ids_len]
    have hs2 := bB2.size
    apply Lst_push (hown := ho2) (bytes := 8)
    ((focus constructor); (focus rfl); (focus rfl); (focus rfl); (focus rfl); (focus rfl); (focus rfl); (focus rfl); (focus rfl); (focus rfl); (focus rfl); (focus simp [Value.oneCell']); (focus rfl); (focus rfl); (focus rfl); (focus rfl); (focus omega); (focus omega); (focus omega))
    intro v3 w3 ho3 hg3 _
    have bB3 : Below B w w3 := Below.own bB2 ho2 hg3 (Nat.le_refl _) (Nat.le_trans hB bB2.size)
    have ho3 : OwnZ B w3 v3 (zs1 ++ l.ids.map (ix N) ++ [ix N u.id]) := by
      unfold OwnZ
      rw [List.length_append, List.map_append]
      exact ho3
    obtain ⟨z1, z2, z3, rfl⟩ := own_slice ho3
    have h3 := h.below bB3 hFB
    clear hS hcl hcr hltp hzl hzr hA hci
    obtain ⟨a', c', a1, c1, a2, c2, hS, _, _, _, hnode⟩ := h3.viewL
    have hltp := hS.lt
    obtain ⟨g, b, b1, d1, b2, d2, rfl, hcell, hzl, hzr⟩ := hnode u.id huN
    rw [hFy.1] at hcell hzl hzr
    dsimp only at hcell hzl hzr
    have hcr3 := hcell 9 _ rfl
    have hci3 := (Below.cell bB3 (p := ⟨g2, off + i, none⟩) hg2).trans hci0
    clear hcell hnode
    (refine Ga ?_)
    refine W_draw 13 (Grown w3) rfl (by kernel_rfl) (grown_start w3) ?_
    (refine Qb ?_)
    apply Qst_loadc
    focus rfl
    focus rfl
    focus rfl
    focus exact fun A9 hA9 => cell_below hA9 hci3
    focus rfl
    (refine Qb ?_)
    apply Qst_pu
    · apply P_idxn (j := N.idxOf u.id)
      focus rfl
      focus rfl
      focus rfl
      focus rfl
      focus rfl
      focus exact hlt
    focus rfl
    (refine Qb ?_)
    apply Qst_loadc
    focus rfl
    focus rfl
    focus rfl
    focus exact fun A9 hA9 => cell_below hA9 hcr3
    focus rfl
    (refine Qb ?_)
    intro w4 hb4
    have hzr4 := (hzr.grown h3.lt hb4)
    have ho4 := ho3.up hb4
    have h4 := h3.grown hb4
    have bB4 : Below B w w4 := bB3.trans (hb4.mono (Nat.le_trans hB bB3.size))
    (refine Ga ?_)
    (apply Lst_call; (focus rfl); (focus rfl))
    refine (ih (n - 1) (by omega) r (some u.id) b2 d2 _ (zs1 ++ l.ids.map (ix N) ++ [ix N u.id]) w4 (by omega) hFy.2.2.1 (fun j hj => hm j (.inr (.inr (.inl hj)))) (Nat.le_trans hB bB4.size) hzr4 ho4 ?_ h4).mono ?_
    · simp only [List.length_append, List.length_map, Fo.ids_len, List.length_singleton]
      omega
    rintro v5 w5 ⟨ho5, hb5⟩
    have bB5 := bB4.trans hb5
    obtain ⟨u1, u2, u3, rfl⟩ := own_slice ho5
    have hxl := tips_le x
    have hlt5 : i + 1 + s.tips.length = x.tips.length := by have : i + (s.tips.length + 1) = x.tips.length := hil; omega
    (refine Ga ?_)
    refine rndQ_n (α := Nat × Fo × Value × List Int) (i + 1, s, .slice u1 u2 u3, zs1 ++ l.ids.map (ix N) ++ [ix N u.id] ++ r.ids.map (ix N)) ⟨hFy.2.2.2, ?_, hlt5, fun j hj => hm j (.inr (.inr (.inr hj))), ?_, ?_, ho5, bB5⟩ ⟨rfl, rfl, rfl, ?_, trivial⟩ ?_
    · rw [← List.drop_drop, ← hty]
      rfl
    · dsimp only
      omega
    · rw [← htot, Fo.ids_nd]
      simp
    · show Value.int .i64 ((i : Int) + 1) = Value.int .i64 ((i + 1 : Nat) : Int)
      rw [Int.natCast_add]
      rfl
    · show s.tips.length < s.tips.length + 1
      omega
end Sq
end Go.Proofs.Ytmammcgdjjldbaa
