/- The functions of a sequence, as its tree has them. -/
import Derived.Test.YtmammcgdjjldbaaSqY
namespace Go.Proofs.Ytmammcgdjjldbaa
set_option maxRecDepth 100000
namespace Sq
open Go Go.RowKit Sx Tl
section rules
variable {P : Program} {rd : Option Nat} {n : Nat} {ops : Array Oper} {Q : Post} {rest : List Oper} {F : Fr} {ds : List Deferred} {w : World} {ty : TypeId} {pos : String} {after : Array Edge}
theorem Lst_makemap {d : Nat} {t : TypeId} (hd : Nat.blt d n = true) (h : Lst P rd n ops Q rest (upd F d (.map (some w.heap.size))) ds (w.alloc (.map #[] 0))) : Lst P rd n ops Q (⟨some d, .makeMap t none, ty, pos, after, none⟩ :: rest) F ds w :=
  Lst_value rfl (by simp [execOp, Instr.makeMap]) hd h
end rules
attribute [local irreducible] W Lst Qst Pu seqQ blkQ rndQ cutQ retQ Does Enters IntKind.wrap bits sb World.alloc World.putObj Blk
theorem c_Insert (u : Un) (p : Nat) (F : Nat → Prop) (t : Fo) (w : World) (hs : t.sz ≤ 1000000000 - 1) (h : SqAt w p F t) :
    Does Try.prog 15 #[.pointer (some ⟨p, 0, none⟩), .agg (ucs u).toArray] w fun v w' => v = .bool (Fo.may t u) ∧ ∃ F', SqAt w' p F' (Fo.insert t u).1 ∧ Turn F F' w w' := by
  refine Does_of (args := [.pointer (some ⟨p, 0, none⟩), .agg (ucs u).toArray]) Try.func15 (by kernel_rfl) rfl rfl rfl rfl rfl ?_
  have hbX : Below w.heap.size w (w.alloc (.cells (ucs u).toArray 34)) := Bel
  have kX : Blk (w.alloc (.cells (ucs u).toArray 34)) w.heap.size (ucs u) 34 := (by (repeat (first | assumption | (apply Blk.below (hb := hb1); rotate_left; (focus ((try simp only [Sx.sizes]); omega)); rotate_right) | (apply Blk.below (hb := hb2); rotate_left; (focus ((try simp only [Sx.sizes]); omega)); rotate_right) | (apply Blk.below (hb := hb3); rotate_left; (focus ((try simp only [Sx.sizes]); omega)); rotate_right) | (apply Blk.below (hb := hb4); rotate_left; (focus ((try simp only [Sx.sizes]); omega)); rotate_right) | (apply Blk.below (hb := hb5); rotate_left; (focus ((try simp only [Sx.sizes]); omega)); rotate_right) | (apply Blk.below (hb := hb6); rotate_left; (focus ((try simp only [Sx.sizes]); omega)); rotate_right) | (apply Blk.below (hb := hb7); rotate_left; (focus ((try simp only [Sx.sizes]); omega)); rotate_right) | (apply Blk.below (hb := hb8); rotate_left; (focus ((try simp only [Sx.sizes]); omega)); rotate_right) | (apply Blk.below (hb := hb9); rotate_left; (focus ((try simp only [Sx.sizes]); omega)); rotate_right) | exact Blk.newE (by first | rfl | ((try simp only [Sx.sizes]); first | done | omega)) _ _ | exact Blk.put_same (by (try simp only [Sx.sizes]); first | done | omega) _ _ | (apply Blk.put_ne; (focus omega)) | apply Blk.alloc | apply Blk.drew)); done)
  have hX := h.below hbX
  obtain ⟨E, ρ, hp, hF, hfar, hc, hft, hg⟩ := hX
  have hfw : E.tg w.heap.size = .other := by
    have h1 : ¬ F w.heap.size := fun hf => by have := h.lt hf; omega
    have h2 := fun hne => h1 ((hF _).2 hne)
    exact Classical.byContradiction h2
  have hlen : t.ids.length ≤ 1000000000 - 1 := by rw [Fo.ids_len]; exact hs
  have hN : ∀ j ∈ t.ids, j ∈ t.ids ∧ (ρ j).u.id = j := fun j hj => ⟨hj, fits_u hft j hj⟩
  (refine Ga ?_)
  (apply Lst_call; (focus rfl); (focus rfl))
  have hm := c_may u hfar (fun _ => Iff.rfl) hN hg.nd (by omega) hc
  rw [hp] at hm
  refine hm.mono ?_
  clear hm
  rintro v w2 ⟨rfl, h2, hk2⟩
  rw [mayV_eq]
  have k2 := hk2.blk kX (by rw [hfw]; simp)
  have hT2 : Turn F F w w2 := (Turn.of hbX).trans (.kept hF hk2 fun t ht => by rcases ht with rfl | rfl <;> simp)
  have hfar2 : ∀ g, w2.heap.size ≤ g → E.tg g = .other := fun g hg => hfar g (Nat.le_trans hk2.size hg)
  clear kX hc hfar hbX hk2
  cases hmay : Fo.may t u with
  | false =>
    have hi : (Fo.insert t u).1 = t := by unfold Fo.insert; rw [hmay]; rfl
    (refine Ga ?_)
    (apply retQ1; (focus rfl))
    rw [hi]
    exact ⟨rfl, F, ⟨E, ρ, hp, hF, hfar2, h2, hft, hg⟩, hT2⟩
  | true =>
    have hM := Fo.may_iff.1 hmay
    have hi : (Fo.insert t u).1 = Fo.put t u := by unfold Fo.insert; rw [hmay]; rfl
    obtain ⟨rc, c, V, P, hP⟩ := puts hg hft hM.toCan
    unfold ucs at k2
    (refine Ga ?_)
    (apply Lst_call; (focus rfl); (focus rfl))
    have hput := c_put u rc c V P hfar2 (fits_clo hg.nd hft) (fits_sizes hg.nd hft hs) (fits_selfs hg.nd hft) hM.new (fun _ => Iff.rfl) hN hg.nd hlen h2 hP.hrc hP.hW hP.hch hP.hP hP.hPl
    rw [hp] at hput
    refine hput.mono ?_
    rintro v w3 ⟨rfl, E', hE1, hE2, hE3, hk3, h3⟩
    (refine Ga ?_)
    (apply retQ1; (focus rfl))
    rw [hi]
    refine ⟨rfl, fun g => E'.tg g ≠ .other, ⟨E', _, hE1, fun _ => Iff.rfl, hE3, ?_, hP.fits, hg.put hM.toCan⟩, hT2.trans ⟨hk3.os, hk3.tape, hk3.output, hk3.size, fun g hg => ?_, fun g hg hn => hk3.block g hg fun h => hn ((hF g).2 h)⟩⟩
    · rw [← hP.ids, ← hP.tips]
      refine h3.congr (fun j hj => ?_) (fun j => ?_)
      · rw [hP.ids] at hj
        exact List.mem_cons.2 ((Fo.put_ids hg.nd j).1 hj)
      · rw [hP.ids, Fo.put_ids hg.nd, List.mem_cons]
    · rw [hE2 g hg, hF]
/-- One that has no units. -/
theorem c_New (w : World) : Does Try.prog 14 #[] w fun v w' => ∃ p F, v = .pointer (some ⟨p, 0, none⟩) ∧ SqAt w' p F .nil ∧ (∀ g, F g → w.heap.size ≤ g) ∧ Below w.heap.size w w' := by
  refine Does_of (args := []) Try.func14 (by kernel_rfl) rfl rfl rfl rfl rfl ?_
  (refine Ga ?_)
  apply Lst_makemap
  focus rfl
  (refine Ga ?_)
  apply Lst_makemap
  focus rfl
  (refine Ga ?_)
  obtain ⟨X, hXe⟩ : ∃ X, ((w.alloc (.map #[] 0)).alloc (.map #[] 0)).alloc (.cells [.map (some w.heap.size), .slice none 0 0, .slice none 0 0, .map (some (w.heap.size + 1)), .bool true].toArray 71) = X := ⟨_, rfl⟩
  have hbX : Below w.heap.size w X := by rw [← hXe]; exact Bel
  have hsX : X.heap.size = w.heap.size + 3 := by rw [← hXe]; simp only [Sx.sizes]
  have h1 : SxG.MpAt idv X w.heap.size RP [] := by
    rw [← hXe]
    refine (SxG.MpAt.new (ky := idv) w RP).mono ?_ (fun _ _ h => h)
    exact (Below.heap_alloc _ _ _ (by simp only [World.size_alloc]; omega)).trans (Below.heap_alloc _ _ _ (by simp))
  have h2 : SxG.MpAt idv X (w.heap.size + 1) RI [] := by
    rw [← hXe]
    have := (SxG.MpAt.new (ky := idv) (w.alloc (.map #[] 0)) RI)
    rw [World.size_alloc] at this
    exact this.mono (Below.heap_alloc _ _ _ (by simp)) (fun _ _ h => h)
  have h3 : Blk X (w.heap.size + 2) [.map (some w.heap.size), .slice none 0 0, .slice none 0 0, .map (some (w.heap.size + 1)), .bool true] 71 := by rw [← hXe]; exact (by (repeat (first | assumption | (apply Blk.below (hb := hb1); rotate_left; (focus ((try simp only [Sx.sizes]); omega)); rotate_right) | (apply Blk.below (hb := hb2); rotate_left; (focus ((try simp only [Sx.sizes]); omega)); rotate_right) | (apply Blk.below (hb := hb3); rotate_left; (focus ((try simp only [Sx.sizes]); omega)); rotate_right) | (apply Blk.below (hb := hb4); rotate_left; (focus ((try simp only [Sx.sizes]); omega)); rotate_right) | (apply Blk.below (hb := hb5); rotate_left; (focus ((try simp only [Sx.sizes]); omega)); rotate_right) | (apply Blk.below (hb := hb6); rotate_left; (focus ((try simp only [Sx.sizes]); omega)); rotate_right) | (apply Blk.below (hb := hb7); rotate_left; (focus ((try simp only [Sx.sizes]); omega)); rotate_right) | (apply Blk.below (hb := hb8); rotate_left; (focus ((try simp only [Sx.sizes]); omega)); rotate_right) | (apply Blk.below (hb := hb9); rotate_left; (focus ((try simp only [Sx.sizes]); omega)); rotate_right) | exact Blk.newE (by first | rfl | ((try simp only [Sx.sizes]); first | done | omega)) _ _ | exact Blk.put_same (by (try simp only [Sx.sizes]); first | done | omega) _ _ | (apply Blk.put_ne; (focus omega)) | apply Blk.alloc | apply Blk.drew)); done)
  (apply retQ1; (focus rfl))
  refine ⟨w.heap.size + 2, fun g => (if g = w.heap.size then Tag.all else if g = w.heap.size + 1 then Tag.at' else if g = w.heap.size + 2 then Tag.seq else Tag.other) ≠ .other, ?_, ?_, fun g hg => ?_, ?_⟩
  · simp only [World.size_alloc]
    rfl
  · have e : ((w.alloc (.map #[] 0)).alloc (.map #[] 0)).alloc (.cells [.map (some w.heap.size), .slice none 0 0, .slice none 0 0, .map (some (w.alloc (.map #[] 0)).heap.size), .bool true].toArray 71) = X := by rw [World.size_alloc]; exact hXe
    refine cast (congrArg (fun z => SqAt z _ _ _) e.symm) ?_
    refine ⟨⟨w.heap.size + 2, w.heap.size, w.heap.size + 1, fun _ => 0, fun g => if g = w.heap.size then .all else if g = w.heap.size + 1 then .at' else if g = w.heap.size + 2 then .seq else .other⟩, fun k => ⟨default, none, [], [], 0⟩, rfl, fun _ => Iff.rfl, fun g hg => ?_, ⟨?_, ?_, ?_, ⟨.slice none 0 0, .slice none 0 0, true, [], h3, ⟨⟨rfl, .inl ⟨rfl, rfl⟩⟩, fun g hg => by cases hg⟩, ⟨⟨rfl, .inl ⟨rfl, rfl⟩⟩, fun g hg => by cases hg⟩, h2, fun _ k hk => by cases hk⟩, ⟨[], h1, fun k => rfl⟩, fun k hk => by cases hk⟩, trivial, Fo.Good.nil⟩
    · dsimp only
      rw [if_neg (by omega), if_neg (by omega), if_neg (by omega)]
    · dsimp only
      rw [if_neg (by omega), if_neg (by omega), if_pos rfl]
    · dsimp only
      rw [if_pos rfl]
    · dsimp only
      rw [if_neg (by omega), if_pos rfl]
  · dsimp only at hg
    rcases Nat.lt_or_ge g w.heap.size with h | h
    · rw [if_neg (by omega), if_neg (by omega), if_neg (by omega)] at hg
      exact absurd rfl hg
    · exact h
  · exact Bel
theorem fits_ord {ρ : Id → Rec} {t : Fo} (hF : Fo.Fits ρ none t) (n : Nat) (hn : n < t.sz) : (ρ (t.ids.getD n (0, 0))).u = t.flat.getD n default := by
  have h1 : n < t.flat.length := hn
  have h2 : n < t.ids.length := by rw [Fo.ids_len]; exact hn
  rw [List.getD_eq_getElem?_getD, List.getD_eq_getElem?_getD, List.getElem?_eq_getElem h1, List.getElem?_eq_getElem h2]
  have h3 : t.ids[n] = (t.flat[n]).id := by simp only [Fo.ids, List.getElem_map]
  show (ρ t.ids[n]).u = t.flat[n]
  rw [h3]
  exact hF.rec_u _ (List.getElem_mem h1)
theorem s_Len {p : Nat} {F : Nat → Prop} {t : Fo} {w : World} (h : SqAt w p F t) : Does Try.prog 17 #[.pointer (some ⟨p, 0, none⟩)] w fun v w' => v = .int .i64 (t.sz : Int) ∧ w = w' := by
  obtain ⟨E, ρ, rfl, hF, hfar, hc, hft, hg⟩ := h
  have := c_Len hc
  rwa [Fo.ids_len] at this
theorem s_Find {p : Nat} {F : Nat → Prop} {t : Fo} {w : World} (k : Id) (hs : t.sz ≤ 1000000000) (h : SqAt w p F t) : Does Try.prog 16 #[.pointer (some ⟨p, 0, none⟩), idv k] w fun v w' => v = .int .i64 (if k ∈ t.ids then (t.pos k : Int) else -1) ∧ SqAt w' p F t ∧ Turn F F w w' := by
  obtain ⟨E, ρ, rfl, hF, hfar, hc, hft, hg⟩ := h
  refine (c_Find k (fun _ => Iff.rfl) (fun j hj => ⟨hj, fits_u hft j hj⟩) hg.nd (by rw [Fo.ids_len]; exact hs) hc).mono ?_
  rintro v w' ⟨rfl, h2, hk⟩
  exact ⟨rfl, ⟨E, ρ, rfl, hF, fun g hg => hfar g (Nat.le_trans hk.size hg), h2, hft, hg⟩, .kept hF hk fun t ht => by rcases ht with rfl | rfl <;> simp⟩
theorem s_At {p : Nat} {F : Nat → Prop} {t : Fo} {w : World} (i : Int) (h : SqAt w p F t) : Does Try.prog 18 #[.pointer (some ⟨p, 0, none⟩), .int .i64 i] w fun v w' =>
    (v = if 0 ≤ i ∧ i < t.sz then .tuple #[.agg (ucs (t.flat.getD i.toNat default)).toArray, .bool true] else .tuple #[.agg (ucs ⟨(0, 0), (0, 0), (0, 0)⟩).toArray, .bool false]) ∧ Below w.heap.size w w' := by
  obtain ⟨E, ρ, rfl, hF, hfar, hc, hft, hg⟩ := h
  refine (c_At i (fun j hj => ⟨hj, fits_u hft j hj⟩) hc).mono ?_
  rintro v w' ⟨rfl, hb⟩
  refine ⟨?_, hb⟩
  rw [Fo.ids_len]
  by_cases hi : 0 ≤ i ∧ i < t.sz
  · rw [if_pos hi, if_pos hi, fits_ord hft _ (by omega)]
  · rw [if_neg hi, if_neg hi]
end Sq
end Go.Proofs.Ytmammcgdjjldbaa
