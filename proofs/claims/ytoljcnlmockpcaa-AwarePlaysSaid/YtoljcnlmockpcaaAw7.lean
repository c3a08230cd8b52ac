/- Package aware: Take. -/
import Derived.Test.YtoljcnlmockpcaaAw6
namespace Go.Proofs.Ytoljcnlmockpcaa
set_option maxRecDepth 100000
namespace Aw
open Go Go.RowKit Sx Wire
open So (cutQ_p rndQ_p)
/-- One entry taken. -/
def Awr.take1 (a : Awr) (p : Pr) : Awr × Bool :=
  if p.k ≤ a.clock p.c then (a, false) else if p.c = a.client then ({ a with own := p.k }, true) else ({ a with es := ins a.es ⟨p, a.now⟩ }, true)
def Awr.takeL (a : Awr) : List Pr → Awr × Bool
  | [] => (a, false)
  | p :: l => (((a.take1 p).1.takeL l).1, (a.take1 p).2 || ((a.take1 p).1.takeL l).2)
def Awr.take (a : Awr) (b : List UInt8) : Awr × Bool × Int := match rdL b with
  | none => (a, false, 200)
  | some l => ((a.takeL l).1, (a.takeL l).2, 0)
theorem rdN_len : ∀ {n last : Nat} {s : Option (List UInt8)} {ps : List Pr} {s' : Option (List UInt8)}, rdN n last s = some (ps, s') → ps.length ≤ n
  | 0, last, s, ps, s', h => by cases h; exact Nat.le_refl _
  | n + 1, last, none, ps, s', h => by cases h; exact Nat.zero_le _
  | n + 1, last, some l, ps, s', h => by
    unfold rdN at h
    cases hp : rdP last (some l) with
    | none => rw [hp] at h; cases h
    | some x =>
      obtain ⟨p, s1⟩ := x
      rw [hp] at h
      dsimp only at h
      cases hr : rdN n p.c s1 with
      | none => rw [hr] at h; cases h
      | some y =>
        obtain ⟨ps1, s2⟩ := y
        rw [hr] at h
        cases h
        have := rdN_len hr
        simp only [List.length_cons]
        omega
theorem rdL_len {b : List UInt8} {ps : List Pr} (h : rdL b = some ps) : ps.length ≤ b.length := by
  unfold rdL at h
  have h1 := mUint_le b.length (some b)
  generalize mUint b.length (some b) = M at *
  obtain ⟨n, s⟩ := M
  dsimp only at h h1
  cases hr : rdN n 0 s with
  | none => rw [hr] at h; cases h
  | some y =>
    obtain ⟨ps1, s2⟩ := y
    rw [hr] at h
    have := rdN_len hr
    match s2 with
    | none => cases h
    | some [] => cases h; omega
    | some (_ :: _) => cases h
attribute [local irreducible] W Lst Qst Pu seqQ blkQ rndQ cutQ retQ Does Enters IntKind.wrap bits sb World.alloc World.putObj Blk
set_option maxHeartbeats 2000000 in
theorem c_Take (p mb : Nat) (a : Awr) (v : Value) (b : List UInt8) (hl : b.length ≤ 100000000) (w : World) (h : AwAt w p mb a) (hv : Ints w .u8 v (nums b)) :
    Does Try.prog 13 #[.pointer (some ⟨p, 0, none⟩), v] w fun v w' => v = .tuple #[.bool (a.take b).2.1, .int .i64 (a.take b).2.2] ∧ AwAt w' p mb (a.take b).1 ∧ Chg [p, mb] w w' := by
  obtain ⟨v1, v2, rfl⟩ := hv.form
  refine Does_of (args := [.pointer (some ⟨p, 0, none⟩), .slice v1 (nums b).length v2]) Try.func13 (by kernel_rfl) rfl rfl rfl rfl rfl ?_
  have hlt := h.lt
  (refine Ga ?_)
  (apply Lst_call; (focus rfl); (focus rfl))
  refine (c_read _ b hl w hv).mono ?_
  rintro v w1 ⟨hr, hb1⟩
  unfold Awr.take
  cases hrd : rdL b with
  | none =>
    rw [hrd] at hr
    obtain ⟨u, rfl⟩ := hr
    (refine Ga ?_)
    apply retQ2
    focus rfl
    focus rfl
    exact ⟨rfl, h.below hb1, .of hb1⟩
  | some l =>
    rw [hrd] at hr
    obtain ⟨u, rfl, ho⟩ := hr
    obtain ⟨o1, o2, rfl, _⟩ := own_form ho
    have hll := rdL_len hrd
    (refine Ga ?_)
    refine W_loop (α := Nat × Awr × Bool) (fun x => [(0, .pointer (some ⟨p, 0, none⟩)), (8, .bool x.2.2), (18, .slice o1 l.length o2), (19, .int .i64 (l.length : Int)), (20, .int .i64 (x.1 : Int))])
      (fun x A => x.1 ≤ l.length ∧ AwAt A p mb x.2.1 ∧ A.ownsRow w.heap.size 37 4 (.slice o1 l.length o2) l.length (l.map pcs).flatten ∧ Chg [p, mb] w A ∧
        a.takeL l = ((x.2.1.takeL (l.drop x.1)).1, x.2.2 || (x.2.1.takeL (l.drop x.1)).2)) (fun x _ => l.length - x.1) (0, a, false)
      ⟨Nat.zero_le _, h.below hb1, ho, .of hb1, rfl⟩ ⟨rfl, rfl, rfl, rfl, rfl, trivial⟩ ?_
    clear h ho hb1 hrd w1
    rintro J ⟨i, a1, news⟩ A ⟨hi, hA, ho, hc, hG⟩
    dsimp only at hi hA hG ⊢
    have hlA := hA.lt
    have sA := hc.size
    have hinc : Value.int .i64 ((i : Int) + 1) = Value.int .i64 ((i + 1 : Nat) : Int) := by
      rw [Int.natCast_add]
      rfl
    by_cases hil : i < l.length
    · have hP : Prs A (.slice o1 l.length o2) l := SRows.of_own ho (fun l hl => by
        obtain ⟨e, _, rfl⟩ := List.mem_map.1 hl
        rfl) (by omega)
      obtain ⟨b', off, rfl, hbl, hcells⟩ := hP.at hil
      rw [List.drop_eq_getElem_cons hil] at hG
      rw [show a1.takeL (l[i] :: l.drop (i + 1)) = (((a1.take1 l[i]).1.takeL (l.drop (i + 1))).1, (a1.take1 l[i]).2 || ((a1.take1 l[i]).1.takeL (l.drop (i + 1))).2) from rfl] at hG
      dsimp only at hG
      generalize l[i] = q at hcells hG
      (refine Ga ?_)
      apply Lst_pu
      · apply P_idx
        focus rfl
        focus rfl
        focus rfl
        focus rfl
        focus rfl
        focus omega
        focus omega
      focus rfl
      rw [Int.toNat_natCast]
      (refine Ga ?_)
      apply Lst_loadS' (hc := hcells)
      focus rfl
      focus rfl
      focus rfl
      focus rfl
      focus rfl
      focus rfl
      unfold pcs
      (refine Ga ?_)
      have hbX : Below A.heap.size A ((A.alloc (.cells [.int .u64 0, .int .u64 0, .string ⟨#[]⟩, .bool false].toArray 37)).putObj A.heap.size (.cells [.int .u64 (q.c : Int), .int .u64 (q.k : Int), .string q.s, .bool q.g].toArray 37)) := Bel
      have hsX : ((A.alloc (.cells [.int .u64 0, .int .u64 0, .string ⟨#[]⟩, .bool false].toArray 37)).putObj A.heap.size (.cells [.int .u64 (q.c : Int), .int .u64 (q.k : Int), .string q.s, .bool q.g].toArray 37)).heap.size = A.heap.size + 1 := by simp only [Sx.sizes]
      have kX : Blk ((A.alloc (.cells [.int .u64 0, .int .u64 0, .string ⟨#[]⟩, .bool false].toArray 37)).putObj A.heap.size (.cells [.int .u64 (q.c : Int), .int .u64 (q.k : Int), .string q.s, .bool q.g].toArray 37)) A.heap.size [.int .u64 (q.c : Int), .int .u64 (q.k : Int), .string q.s, .bool q.g] 37 := (by (repeat (first | assumption | (apply Blk.below (hb := hb1); rotate_left; (focus ((try simp only [Sx.sizes]); omega)); rotate_right) | (apply Blk.below (hb := hb2); rotate_left; (focus ((try simp only [Sx.sizes]); omega)); rotate_right) | (apply Blk.below (hb := hb3); rotate_left; (focus ((try simp only [Sx.sizes]); omega)); rotate_right) | (apply Blk.below (hb := hb4); rotate_left; (focus ((try simp only [Sx.sizes]); omega)); rotate_right) | (apply Blk.below (hb := hb5); rotate_left; (focus ((try simp only [Sx.sizes]); omega)); rotate_right) | (apply Blk.below (hb := hb6); rotate_left; (focus ((try simp only [Sx.sizes]); omega)); rotate_right) | (apply Blk.below (hb := hb7); rotate_left; (focus ((try simp only [Sx.sizes]); omega)); rotate_right) | (apply Blk.below (hb := hb8); rotate_left; (focus ((try simp only [Sx.sizes]); omega)); rotate_right) | (apply Blk.below (hb := hb9); rotate_left; (focus ((try simp only [Sx.sizes]); omega)); rotate_right) | exact Blk.newE (by first | rfl | ((try simp only [Sx.sizes]); first | done | omega)) _ _ | exact Blk.put_same (by (try simp only [Sx.sizes]); first | done | omega) _ _ | (apply Blk.put_ne; (focus omega)) | apply Blk.alloc | apply Blk.drew)); done)
      generalize ((A.alloc (.cells [.int .u64 0, .int .u64 0, .string ⟨#[]⟩, .bool false].toArray 37)).putObj A.heap.size (.cells [.int .u64 (q.c : Int), .int .u64 (q.k : Int), .string q.s, .bool q.g].toArray 37)) = X at *
      have hX := (hA.below hbX).drew
      have oX := own_drew (own_below ho hbX (Nat.le_refl _))
      have cX := (hc.trans (.of hbX)).drew
      have kX' := kX.drew
      by_cases hk : q.k ≤ a1.clock q.c
      · have ht1 : a1.take1 q = (a1, false) := if_pos hk
        rw [ht1] at hG
        refine W_draws (fun A' => A' = World.drew _) rfl (by kernel_rfl) rfl ?_
        (refine Qf ?_)
        apply Qst_call (.int .u64 (a1.clock q.c : Int))
        focus rfl
        focus rfl
        · rintro _ rfl
          exact (c_Clock p mb q.c a1 _ hX).mono fun v w' h => ⟨h.1, h.2.symm⟩
        (refine Qf ?_)
        rintro _ rfl
        (refine Ga ?_)
        exact rndQ_n (α := Nat × Awr × Bool) (i + 1, a1, news) ⟨by dsimp only; omega, hX, oX, cX, hG⟩ ⟨rfl, rfl, rfl, rfl, hinc, trivial⟩ (by dsimp only; omega)
      refine W_draws (fun A' => A' = World.drew _) rfl (by kernel_rfl) rfl ?_
      (refine Qf ?_)
      apply Qst_call (.int .u64 (a1.clock q.c : Int))
      focus rfl
      focus rfl
      · rintro _ rfl
        exact (c_Clock p mb q.c a1 _ hX).mono fun v w' h => ⟨h.1, h.2.symm⟩
      (refine Qf ?_)
      rintro _ rfl
      have sX' : X.drew.heap.size = A.heap.size + 1 := hsX
      clear kX hbX
      generalize X.drew = Y at *
      have hbY := hX.1
      have hlY := hbY.lt
      (refine Ga ?_)
      have kY := kX'.drew
      have hY := hX.drew
      have oY := own_drew oX
      have cY := cX.drew
      have sY : Y.drew.heap.size = A.heap.size + 1 := sX'
      by_cases hcl : q.c = a1.client
      · have ht1 : a1.take1 q = ({ a1 with own := q.k }, true) := by unfold Awr.take1; rw [if_neg hk, if_pos hcl]
        rw [ht1] at hG
        refine W_draws (fun A' => A' = World.drew _) rfl (by kernel_rfl) rfl ?_
        (refine Qf ?_)
        rintro _ rfl
        clear kX' hX oX cX hbY hlY
        generalize Y.drew = Z at *
        have hbZ := hY.1
        have hlZ := hbZ.lt
        (refine Ga ?_)
        refine rndQ_n (α := Nat × Awr × Bool) (i + 1, { a1 with own := q.k }, true) ⟨by dsimp only; omega, AwAt.cells hY ((Chg.refl _ _).put (by simp) _) (by (repeat (first | assumption | (apply Blk.below (hb := hb1); rotate_left; (focus ((try simp only [Sx.sizes]); omega)); rotate_right) | (apply Blk.below (hb := hb2); rotate_left; (focus ((try simp only [Sx.sizes]); omega)); rotate_right) | (apply Blk.below (hb := hb3); rotate_left; (focus ((try simp only [Sx.sizes]); omega)); rotate_right) | (apply Blk.below (hb := hb4); rotate_left; (focus ((try simp only [Sx.sizes]); omega)); rotate_right) | (apply Blk.below (hb := hb5); rotate_left; (focus ((try simp only [Sx.sizes]); omega)); rotate_right) | (apply Blk.below (hb := hb6); rotate_left; (focus ((try simp only [Sx.sizes]); omega)); rotate_right) | (apply Blk.below (hb := hb7); rotate_left; (focus ((try simp only [Sx.sizes]); omega)); rotate_right) | (apply Blk.below (hb := hb8); rotate_left; (focus ((try simp only [Sx.sizes]); omega)); rotate_right) | (apply Blk.below (hb := hb9); rotate_left; (focus ((try simp only [Sx.sizes]); omega)); rotate_right) | exact Blk.newE (by first | rfl | ((try simp only [Sx.sizes]); first | done | omega)) _ _ | exact Blk.put_same (by (try simp only [Sx.sizes]); first | done | omega) _ _ | (apply Blk.put_ne; (focus omega)) | apply Blk.alloc | apply Blk.drew)); done) rfl, ?_, cY.trans ((Chg.refl _ _).put (by simp) _), ?_⟩ ⟨rfl, rfl, rfl, rfl, hinc, trivial⟩ (by dsimp only; omega)
        · exact own_put oY hlt.1 _
        · rw [hG]
          simp
      · have ht1 : a1.take1 q = ({ a1 with es := ins a1.es ⟨q, a1.now⟩ }, true) := by unfold Awr.take1; rw [if_neg hk, if_neg hcl]
        rw [ht1] at hG
        refine W_draws (fun A' => A' = World.drew _) rfl (by kernel_rfl) rfl ?_
        (refine Qf ?_)
        rintro _ rfl
        clear kX' hX oX cX hbY hlY
        generalize Y.drew = Z at *
        have hbZ := hY.1
        have hlZ := hbZ.lt
        (refine Ga ?_)
        refine W_draw 12 (Grown _) rfl (by kernel_rfl) (grown_start _) ?_
        (refine Qb ?_)
        intro w9 hb9
        have b9 : Below Z.heap.size Z w9 := Sx.Below.after (w := Z) Bel hb9
        have h9 := hY.below b9
        have o9 := own_below oY b9 (Nat.le_refl _)
        obtain ⟨m, hm, hp, _, _⟩ := h9.look
        apply SxU.Lst_mapput (⟨q, a1.now⟩ : En) (hmp := hm)
        focus rfl
        focus rfl
        focus rfl
        focus rfl
        focus rfl
        focus rfl
        intro w10 hmp hch hsz
        have h10 : AwAt w10 p mb { a1 with es := ins a1.es ⟨q, a1.now⟩ } := h9.put (e := ⟨q, a1.now⟩) hp hmp hch
        (refine Ga ?_)
        refine rndQ_n (α := Nat × Awr × Bool) (i + 1, { a1 with es := ins a1.es ⟨q, a1.now⟩ }, true) ⟨by dsimp only; omega, h10, own_chg o9 hch (by simpa using hlt.2), (cY.trans (.of b9)).trans (hch.mono (by simp)), ?_⟩ ⟨rfl, rfl, rfl, rfl, hinc, trivial⟩ (by dsimp only; omega)
        rw [hG]
        simp
    · obtain rfl : i = l.length := by omega
      rw [List.drop_of_length_le (Nat.le_refl _), show a1.takeL [] = (a1, false) from rfl, Bool.or_false] at hG
      rw [hG]
      (refine Ga ?_)
      apply retQ2
      focus rfl
      focus rfl
      exact ⟨rfl, hA, hc⟩
end Aw
end Go.Proofs.Ytoljcnlmockpcaa
