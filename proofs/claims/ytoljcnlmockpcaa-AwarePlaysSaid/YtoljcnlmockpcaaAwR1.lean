/- The document's awareness: Write. -/
import Derived.Test.YtoljcnlmockpcaaAw7
import Derived.Test.YtoljcnlmockpcaaApp
namespace Go.Proofs.Ytoljcnlmockpcaa
set_option maxRecDepth 100000
namespace Aw
open Go Go.RowKit Sx Wire
open So (cutQ_p rndQ_p)
theorem nopanic_s {P : Program} {rd : Option Nat} {n : Nat} {Q : Post} {y : Code} (h : ∀ c F ds w, ¬ Q (.panic c) F ds w) : ∀ c F ds w, ¬ seqQ P rd n y Q (.panic c) F ds w := fun c F ds w => h c F ds w
attribute [local irreducible] W Lst Qst Pu seqQ blkQ rndQ cutQ retQ Does Enters IntKind.wrap bits sb World.alloc World.putObj Blk
attribute [local irreducible] Rn Tk rnQ
attribute [local irreducible] RnS
set_option maxHeartbeats 2000000 in
theorem r_Write (v : Value) (l : List Pr) (hf : ∀ p ∈ l, p.Fit) (hl : (wrL l).length ≤ 100000000) (w : World) (h : Prs w v l) : Does Try.prog 26 #[v] w fun u w' => Own8 w.heap.size w' u (wrL l) ∧ Below w.heap.size w w' := by
  obtain ⟨a, c, rfl⟩ := h.form
  refine Does_of (args := [.slice a l.length c]) Try.func26 (by kernel_rfl) rfl rfl rfl rfl rfl ?_
  have hll := wrs_len l
  have hl' : (Lib.uvarint l.length).length + (wrs l).length ≤ 100000000 := by rw [← List.length_append]; exact hl
  have hw : IntKind.u64.wrap (l.length : Int) = ((l.length : Nat) : Int) := wu64 (by omega) (by omega)
  (refine Ga ?_)
  (apply Lst_call; (focus rfl); (focus rfl))
  refine (r_Uint w.heap.size [] (.slice none 0 0) l.length (by omega) w (Nat.le_refl _) (Own8.nil _ _) (by simp)).mono ?_
  rintro v w1 ⟨ho, hb1⟩
  rw [List.nil_append] at ho
  obtain ⟨v1, v2, v3, rfl⟩ := own_slice ho
  (refine Ga ?_)
  refine W_loop (α := Nat × Value) (fun x => [(0, .slice a l.length c), (3, x.2), (4, .int .i64 (x.1 : Int))])
    (fun x A => x.1 ≤ l.length ∧ Own8 w.heap.size A x.2 (Lib.uvarint l.length ++ wrs (l.take x.1)) ∧ Below w.heap.size w A) (fun x _ => l.length - x.1) (0, .slice v1 v2 v3)
    ⟨Nat.zero_le _, ?_, hb1⟩ ⟨rfl, rfl, rfl, trivial⟩ ?_
  · simpa [wrs] using ho
  clear ho hb1 w1
  rintro J ⟨i, out⟩ A ⟨hi, ho, hbA⟩
  dsimp only at hi ho ⊢
  obtain ⟨o1, o2, o3, rfl⟩ := own_slice ho
  by_cases hil : i < l.length
  · have hP := h
    obtain ⟨b, off, rfl, hbl, hcells⟩ := hP.at hil
    have hfi := hf l[i] (List.getElem_mem hil)
    have htk := wrs_take hil
    have hle := wrs_le l (i + 1)
    rw [htk, List.length_append] at hle
    generalize l[i] = p at hcells hfi htk hle
    (refine Ga ?_)
    obtain ⟨acc, hacc⟩ : ∃ acc, acc = Lib.uvarint l.length ++ wrs (l.take i) := ⟨_, rfl⟩
    rw [← hacc] at ho
    have hal : acc.length + (wrP p).length ≤ 100000000 := by rw [hacc, List.length_append]; omega
    have hwp : (wrP p).length = (Lib.uvarint p.c).length + ((Lib.uvarint p.k).length + (1 + ((Lib.uvarint p.s.size).length + p.s.size))) := by
      unfold wrP
      simp only [List.length_append, List.length_cons, Array.length_toList, ByteArray.size_data]
      omega
    have hcell : ∀ A9, Below w.heap.size w A9 → ∀ (j : Nat) (u : Value), (pcs p)[j]? = some u → A9.cell? ⟨b, off + i * 4 + j, none⟩ = some u := fun A9 hb9 j u hu => (hb9.cell (p := ⟨b, off + i * 4 + j, none⟩) hbl).trans (hcells j u hu)
    refine So.W_cutS (α := Value) (fun u => [(0, .slice (some ⟨b, off, none⟩) l.length c), (3, u), (4, .int .i64 (i : Int))]) (fun u A' => Own8 w.heap.size A' u (acc ++ Lib.uvarint p.c ++ Lib.uvarint p.k) ∧ Below w.heap.size w A') ?_ ?_
    · refine W_drawS 14 (fun A' => Below w.heap.size w A') rfl rfl ?_
      have hS : Below w.heap.size w A.drew := Below.drew hbA
      have ho1 : Own8 w.heap.size A.drew (.slice o1 o2 o3) acc := own_drew ho
      generalize A.drew = X at *
      (refine S_take 0 13 rfl (by kernel_rfl) (by repeat (first | exact retQ_p | apply seqQ_p | apply blkQ_p | apply rndQ_p | apply cutQ_p)) hS ?_)
      (refine Gt ?_)
      (refine S_take 1 12 rfl (by kernel_rfl) (by repeat (first | exact retQ_p | apply seqQ_p | apply blkQ_p | apply rndQ_p | apply cutQ_p)) hS ?_)
      (refine Gt ?_)
      (refine S_take 2 11 rfl (by kernel_rfl) (by repeat (first | exact retQ_p | apply seqQ_p | apply blkQ_p | apply rndQ_p | apply cutQ_p)) hS ?_)
      (refine Gt ?_)
      (refine S_take 3 10 rfl (by kernel_rfl) (by repeat (first | exact retQ_p | apply seqQ_p | apply blkQ_p | apply rndQ_p | apply cutQ_p)) hS ?_)
      apply Qst_pu
      · apply P_idx
        focus rfl
        focus rfl
        focus rfl
        focus rfl
        focus rfl
        focus omega
        focus omega
      focus rfl
      rw [Int.toNat_natCast]
      (refine Gt ?_)
      (refine S_take 4 9 rfl (by kernel_rfl) (by repeat (first | exact retQ_p | apply seqQ_p | apply blkQ_p | apply rndQ_p | apply cutQ_p)) hS ?_)
      (refine Gt ?_)
      (refine S_take 5 8 rfl (by kernel_rfl) (by repeat (first | exact retQ_p | apply seqQ_p | apply blkQ_p | apply rndQ_p | apply cutQ_p)) hS ?_)
      apply Qst_loadc
      focus rfl
      focus rfl
      focus rfl
      focus exact fun A9 hb9 => hcell A9 hb9 0 _ rfl
      focus rfl
      (refine Gt ?_)
      (refine S_take 7 7 rfl (by kernel_rfl) (by repeat (first | exact retQ_p | apply seqQ_p | apply blkQ_p | apply rndQ_p | apply cutQ_p)) hS ?_)
      (refine Gt ?_)
      (refine S_take 8 6 rfl (by kernel_rfl) (by repeat (first | exact retQ_p | apply seqQ_p | apply blkQ_p | apply rndQ_p | apply cutQ_p)) hS ?_)
      (refine Gt ?_)
      (refine S_take 9 5 rfl (by kernel_rfl) (by repeat (first | exact retQ_p | apply seqQ_p | apply blkQ_p | apply rndQ_p | apply cutQ_p)) hS ?_)
      apply Qst_pu
      · apply P_idx
        focus rfl
        focus rfl
        focus rfl
        focus rfl
        focus rfl
        focus omega
        focus omega
      focus rfl
      rw [Int.toNat_natCast]
      (refine Gt ?_)
      (refine S_take 10 4 rfl (by kernel_rfl) (by repeat (first | exact retQ_p | apply seqQ_p | apply blkQ_p | apply rndQ_p | apply cutQ_p)) hS ?_)
      (refine Gt ?_)
      (refine S_take 11 3 rfl (by kernel_rfl) (by repeat (first | exact retQ_p | apply seqQ_p | apply blkQ_p | apply rndQ_p | apply cutQ_p)) hS ?_)
      apply Qst_loadc
      focus rfl
      focus rfl
      focus rfl
      focus exact fun A9 hb9 => hcell A9 hb9 1 _ rfl
      focus rfl
      (refine Gt ?_)
      (refine S_any [6] 2 rfl (by kernel_rfl) (all1 ?_))
      (apply Lst_call; (focus rfl); (focus rfl))
      refine (r_Uint w.heap.size acc _ p.c hfi.c X hS.size ho1 (by omega)).mono ?_
      rintro u X2 ⟨ho2, hb2⟩
      have hS2 := hS.trans hb2
      obtain ⟨p1, p2, p3, rfl⟩ := own_slice ho2
      (refine Gt ?_)
      refine ⟨hS2, ?_⟩
      (refine S_any [12] 1 rfl (by kernel_rfl) (all1 ?_))
      (apply Lst_call; (focus rfl); (focus rfl))
      refine (r_Uint w.heap.size _ _ p.k hfi.k X2 hS2.size ho2 (by rw [List.length_append]; omega)).mono ?_
      rintro u X3 ⟨ho3, hb3⟩
      have hS3 := hS2.trans hb3
      obtain ⟨q1, q2, q3, rfl⟩ := own_slice ho3
      (refine Gt ?_)
      refine ⟨hS3, ?_⟩
      (refine S_any [13] 0 rfl (by kernel_rfl) (all1 ?_))
      (refine Gt ?_)
      refine ⟨hS3, ?_⟩
      refine S_done (by kernel_rfl) ?_
      exact cutQ_n (.slice q1 q2 q3) ⟨ho3, hS3⟩ ⟨rfl, rfl, rfl, trivial⟩
    clear ho hbA A
    rintro J u A ⟨ho, hbA⟩
    obtain ⟨o1, o2, o3, rfl⟩ := own_slice ho
    have hcA := hcell A hbA 3 _ rfl
    (refine Ga ?_)
    apply Lst_pu
    · apply P_idx
      focus rfl
      focus rfl
      focus rfl
      focus rfl
      focus rfl
      focus omega
      focus omega
    focus rfl
    rw [Int.toNat_natCast]
    (refine Ga ?_)
    obtain ⟨gb, hgb⟩ : ∃ gb : UInt8, gb = if p.g then 1 else 0 := ⟨_, rfl⟩
    refine So.W_cutS (α := Unit) (fun _ => [(0, .slice (some ⟨b, off, none⟩) l.length c), (3, .slice o1 o2 o3), (4, .int .i64 (i : Int)), (5, bc gb)]) (fun _ A' => A' = A) ?_ ?_
    · cases hg : p.g with
      | false =>
        rw [hg] at hgb
        (refine Ga ?_)
        exact cutQ_n () rfl ⟨rfl, rfl, rfl, by rw [hgb]; rfl, trivial⟩
      | true =>
        rw [hg] at hgb
        (refine Ga ?_)
        exact cutQ_n () rfl ⟨rfl, rfl, rfl, by rw [hgb]; rfl, trivial⟩
    rintro J _ _ rfl
    unfold bc
    refine W_drawS 11 (fun A' => Below w.heap.size w A') rfl rfl ?_
    have hS : Below w.heap.size w (World.drew _) := Below.drew hbA
    have ho1 := own_drew ho
    generalize World.drew _ = X at *
    (refine S_take 0 10 rfl (by kernel_rfl) (by repeat (first | exact retQ_p | apply seqQ_p | apply blkQ_p | apply rndQ_p | apply cutQ_p)) hS ?_)
    (refine Gt ?_)
    (refine S_take 1 9 rfl (by kernel_rfl) (by repeat (first | exact retQ_p | apply seqQ_p | apply blkQ_p | apply rndQ_p | apply cutQ_p)) hS ?_)
    (refine Gt ?_)
    (refine S_take 4 8 rfl (by kernel_rfl) (by repeat (first | exact retQ_p | apply seqQ_p | apply blkQ_p | apply rndQ_p | apply cutQ_p)) hS ?_)
    (refine Gt ?_)
    (refine S_take 5 7 rfl (by kernel_rfl) (by repeat (first | exact retQ_p | apply seqQ_p | apply blkQ_p | apply rndQ_p | apply cutQ_p)) hS ?_)
    (refine Gt ?_)
    (refine S_take 6 6 rfl (by kernel_rfl) (by repeat (first | exact retQ_p | apply seqQ_p | apply blkQ_p | apply rndQ_p | apply cutQ_p)) hS ?_)
    apply Qst_pu
    · apply P_idx
      focus rfl
      focus rfl
      focus rfl
      focus rfl
      focus rfl
      focus omega
      focus omega
    focus rfl
    rw [Int.toNat_natCast]
    (refine Gt ?_)
    (refine S_take 7 5 rfl (by kernel_rfl) (by repeat (first | exact retQ_p | apply seqQ_p | apply blkQ_p | apply rndQ_p | apply cutQ_p)) hS ?_)
    (refine Gt ?_)
    (refine S_take 8 4 rfl (by kernel_rfl) (by repeat (first | exact retQ_p | apply seqQ_p | apply blkQ_p | apply rndQ_p | apply cutQ_p)) hS ?_)
    apply Qst_loadc
    focus rfl
    focus rfl
    focus rfl
    focus exact fun A9 hb9 => hcell A9 hb9 2 _ rfl
    focus rfl
    (refine Gt ?_)
    (refine S_any [2] 3 rfl (by kernel_rfl) (all1 ?_))
    (apply Lst_lit1; (focus constructor); (focus rfl); (focus rfl); (focus rfl); (focus rfl); (focus rfl); (focus rfl); (focus rfl); (focus rfl); (focus ((try simp only [Sx.sizes]); first | done | rfl)); (focus rfl))
    (refine Gt ?_)
    have hSX := hS.size
    have hY : Below w.heap.size w (X.alloc (.cells [.int .u8 (gb.toNat : Int)].toArray 5)) := hS.alloc hSX _
    have kY : Blk (X.alloc (.cells [.int .u8 (gb.toNat : Int)].toArray 5)) X.heap.size [.int .u8 (gb.toNat : Int)] 5 := Blk.newE rfl _ _
    have oY := own_alloc ho1 (.cells [.int .u8 (gb.toNat : Int)].toArray 5)
    refine ⟨hY, ?_⟩
    generalize X.alloc (.cells [.int .u8 (gb.toNat : Int)].toArray 5) = Y at *
    (refine S_any [3] 2 rfl (by kernel_rfl) (all1 ?_))
    apply Lst_append (hown := oY) (bytes := 1) (news := [.int .u8 (gb.toNat : Int)])
    focus rfl
    focus rfl
    focus rfl
    focus rfl
    focus rfl
    focus rfl
    focus rfl
    focus rfl
    focus rfl
    focus (intro j u hu; rw [kY.cell]; simpa using hu)
    focus rfl
    focus simp [Value.oneCell']
    focus (simp only [List.length_append]; omega)
    focus (simp only [List.length_append]; omega)
    focus exact hY.size
    focus rfl
    intro v' Z hZ hgr _
    have hSZ := Sx.Below.own hY oY hgr (Nat.le_refl _) hY.size
    have oZ : Own8 w.heap.size Z v' (acc ++ Lib.uvarint p.c ++ Lib.uvarint p.k ++ [gb]) := by
      unfold Own8
      have e : (acc ++ Lib.uvarint p.c ++ Lib.uvarint p.k ++ [gb]).length = (acc ++ Lib.uvarint p.c ++ Lib.uvarint p.k).length + 1 := List.length_append
      rw [e, List.map_append]
      exact hZ
    obtain ⟨p1, p2, p3, rfl⟩ := own_slice hZ
    (refine Gt ?_)
    refine ⟨hSZ, ?_⟩
    (refine S_any [9] 1 rfl (by kernel_rfl) (all1 ?_))
    (apply Lst_call; (focus rfl); (focus rfl))
    refine (r_Text1 w.heap.size _ _ p.s (by have := hfi.s; omega) Z hSZ.size oZ (by simp only [List.length_append, List.length_singleton]; omega)).mono ?_
    rintro u Z2 ⟨hZ2, hbZ2⟩
    have hSZ2 := hSZ.trans hbZ2
    obtain ⟨q1, q2, q3, rfl⟩ := own_slice hZ2
    (refine Gt ?_)
    refine ⟨hSZ2, ?_⟩
    (refine S_any [10] 0 rfl (by kernel_rfl) (all1 ?_))
    (refine Gt ?_)
    refine ⟨hSZ2, ?_⟩
    refine S_done (by kernel_rfl) ?_
    (refine Ga ?_)
    refine rndQ_n (α := Nat × Value) (i + 1, .slice q1 q2 q3) ⟨by dsimp only; omega, ?_, hSZ2⟩ ⟨rfl, rfl, ?_, trivial⟩ (by dsimp only; omega)
    · dsimp only
      rw [htk, ← List.append_assoc, ← hacc]
      unfold wrP
      rw [← hgb]
      simpa only [List.append_assoc, List.singleton_append] using hZ2
    · show Value.int .i64 ((i : Int) + 1) = Value.int .i64 ((i + 1 : Nat) : Int)
      rw [Int.natCast_add]
      rfl
  · obtain rfl : i = l.length := by omega
    rw [List.take_of_length_le (Nat.le_refl _)] at ho
    (refine Ga ?_)
    (apply retQ1; (focus rfl))
    exact ⟨ho, hbA⟩
end Aw
end Go.Proofs.Ytoljcnlmockpcaa
