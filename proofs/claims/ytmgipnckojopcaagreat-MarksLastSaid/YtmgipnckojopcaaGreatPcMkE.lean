/- Marks: the chapter's examples. -/
import Derived.Test.YtmgipnckojopcaaGreatPcMkD
import Derived.Test.YtmgipnckojopcaaGreatPcJSqNToSqRe
import Derived.Test.YtmgipnckojopcaaGreatPcJSxRToSxF
namespace Go.Proofs.YtmgipnckojopcaaGreat
set_option maxRecDepth 100000
namespace Mk
open Go Go.RowKit Sx Tl Sq Val
/-- A mark of the laws. -/
def mkO (clock stamp : Nat) (key : ByteArray) (n : Int) (fr to : Anc) : Mo := ⟨(5, clock), 3, stamp, (0, 0), (0, 0), ⟨#[]⟩, ⟨2, n, 0, ⟨#[]⟩⟩, key, (0, 0), fr, to⟩
/-! ### The examples, plainly -/
def bold : ByteArray := ⟨#[98, 111, 108, 100]⟩
def kU : Un := ⟨(1, 1), (0, 0), (0, 0)⟩
def kT : Fo := runR .nil kU 3
def kO1 : Mo := mkO 1 1 bold 1 ⟨(0, 0), false⟩ ⟨(1, 2), true⟩
def kO2 : Mo := ⟨(5, 2), 3, 2, (0, 0), (0, 0), ⟨#[]⟩, ⟨0, 0, 0, ⟨#[]⟩⟩, bold, (0, 0), ⟨(1, 2), false⟩, ⟨(0, 0), true⟩⟩
def kV : Vl := ⟨2, 1, 0, ⟨#[]⟩⟩
theorem kr : runOk .nil kU 3 = true := by decide
theorem ks : kT.sz = 3 := by decide
theorem kg : gapV kT ⟨(1, 2), true⟩ = (2, true) := by decide
theorem kv : overV kT kO2.fr kO2.to = (1, 3) := by decide
theorem kl : mless kO1 kO2 = true := by decide
theorem told_one (k : ByteArray) (o : Mo) : toldL [(k, o)] = if o.v.k = 0 then [] else [(k, cleanV o.v)] := by
  unfold toldL keysS keysB
  rw [List.map_singleton, List.mergeSort_singleton, List.flatMap_cons, List.flatMap_nil, List.append_nil]
  unfold tell
  have e : (⟨k.data.toList.toArray⟩ : ByteArray) = k := by simp
  rw [e]
  have : Sx.look [(k, o)] k = some o := by simp [Sx.look]
  rw [this]
theorem kb0 : bestL kT 0 [kO1, kO2] = [(bold, kO1)] := by kernel_rfl
theorem kb1 : bestL kT 1 [kO1, kO2] = [(bold, kO2)] := by kernel_rfl
theorem ka0 : atL kT [kO1, kO2] 0 = [(bold, kV)] := by
  have : atL kT [kO1, kO2] 0 = toldL (bestL kT 0 [kO1, kO2]) := if_neg (by rw [ks]; decide)
  rw [this, kb0, told_one]
  rfl
theorem ka1 : atL kT [kO1, kO2] 1 = [] := by
  have : atL kT [kO1, kO2] 1 = toldL (bestL kT 1 [kO1, kO2]) := if_neg (by rw [ks]; decide)
  rw [this, kb1, told_one]
  rfl
theorem kkeys : ∀ o ∈ [kO1, kO2], o.key.size ≤ maxLen := fun o ho => by
  simp only [List.mem_cons, List.not_mem_nil, or_false] at ho
  rcases ho with rfl | rfl <;> decide
theorem kfit : ∀ q ∈ [(bold, kV)], q.2.Fit := fun q hq => by
  rw [List.mem_singleton.1 hq]
  exact ⟨by decide, by decide, by decide, by decide, by decide, by decide⟩
theorem ks1 : sameL [(bold, kV)] [] = false := rfl
theorem ks2 : sameL [(bold, kV)] [(bold, kV)] = true := sameL_self _
theorem ops_rows {w : World} {b : Nat} (h : Blk w b (ocs kO1 ++ ocs kO2) 47) : SRows w 22 (.slice (some ⟨b, 0, none⟩) 2 2) ([kO1, kO2].map ocs) := by
  refine SRows.of_own (base := 0) (e := 47) (nn := 2) ⟨rfl, .inr ⟨b, 2, (ocs kO1 ++ ocs kO2).toArray, rfl, Nat.zero_le _, h, Nat.le_refl _, by decide, rfl, rfl⟩⟩ (ocs_len _) (by decide)
section
attribute [local irreducible] RnS
attribute [local irreducible] W Lst Qst Pu seqQ blkQ rndQ cutQ retQ Does Enters IntKind.wrap bits sb World.alloc World.putObj Blk
set_option maxHeartbeats 1000000 in
theorem c_mark (clock stamp : Nat) (key : ByteArray) (n : Int) (fr to : Anc) (w : World) : Does Tryz.prog 18 #[.int .u64 (clock : Int), .int .u64 (stamp : Int), .string key, .int .i64 n, .agg (acs fr).toArray, .agg (acs to).toArray] w fun v w' => v = .agg (ocs (mkO clock stamp key n fr to)).toArray ∧ Below w.heap.size w w' := by
  refine Does_of (args := [.int .u64 (clock : Int), .int .u64 (stamp : Int), .string key, .int .i64 n, .agg (acs fr).toArray, .agg (acs to).toArray]) Tryz.func18 (by kernel_rfl) rfl rfl rfl rfl rfl ?_
  unfold acs
  (refine Ga ?_)
  (refine Reta ?_)
  exact ⟨rfl, Bel⟩
-- known: printed by gen_known11.py
set_option maxHeartbeats 8000000 in
theorem c_known (w : World) : Does Tryz.prog 6 #[] w fun v w' => v = .bool true ∧ Below w.heap.size w w' := by
  refine Does_of (args := []) Tryz.func6 (by kernel_rfl) rfl rfl rfl rfl rfl ?_
  (refine Ga ?_)
  (apply Lst_call; (focus rfl); (focus rfl))
  refine (c_New w).mono ?_
  rintro v w1 ⟨p, F0, rfl, hS0, hlow0, hb1⟩
  (refine Ga ?_)
  (apply Lst_call; (focus rfl); (focus rfl))
  refine (c_Run kU 3 p F0 .nil w1 (by decide) (by decide) hS0).mono ?_
  rintro v w2 ⟨rfl, F, hS2, hT2⟩
  have hl2 := hT2.low hlow0 hb1.size
  have bw2 := hb1.trans hl2.2
  have hlow := hl2.1
  change SqAt w2 p F kT at hS2
  rw [kr]
  clear hS0 hT2 hl2 hlow0
  (refine Ga ?_)
  refine W_abs (fun A => Below w2.heap.size w2 A ∧ Blk A w2.heap.size (idcs (1, 2)) 40) ⟨Bel, (by (repeat (first | assumption | (apply Blk.below (hb := hb1); rotate_left; (focus ((try simp only [Sx.sizes]); omega)); rotate_right) | (apply Blk.below (hb := hb2); rotate_left; (focus ((try simp only [Sx.sizes]); omega)); rotate_right) | (apply Blk.below (hb := hb3); rotate_left; (focus ((try simp only [Sx.sizes]); omega)); rotate_right) | (apply Blk.below (hb := hb4); rotate_left; (focus ((try simp only [Sx.sizes]); omega)); rotate_right) | (apply Blk.below (hb := hb5); rotate_left; (focus ((try simp only [Sx.sizes]); omega)); rotate_right) | (apply Blk.below (hb := hb6); rotate_left; (focus ((try simp only [Sx.sizes]); omega)); rotate_right) | (apply Blk.below (hb := hb7); rotate_left; (focus ((try simp only [Sx.sizes]); omega)); rotate_right) | (apply Blk.below (hb := hb8); rotate_left; (focus ((try simp only [Sx.sizes]); omega)); rotate_right) | (apply Blk.below (hb := hb9); rotate_left; (focus ((try simp only [Sx.sizes]); omega)); rotate_right) | exact Blk.newE (by first | rfl | ((try simp only [Sx.sizes]); first | done | omega)) _ _ | exact Blk.put_same (by (try simp only [Sx.sizes]); first | done | omega) _ _ | (apply Blk.put_ne; (focus omega)) | apply Blk.alloc | apply Blk.drew)); done)⟩ ?_
  rintro w3 ⟨hb3, k2⟩
  have bw3 := bw2.trans (hb3.mono bw2.size)
  have hS3 := hS2.below hb3
  have hnb : ¬ F w2.heap.size := fun hf => by have := hS2.lt hf; omega
  have l2 := k2.lt
  have k2' := k2
  unfold idcs at k2
  generalize w2.heap.size = b2 at *
  clear hS2 hb3
  (refine Ga ?_)
  refine W_drawS 11 (fun A => Below w3.heap.size w3 A) rfl rfl ?_
  refine S_takeV 0 10 rfl (by kernel_rfl) (by repeat (first | exact retQ_p | apply seqQ_p | apply blkQ_p | apply rndQ_p | apply cutQ_p)) (Below.drew (Below.refl w3.heap.size w3)) ?_
  (refine Qb ?_)
  refine S_takeV 1 9 rfl (by kernel_rfl) (by repeat (first | exact retQ_p | apply seqQ_p | apply blkQ_p | apply rndQ_p | apply cutQ_p)) (Below.drew (Below.refl w3.heap.size w3)) ?_
  (refine Qb ?_)
  refine S_takeV 2 8 rfl (by kernel_rfl) (by repeat (first | exact retQ_p | apply seqQ_p | apply blkQ_p | apply rndQ_p | apply cutQ_p)) (Below.drew (Below.refl w3.heap.size w3)) ?_
  (refine Qb ?_)
  refine S_takeV 4 7 rfl (by kernel_rfl) (by repeat (first | exact retQ_p | apply seqQ_p | apply blkQ_p | apply rndQ_p | apply cutQ_p)) (Below.drew (Below.refl w3.heap.size w3)) ?_
  (refine Qb ?_)
  refine S_takeV 5 6 rfl (by kernel_rfl) (by repeat (first | exact retQ_p | apply seqQ_p | apply blkQ_p | apply rndQ_p | apply cutQ_p)) (Below.drew (Below.refl w3.heap.size w3)) ?_
  (refine Qb ?_)
  refine S_takeV 6 5 rfl (by kernel_rfl) (by repeat (first | exact retQ_p | apply seqQ_p | apply blkQ_p | apply rndQ_p | apply cutQ_p)) (Below.drew (Below.refl w3.heap.size w3)) ?_
  (refine Qb ?_)
  refine S_takeV 7 4 rfl (by kernel_rfl) (by repeat (first | exact retQ_p | apply seqQ_p | apply blkQ_p | apply rndQ_p | apply cutQ_p)) (Below.drew (Below.refl w3.heap.size w3)) ?_
  (refine Qb ?_)
  refine S_takeV 8 3 rfl (by kernel_rfl) (by repeat (first | exact retQ_p | apply seqQ_p | apply blkQ_p | apply rndQ_p | apply cutQ_p)) (Below.drew (Below.refl w3.heap.size w3)) ?_
  (refine Qb ?_)
  refine S_any [3] 2 rfl (by kernel_rfl) (all1 ?_)
  (apply Lst_call; (focus rfl); (focus rfl))
  refine (c_mark 1 1 bold 1 ⟨(0, 0), false⟩ ⟨(1, 2), true⟩ _).mono ?_
  rintro v w4 ⟨rfl, hb4'⟩
  have hb4 : Below w3.heap.size w3 w4 := Below.trans (Below.drew (Below.refl w3.heap.size w3)) hb4'
  have s4 := hb4.size
  apply Lst_nil
  apply rnQ_n
  refine ⟨hb4, ?_⟩
  refine S_any [9] 1 rfl (by kernel_rfl) (all1 ?_)
  unfold ocs mkO
  (apply Lst_slit; (focus rfl); (focus rfl); (focus rfl); (focus rfl); (focus rfl); (focus rfl); (focus rfl); (focus rfl); (focus rfl); (focus (repeat (first | apply FillO.nil | (apply FillO.cons; (focus constructor); (focus rfl); (focus rfl); (focus (repeat constructor)))))); (focus ((try simp only [Sx.sizes]); first | done | rfl)); (focus rfl))
  have hb5 : Below w3.heap.size w3 (w4.alloc (.cells (ocs kO1 ++ ocs kO2).toArray 47)) := Bel
  have k5 : Blk (w4.alloc (.cells (ocs kO1 ++ ocs kO2).toArray 47)) w4.heap.size (ocs kO1 ++ ocs kO2) 47 := (by (repeat (first | assumption | (apply Blk.below (hb := hb1); rotate_left; (focus ((try simp only [Sx.sizes]); omega)); rotate_right) | (apply Blk.below (hb := hb2); rotate_left; (focus ((try simp only [Sx.sizes]); omega)); rotate_right) | (apply Blk.below (hb := hb3); rotate_left; (focus ((try simp only [Sx.sizes]); omega)); rotate_right) | (apply Blk.below (hb := hb4); rotate_left; (focus ((try simp only [Sx.sizes]); omega)); rotate_right) | (apply Blk.below (hb := hb5); rotate_left; (focus ((try simp only [Sx.sizes]); omega)); rotate_right) | (apply Blk.below (hb := hb6); rotate_left; (focus ((try simp only [Sx.sizes]); omega)); rotate_right) | (apply Blk.below (hb := hb7); rotate_left; (focus ((try simp only [Sx.sizes]); omega)); rotate_right) | (apply Blk.below (hb := hb8); rotate_left; (focus ((try simp only [Sx.sizes]); omega)); rotate_right) | (apply Blk.below (hb := hb9); rotate_left; (focus ((try simp only [Sx.sizes]); omega)); rotate_right) | exact Blk.newE (by first | rfl | ((try simp only [Sx.sizes]); first | done | omega)) _ _ | exact Blk.put_same (by (try simp only [Sx.sizes]); first | done | omega) _ _ | (apply Blk.put_ne; (focus omega)) | apply Blk.alloc | apply Blk.drew)); done)
  apply Lst_nil
  apply rnQ_n
  refine ⟨hb5, ?_⟩
  refine S_takeV 10 0 rfl (by kernel_rfl) (by repeat (first | exact retQ_p | apply seqQ_p | apply blkQ_p | apply rndQ_p | apply cutQ_p)) hb5 ?_
  (refine Qb ?_)
  refine S_done (by kernel_rfl) ?_
  have h5e : ∀ {G : World → Prop}, (∀ A, Below w3.heap.size w3 A → Blk A w4.heap.size (ocs kO1 ++ ocs kO2) 47 → G A) → G (w4.alloc (.cells (ocs kO1 ++ ocs kO2).toArray 47)) := fun h => h _ hb5 k5
  refine h5e ?_
  clear h5e hb5 k5
  intro w5 hb5 k5
  have hS5 := hS3.below hb5
  have bw5 := bw3.trans (hb5.mono bw3.size)
  have k25 := k2'.below hb5 l2
  have hn5 : ¬ F w4.heap.size := fun hf => by have := hS3.lt hf; omega
  have hR5 := ops_rows k5
  have ho5 : Out F (.slice (some ⟨w4.heap.size, 0, none⟩) 2 2) := fun b off sp n c e => by cases e; exact fun _ => hn5
  generalize w4.heap.size = b5 at *
  clear hS3 bw3 k2 l2 hb4 hb4' s4 k5 hb5 w3 bw2 k2' 
  (refine Ga ?_)
  (apply Lst_call; (focus rfl); (focus rfl))
  refine (c_At [kO1, kO2] (some ⟨b5, 0, none⟩) 2 0 (by decide) (by decide) kkeys ho5 hR5 hS5).mono ?_
  rintro v w6 ⟨hoA, hS6, hT6⟩
  rw [ka0] at hoA
  have hR6 := rows_turn hR5 ho5 hT6
  have k26 := hT6.blk k25 hnb
  have hl6 := hT6.low hlow bw5.size
  have bw6 := bw5.trans hl6.2
  obtain ⟨a4, c4, hv4, hc4⟩ := own_form hoA
  change v = .slice a4 1 c4 at hv4
  subst hv4
  have hnA : ∀ g, (Value.slice a4 1 c4).ownBlock = some g → ¬ F g := fun g hg hf => by
    have h1 := (hoA.lt g hg).1
    have h2 := hS5.lt hf
    omega
  (refine Ga ?_)
  (apply Lst_call; (focus rfl); (focus rfl))
  refine (c_At [kO1, kO2] (some ⟨b5, 0, none⟩) 2 1 (by decide) (by decide) kkeys ho5 hR6 hS6).mono ?_
  rintro v w7 ⟨hoB, hS7, hT7⟩
  rw [ka1] at hoB
  have hR7 := rows_turn hR6 ho5 hT7
  have k27 := hT7.blk k26 hnb
  have hoA7 : OwnM w5.heap.size w7 _ _ := own_kept hoA fun g hg => hT7.block g (own_ltg hoA hg) (hnA g hg)
  have hl7 := hT7.low hlow bw6.size
  have bw7 := bw6.trans hl7.2
  obtain ⟨a5, c5, hv5, hc5⟩ := own_form hoB
  change v = .slice a5 0 c5 at hv5
  subst hv5
  have hnB : ∀ g, (Value.slice a5 0 c5).ownBlock = some g → ¬ F g := fun g hg hf => by
    have h1 := (hoB.lt g hg).1
    have h2 := hS6.lt hf
    omega
  have k27' := k27
  have l27 := k27.lt
  unfold idcs at k27
  (refine Ga ?_)
  (apply Lst_call; (focus rfl); (focus rfl))
  refine (c_Gap ⟨(1, 2), true⟩ (by decide) hS7).mono ?_
  rintro v w8 ⟨rfl, hS8, hT8⟩
  rw [kg]
  have hR8 := rows_turn hR7 ho5 hT8
  have hoA8 : OwnM w5.heap.size w8 _ _ := own_kept hoA7 fun g hg => hT8.block g (own_ltg hoA7 hg) (hnA g hg)
  have hoB8 : OwnM w6.heap.size w8 _ _ := own_kept hoB fun g hg => hT8.block g (own_ltg hoB hg) (hnB g hg)
  have hl8 := hT8.low hlow bw7.size
  have bw8 := bw7.trans hl8.2
  have hc8 : ∀ j u, (ocs kO2)[j]? = some u → w8.cell? ⟨b5, 0 + 1 * 22 + j, none⟩ = some u := by
    obtain ⟨b', off', he, _, hc⟩ := hR8.at (i := 1) (by decide)
    cases he
    exact hc
  (refine Ga ?_)
  apply Lst_pu
  · apply P_idxm (j := 1)
    focus rfl
    focus rfl
    focus rfl
    focus rfl
    focus rfl
    focus decide
  focus rfl
  (refine Ga ?_)
  apply Lst_loadS' (cs := ocs kO2)
  focus rfl
  focus rfl
  focus rfl
  focus rfl
  focus rfl
  focus exact hc8
  focus rfl
  (refine Ga ?_)
  (apply Lst_call; (focus rfl); (focus rfl))
  refine (c_Over kO2 (by decide) hS8).mono ?_
  rintro v w9 ⟨rfl, hS9, hT9⟩
  rw [kv]
  have hR9 := rows_turn hR8 ho5 hT9
  have hoA9 : OwnM w5.heap.size w9 _ _ := own_kept hoA8 fun g hg => hT9.block g (own_ltg hoA8 hg) (hnA g hg)
  have hoB9 : OwnM w6.heap.size w9 _ _ := own_kept hoB8 fun g hg => hT9.block g (own_ltg hoB8 hg) (hnB g hg)
  have hl9 := hT9.low hlow bw8.size
  have bw9 := bw8.trans hl9.2
  have hrA := hoA9.rows
  have hrB := hoB9.rows
  obtain ⟨ga, oa, rfl, hca⟩ := mark_at (us := [(bold, kV)]) hrA (k := 0) (by decide)
  have hcd : ∀ A, Below w9.heap.size w9 A → ∀ i (hi : i < 2) j u, (ocs ([kO1, kO2][i]))[j]? = some u → A.cell? ⟨b5, 0 + i * 22 + j, none⟩ = some u := fun A hA i hi j u hu => by
    obtain ⟨b', off', he, _, hc⟩ := hR9.at (i := i) hi
    cases he
    exact cell_below hA (hc j u (by rw [List.getElem_map]; exact hu))
  clear hl9 hl8 hl7 hl6 hS9 hS8 hS7 hS6 hS5 hoA hoA7 hoA8 hoB hoB8 hoB9 hoA9 hR5 hR6 hR7 hR8 hc8 k25 k26 k27 k27' l27 hT6 hT7 hT8 hT9 hc4 hc5 hnA hnB
  (refine Ga ?_)
  refine W_drawS 59 (fun A => Below w9.heap.size w9 A) rfl rfl ?_
  refine S_takeV 0 58 rfl (by kernel_rfl) (by repeat (first | exact retQ_p | apply seqQ_p | apply blkQ_p | apply rndQ_p | apply cutQ_p)) (Below.drew (Below.refl w9.heap.size w9)) ?_
  (refine Qb ?_)
  refine S_any [1] 57 rfl (by kernel_rfl) (all1 ?_)
  (refine Ga ?_)
  apply rnQ_n
  refine ⟨(Below.drew (Below.refl w9.heap.size w9)), ?_⟩
  refine S_takeV 2 56 rfl (by kernel_rfl) (by repeat (first | exact retQ_p | apply seqQ_p | apply blkQ_p | apply rndQ_p | apply cutQ_p)) (Below.drew (Below.refl w9.heap.size w9)) ?_
  (refine Qb ?_)
  refine S_takeV 3 55 rfl (by kernel_rfl) (by repeat (first | exact retQ_p | apply seqQ_p | apply blkQ_p | apply rndQ_p | apply cutQ_p)) (Below.drew (Below.refl w9.heap.size w9)) ?_
  (refine Qb ?_)
  refine S_takeV 4 54 rfl (by kernel_rfl) (by repeat (first | exact retQ_p | apply seqQ_p | apply blkQ_p | apply rndQ_p | apply cutQ_p)) (Below.drew (Below.refl w9.heap.size w9)) ?_
  (refine Qb ?_)
  refine S_takeV 5 53 rfl (by kernel_rfl) (by repeat (first | exact retQ_p | apply seqQ_p | apply blkQ_p | apply rndQ_p | apply cutQ_p)) (Below.drew (Below.refl w9.heap.size w9)) ?_
  apply Qst_guard_t
  focus rfl
  focus rfl
  apply Qst_pu
  · apply P_idxm (j := 0)
    focus rfl
    focus rfl
    focus rfl
    focus rfl
    focus rfl
    focus decide
  focus rfl
  (refine Qb ?_)
  refine S_takeV 6 52 rfl (by kernel_rfl) (by repeat (first | exact retQ_p | apply seqQ_p | apply blkQ_p | apply rndQ_p | apply cutQ_p)) (Below.drew (Below.refl w9.heap.size w9)) ?_
  (refine Qb ?_)
  refine S_takeV 7 51 rfl (by kernel_rfl) (by repeat (first | exact retQ_p | apply seqQ_p | apply blkQ_p | apply rndQ_p | apply cutQ_p)) (Below.drew (Below.refl w9.heap.size w9)) ?_
  apply Qst_guard_t
  focus rfl
  focus rfl
  apply Qst_loadc
  focus rfl
  focus rfl
  focus rfl
  focus exact fun B hB => hca B hB 0 _ rfl
  focus rfl
  (refine Qb ?_)
  refine S_takeV 8 50 rfl (by kernel_rfl) (by repeat (first | exact retQ_p | apply seqQ_p | apply blkQ_p | apply rndQ_p | apply cutQ_p)) (Below.drew (Below.refl w9.heap.size w9)) ?_
  (refine Qb ?_)
  refine S_takeV 9 49 rfl (by kernel_rfl) (by repeat (first | exact retQ_p | apply seqQ_p | apply blkQ_p | apply rndQ_p | apply cutQ_p)) (Below.drew (Below.refl w9.heap.size w9)) ?_
  (refine Qb ?_)
  refine S_takeV 10 48 rfl (by kernel_rfl) (by repeat (first | exact retQ_p | apply seqQ_p | apply blkQ_p | apply rndQ_p | apply cutQ_p)) (Below.drew (Below.refl w9.heap.size w9)) ?_
  (refine Qb ?_)
  refine S_takeV 11 47 rfl (by kernel_rfl) (by repeat (first | exact retQ_p | apply seqQ_p | apply blkQ_p | apply rndQ_p | apply cutQ_p)) (Below.drew (Below.refl w9.heap.size w9)) ?_
  (refine Qb ?_)
  refine S_takeV 12 46 rfl (by kernel_rfl) (by repeat (first | exact retQ_p | apply seqQ_p | apply blkQ_p | apply rndQ_p | apply cutQ_p)) (Below.drew (Below.refl w9.heap.size w9)) ?_
  apply Qst_guard_t
  focus rfl
  focus rfl
  apply Qst_pu
  · apply P_idxm (j := 0)
    focus rfl
    focus rfl
    focus rfl
    focus rfl
    focus rfl
    focus decide
  focus rfl
  (refine Qb ?_)
  refine S_takeV 13 45 rfl (by kernel_rfl) (by repeat (first | exact retQ_p | apply seqQ_p | apply blkQ_p | apply rndQ_p | apply cutQ_p)) (Below.drew (Below.refl w9.heap.size w9)) ?_
  (refine Qb ?_)
  refine S_takeV 14 44 rfl (by kernel_rfl) (by repeat (first | exact retQ_p | apply seqQ_p | apply blkQ_p | apply rndQ_p | apply cutQ_p)) (Below.drew (Below.refl w9.heap.size w9)) ?_
  (refine Qb ?_)
  refine S_takeV 15 43 rfl (by kernel_rfl) (by repeat (first | exact retQ_p | apply seqQ_p | apply blkQ_p | apply rndQ_p | apply cutQ_p)) (Below.drew (Below.refl w9.heap.size w9)) ?_
  apply Qst_guard_t
  focus rfl
  focus rfl
  apply Qst_loadc
  focus rfl
  focus rfl
  focus rfl
  focus exact fun B hB => (hca B hB 2 _ rfl : B.cell? _ = some (.int .i64 1))
  focus rfl
  (refine Qb ?_)
  refine S_takeV 16 42 rfl (by kernel_rfl) (by repeat (first | exact retQ_p | apply seqQ_p | apply blkQ_p | apply rndQ_p | apply cutQ_p)) (Below.drew (Below.refl w9.heap.size w9)) ?_
  (refine Qb ?_)
  refine S_takeV 17 41 rfl (by kernel_rfl) (by repeat (first | exact retQ_p | apply seqQ_p | apply blkQ_p | apply rndQ_p | apply cutQ_p)) (Below.drew (Below.refl w9.heap.size w9)) ?_
  (refine Qb ?_)
  refine S_takeV 18 40 rfl (by kernel_rfl) (by repeat (first | exact retQ_p | apply seqQ_p | apply blkQ_p | apply rndQ_p | apply cutQ_p)) (Below.drew (Below.refl w9.heap.size w9)) ?_
  (refine Qb ?_)
  refine S_takeV 19 39 rfl (by kernel_rfl) (by repeat (first | exact retQ_p | apply seqQ_p | apply blkQ_p | apply rndQ_p | apply cutQ_p)) (Below.drew (Below.refl w9.heap.size w9)) ?_
  (refine Qb ?_)
  refine S_any [20] 38 rfl (by kernel_rfl) (all1 ?_)
  (refine Ga ?_)
  apply rnQ_n
  refine ⟨(Below.drew (Below.refl w9.heap.size w9)), ?_⟩
  refine S_takeV 21 37 rfl (by kernel_rfl) (by repeat (first | exact retQ_p | apply seqQ_p | apply blkQ_p | apply rndQ_p | apply cutQ_p)) (Below.drew (Below.refl w9.heap.size w9)) ?_
  (refine Qb ?_)
  refine S_takeV 22 36 rfl (by kernel_rfl) (by repeat (first | exact retQ_p | apply seqQ_p | apply blkQ_p | apply rndQ_p | apply cutQ_p)) (Below.drew (Below.refl w9.heap.size w9)) ?_
  (refine Qb ?_)
  refine S_takeV 23 35 rfl (by kernel_rfl) (by repeat (first | exact retQ_p | apply seqQ_p | apply blkQ_p | apply rndQ_p | apply cutQ_p)) (Below.drew (Below.refl w9.heap.size w9)) ?_
  (refine Qb ?_)
  refine S_takeV 24 34 rfl (by kernel_rfl) (by repeat (first | exact retQ_p | apply seqQ_p | apply blkQ_p | apply rndQ_p | apply cutQ_p)) (Below.drew (Below.refl w9.heap.size w9)) ?_
  (refine Qb ?_)
  refine S_takeV 25 33 rfl (by kernel_rfl) (by repeat (first | exact retQ_p | apply seqQ_p | apply blkQ_p | apply rndQ_p | apply cutQ_p)) (Below.drew (Below.refl w9.heap.size w9)) ?_
  (refine Qb ?_)
  refine S_takeV 26 32 rfl (by kernel_rfl) (by repeat (first | exact retQ_p | apply seqQ_p | apply blkQ_p | apply rndQ_p | apply cutQ_p)) (Below.drew (Below.refl w9.heap.size w9)) ?_
  (refine Qb ?_)
  refine S_takeV 27 31 rfl (by kernel_rfl) (by repeat (first | exact retQ_p | apply seqQ_p | apply blkQ_p | apply rndQ_p | apply cutQ_p)) (Below.drew (Below.refl w9.heap.size w9)) ?_
  (refine Qb ?_)
  refine S_takeV 28 30 rfl (by kernel_rfl) (by repeat (first | exact retQ_p | apply seqQ_p | apply blkQ_p | apply rndQ_p | apply cutQ_p)) (Below.drew (Below.refl w9.heap.size w9)) ?_
  (refine Qb ?_)
  refine S_takeV 29 29 rfl (by kernel_rfl) (by repeat (first | exact retQ_p | apply seqQ_p | apply blkQ_p | apply rndQ_p | apply cutQ_p)) (Below.drew (Below.refl w9.heap.size w9)) ?_
  (refine Qb ?_)
  refine S_takeV 30 28 rfl (by kernel_rfl) (by repeat (first | exact retQ_p | apply seqQ_p | apply blkQ_p | apply rndQ_p | apply cutQ_p)) (Below.drew (Below.refl w9.heap.size w9)) ?_
  (refine Qb ?_)
  refine S_takeV 31 27 rfl (by kernel_rfl) (by repeat (first | exact retQ_p | apply seqQ_p | apply blkQ_p | apply rndQ_p | apply cutQ_p)) (Below.drew (Below.refl w9.heap.size w9)) ?_
  (refine Qb ?_)
  refine S_takeV 32 26 rfl (by kernel_rfl) (by repeat (first | exact retQ_p | apply seqQ_p | apply blkQ_p | apply rndQ_p | apply cutQ_p)) (Below.drew (Below.refl w9.heap.size w9)) ?_
  (refine Qb ?_)
  refine S_takeV 33 25 rfl (by kernel_rfl) (by repeat (first | exact retQ_p | apply seqQ_p | apply blkQ_p | apply rndQ_p | apply cutQ_p)) (Below.drew (Below.refl w9.heap.size w9)) ?_
  (refine Qb ?_)
  refine S_takeV 34 24 rfl (by kernel_rfl) (by repeat (first | exact retQ_p | apply seqQ_p | apply blkQ_p | apply rndQ_p | apply cutQ_p)) (Below.drew (Below.refl w9.heap.size w9)) ?_
  (refine Qb ?_)
  refine S_takeV 35 23 rfl (by kernel_rfl) (by repeat (first | exact retQ_p | apply seqQ_p | apply blkQ_p | apply rndQ_p | apply cutQ_p)) (Below.drew (Below.refl w9.heap.size w9)) ?_
  (refine Qb ?_)
  refine S_takeV 36 22 rfl (by kernel_rfl) (by repeat (first | exact retQ_p | apply seqQ_p | apply blkQ_p | apply rndQ_p | apply cutQ_p)) (Below.drew (Below.refl w9.heap.size w9)) ?_
  (refine Qb ?_)
  refine S_takeV 37 21 rfl (by kernel_rfl) (by repeat (first | exact retQ_p | apply seqQ_p | apply blkQ_p | apply rndQ_p | apply cutQ_p)) (Below.drew (Below.refl w9.heap.size w9)) ?_
  (refine Qb ?_)
  refine S_takeV 38 20 rfl (by kernel_rfl) (by repeat (first | exact retQ_p | apply seqQ_p | apply blkQ_p | apply rndQ_p | apply cutQ_p)) (Below.drew (Below.refl w9.heap.size w9)) ?_
  (refine Qb ?_)
  refine S_takeV 39 19 rfl (by kernel_rfl) (by repeat (first | exact retQ_p | apply seqQ_p | apply blkQ_p | apply rndQ_p | apply cutQ_p)) (Below.drew (Below.refl w9.heap.size w9)) ?_
  (refine Qb ?_)
  refine S_takeV 40 18 rfl (by kernel_rfl) (by repeat (first | exact retQ_p | apply seqQ_p | apply blkQ_p | apply rndQ_p | apply cutQ_p)) (Below.drew (Below.refl w9.heap.size w9)) ?_
  apply Qst_guard_t
  focus rfl
  focus rfl
  apply Qst_pu
  · apply P_idxm (j := 0)
    focus rfl
    focus rfl
    focus rfl
    focus rfl
    focus rfl
    focus decide
  focus rfl
  (refine Qb ?_)
  refine S_takeV 41 17 rfl (by kernel_rfl) (by repeat (first | exact retQ_p | apply seqQ_p | apply blkQ_p | apply rndQ_p | apply cutQ_p)) (Below.drew (Below.refl w9.heap.size w9)) ?_
  apply Qst_guard_t
  focus rfl
  focus rfl
  apply Qst_loadS (cs := ocs kO1)
  focus rfl
  focus rfl
  focus rfl
  focus rfl
  focus rfl
  focus exact fun B hB j u hu => hcd B hB 0 (by decide) j u hu
  focus rfl
  (refine Qb ?_)
  refine S_takeV 42 16 rfl (by kernel_rfl) (by repeat (first | exact retQ_p | apply seqQ_p | apply blkQ_p | apply rndQ_p | apply cutQ_p)) (Below.drew (Below.refl w9.heap.size w9)) ?_
  (refine Qb ?_)
  refine S_takeV 43 15 rfl (by kernel_rfl) (by repeat (first | exact retQ_p | apply seqQ_p | apply blkQ_p | apply rndQ_p | apply cutQ_p)) (Below.drew (Below.refl w9.heap.size w9)) ?_
  apply Qst_guard_t
  focus rfl
  focus rfl
  apply Qst_pu
  · apply P_idxm (j := 1)
    focus rfl
    focus rfl
    focus rfl
    focus rfl
    focus rfl
    focus decide
  focus rfl
  (refine Qb ?_)
  refine S_takeV 44 14 rfl (by kernel_rfl) (by repeat (first | exact retQ_p | apply seqQ_p | apply blkQ_p | apply rndQ_p | apply cutQ_p)) (Below.drew (Below.refl w9.heap.size w9)) ?_
  apply Qst_guard_t
  focus rfl
  focus rfl
  apply Qst_loadS (cs := ocs kO2)
  focus rfl
  focus rfl
  focus rfl
  focus rfl
  focus rfl
  focus exact fun B hB j u hu => hcd B hB 1 (by decide) j u hu
  focus rfl
  (refine Qb ?_)
  refine S_any [45] 13 rfl (by kernel_rfl) (all1 ?_)
  apply Lst_guard_t
  focus rfl
  focus rfl
  (apply Lst_call; (focus rfl); (focus rfl))
  refine (c_MLess kO1 kO2 _).mono ?_
  rintro v y3 ⟨rfl, hy3'⟩
  rw [kl]
  have hy3 : Below w9.heap.size w9 y3 := Below.trans (Below.drew (Below.refl w9.heap.size w9)) (Below.mono hy3' (Nat.le_refl _))
  apply Lst_nil
  apply rnQ_n
  refine ⟨hy3, ?_⟩
  refine S_takeV 46 12 rfl (by kernel_rfl) (by repeat (first | exact retQ_p | apply seqQ_p | apply blkQ_p | apply rndQ_p | apply cutQ_p)) hy3 ?_
  (refine Qb ?_)
  refine S_takeV 47 11 rfl (by kernel_rfl) (by repeat (first | exact retQ_p | apply seqQ_p | apply blkQ_p | apply rndQ_p | apply cutQ_p)) hy3 ?_
  (refine Qb ?_)
  refine S_takeV 48 10 rfl (by kernel_rfl) (by repeat (first | exact retQ_p | apply seqQ_p | apply blkQ_p | apply rndQ_p | apply cutQ_p)) hy3 ?_
  (refine Qb ?_)
  refine S_takeV 49 9 rfl (by kernel_rfl) (by repeat (first | exact retQ_p | apply seqQ_p | apply blkQ_p | apply rndQ_p | apply cutQ_p)) hy3 ?_
  (refine Qb ?_)
  refine S_any [50] 8 rfl (by kernel_rfl) (all1 ?_)
  apply Lst_guard_t
  focus rfl
  focus rfl
  (apply Lst_call; (focus rfl); (focus rfl))
  refine (c_MSame [(bold, kV)] [] _ _ _ _ (by decide) kfit (fun q hq => by cases hq) _ (SRows.below hrA hy3 (Nat.le_refl _)) (SRows.below hrB hy3 (Nat.le_refl _))).mono ?_
  rintro v y4 ⟨rfl, hy4'⟩
  rw [ks1]
  have hy4 : Below w9.heap.size w9 y4 := Below.trans hy3 (Below.mono hy4' hy3.size)
  apply Lst_nil
  apply rnQ_n
  refine ⟨hy4, ?_⟩
  refine S_takeV 51 7 rfl (by kernel_rfl) (by repeat (first | exact retQ_p | apply seqQ_p | apply blkQ_p | apply rndQ_p | apply cutQ_p)) hy4 ?_
  (refine Qb ?_)
  refine S_takeV 52 6 rfl (by kernel_rfl) (by repeat (first | exact retQ_p | apply seqQ_p | apply blkQ_p | apply rndQ_p | apply cutQ_p)) hy4 ?_
  (refine Qb ?_)
  refine S_takeV 53 5 rfl (by kernel_rfl) (by repeat (first | exact retQ_p | apply seqQ_p | apply blkQ_p | apply rndQ_p | apply cutQ_p)) hy4 ?_
  (refine Qb ?_)
  refine S_takeV 54 4 rfl (by kernel_rfl) (by repeat (first | exact retQ_p | apply seqQ_p | apply blkQ_p | apply rndQ_p | apply cutQ_p)) hy4 ?_
  (refine Qb ?_)
  refine S_takeV 55 3 rfl (by kernel_rfl) (by repeat (first | exact retQ_p | apply seqQ_p | apply blkQ_p | apply rndQ_p | apply cutQ_p)) hy4 ?_
  (refine Qb ?_)
  refine S_any [56] 2 rfl (by kernel_rfl) (all1 ?_)
  apply Lst_guard_t
  focus rfl
  focus rfl
  (apply Lst_call; (focus rfl); (focus rfl))
  refine (c_MSame [(bold, kV)] [(bold, kV)] _ _ _ _ (by decide) kfit kfit _ (SRows.below hrA hy4 (Nat.le_refl _)) (SRows.below hrA hy4 (Nat.le_refl _))).mono ?_
  rintro v y5 ⟨rfl, hy5'⟩
  rw [ks2]
  have hy5 : Below w9.heap.size w9 y5 := Below.trans hy4 (Below.mono hy5' hy4.size)
  apply Lst_nil
  apply rnQ_n
  refine ⟨hy5, ?_⟩
  refine S_takeV 57 1 rfl (by kernel_rfl) (by repeat (first | exact retQ_p | apply seqQ_p | apply blkQ_p | apply rndQ_p | apply cutQ_p)) hy5 ?_
  (refine Qb ?_)
  refine S_takeV 58 0 rfl (by kernel_rfl) (by repeat (first | exact retQ_p | apply seqQ_p | apply blkQ_p | apply rndQ_p | apply cutQ_p)) hy5 ?_
  (refine Qb ?_)
  refine S_done (by kernel_rfl) ?_
  (refine Ga ?_)
  (apply retQ1; (focus rfl))
  exact ⟨rfl, bw9.trans (Below.mono hy5 bw9.size)⟩
-- end of known
end
end Mk
end Go.Proofs.YtmgipnckojopcaaGreat
