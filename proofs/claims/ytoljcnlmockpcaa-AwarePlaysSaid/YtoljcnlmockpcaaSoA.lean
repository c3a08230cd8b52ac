/- Sorting of []uint64: arrays; insertion sort, heap sort, and their parts. -/
import Derived.Sort.AssemblyPlain
import Derived.Test.YtoljcnlmockpcaaProg
import Derived.Test.YtoljcnlmockpcaaSxM
namespace Go.Proofs.Ytoljcnlmockpcaa
set_option maxRecDepth 100000
namespace So
open Go Go.RowKit Sx
open Go.Sort (swp ltInt)
/-- An array of numbers as cells. -/
def us (d : Array Int) : List Value := d.toList.map (Value.int .u64)
theorem us_len (d : Array Int) : (us d).length = d.size := by simp [us]
theorem us_get (d : Array Int) (post : List Value) (i : Nat) (h : i < d.size) : (us d ++ post)[i]? = some (.int .u64 d[i]!) := by
  rw [List.getElem?_append_left (by rw [us_len]; exact h)]
  unfold us
  rw [List.getElem?_map, Array.getElem?_toList, Array.getElem?_eq_getElem h, getElem!_pos d i h]
  rfl
theorem us_set (d : Array Int) (post : List Value) (i : Nat) (x : Int) (h : i < d.size) : (us d ++ post).set i (.int .u64 x) = us (d.setIfInBounds i x) ++ post := by
  rw [List.set_append_left _ _ (by rw [us_len]; exact h)]
  unfold us
  rw [Array.toList_setIfInBounds, List.map_set]
theorem swp_size (d : Array Int) (i j : Nat) : (swp d i j).size = d.size := by simp [swp]
theorem us_swp (d : Array Int) (post : List Value) (i j : Nat) (hi : i < d.size) (hj : j < d.size) : ((us d ++ post).set i (.int .u64 d[j]!)).set j (.int .u64 d[i]!) = us (swp d i j) ++ post := by
  rw [us_set d post i _ hi, us_set _ post j _ (by simpa using hj)]
  rfl
/-- Block b holds these numbers, and spare cells. -/
def Arr (w : World) (b : Nat) (d : Array Int) (post : List Value) : Prop := Blk w b (us d ++ post) 27
theorem Arr.cell {w : World} {b : Nat} {d : Array Int} {post : List Value} (h : Arr w b d post) (i : Nat) (hi : i < d.size) (o : Nat) (ho : o = i) : w.cell? ⟨b, o, none⟩ = some (.int .u64 d[i]!) := by
  subst ho
  exact (Blk.cell h o).trans (us_get d post o hi)
theorem Arr.lt {w : World} {b : Nat} {d : Array Int} {post : List Value} (h : Arr w b d post) : b < w.heap.size := Blk.lt h
theorem setR_set : ∀ (l : List Value) (o : Nat) (v : Value), o < l.length → SetR l o v (l.set o v)
  | a :: l, 0, v, _ => .zero a v l
  | a :: l, o + 1, v, h => .succ a v l _ o (setR_set l o v (by simpa using h))
  | [], _, _, h => by simp at h
section rules
variable {P : Program} {rd : Option Nat} {n : Nat} {ops : Array Oper} {Q : Post} {rest : List Oper} {F : Fr} {ds : List Deferred} {w : World} {ty : TypeId} {pos : String} {after : Array Edge}
theorem P_idxu {t e b off len c : Nat} {x ix : Operand} {k : IntKind} {q : Int} {i : TypeInfo} (hx : ev F x = .slice (some ⟨b, off, none⟩) len c) (hq : ev F ix = .int k q) (ht : P.underlying t = some (.slice e)) (hi : P.info? e = some i) (hs : i.size = 1) (h0 : 0 ≤ q) (h1 : q < len) :
    Pu P F (.indexAddr t x ix) ty (.pointer (some ⟨b, off + q.toNat, none⟩)) := by
  have := P_idx (ty := ty) hx hq ht hi hs h0 h1
  simpa using this
/-- data[o] = x -/
theorem Lst_put {x y : Operand} {t b o i : Nat} {inf : TypeInfo} {l : List Value} {z : Int} (hx : ev F x = .pointer (some ⟨b, o, none⟩)) (hy : ev F y = .int .u64 z) (hi : P.info? t = some inf) (hs : inf.size = 1) (hb : Blk w b l 27) (ho : o = i) (hl : i < l.length)
    (h : Lst P rd n ops Q rest F ds (w.putObj b (.cells (l.set i (.int .u64 z)).toArray 27))) : Lst P rd n ops Q (⟨none, .store t x y, ty, pos, after, none⟩ :: rest) F ds w := by
  subst ho
  refine Lst_store (v := .int .u64 z) hx ?_ hi hs rfl rfl hb (setR_set l o _ hl) h
  rw [hy]
  constructor
theorem rndQ_p {α : Type} {vals : α → St} {I : α → World → Prop} {μ : α → World → Nat} {m : Nat} {ds' : List Deferred} (h : ∀ c F ds w, ¬ Q (.panic c) F ds w) : ∀ c F ds w, ¬ rndQ vals I μ m Q ds' (.panic c) F ds w := fun c F ds w => h c F ds w
end rules
theorem Qa {G G' : Prop} (k : G') (h : Box G' → G := by
  intro hkbox
  (repeat' (first | (apply Qst_nil) | (apply Qst_guard_t; (focus rfl); (focus rfl)) | (apply Qst_guard_f; (focus rfl); (focus rfl); (focus rfl); (focus rfl)) | (apply Qst_guard_u; (focus rfl); (focus rfl); (focus rfl)) | (apply Qst_load; (focus rfl); (focus rfl); (focus rfl); (focus (intro _ hA; subst hA; (repeat (first | assumption | (apply Blk.below (hb := hb1); rotate_left; (focus ((try simp only [World.size_alloc, World.putObj_size, Sx.size_drew]); omega)); rotate_right) | (apply Blk.below (hb := hb2); rotate_left; (focus ((try simp only [World.size_alloc, World.putObj_size, Sx.size_drew]); omega)); rotate_right) | (apply Blk.below (hb := hb3); rotate_left; (focus ((try simp only [World.size_alloc, World.putObj_size, Sx.size_drew]); omega)); rotate_right) | (apply Blk.below (hb := hb4); rotate_left; (focus ((try simp only [World.size_alloc, World.putObj_size, Sx.size_drew]); omega)); rotate_right) | (apply Blk.below (hb := hb5); rotate_left; (focus ((try simp only [World.size_alloc, World.putObj_size, Sx.size_drew]); omega)); rotate_right) | (apply Blk.below (hb := hb6); rotate_left; (focus ((try simp only [World.size_alloc, World.putObj_size, Sx.size_drew]); omega)); rotate_right) | (apply Blk.below (hb := hb7); rotate_left; (focus ((try simp only [World.size_alloc, World.putObj_size, Sx.size_drew]); omega)); rotate_right) | (apply Blk.below (hb := hb8); rotate_left; (focus ((try simp only [World.size_alloc, World.putObj_size, Sx.size_drew]); omega)); rotate_right) | (apply Blk.below (hb := hb9); rotate_left; (focus ((try simp only [World.size_alloc, World.putObj_size, Sx.size_drew]); omega)); rotate_right) | exact Blk.newE (by first | rfl | ((try simp only [World.size_alloc, World.putObj_size, Sx.size_drew]); first | done | omega)) _ _ | exact Blk.put_same (by (try simp only [World.size_alloc, World.putObj_size, Sx.size_drew]); first | done | omega) _ _ | (apply Blk.put_ne; (focus omega)) | apply Blk.alloc | apply Blk.drew)); done)); (focus rfl); (focus rfl)) | (apply Qst_loadc; (focus rfl); (focus rfl); (focus rfl); (focus (intro _ hA; subst hA; assumption)); (focus rfl)) | (apply Qst_pu; (focus (first | (apply P_neg; (focus rfl); (focus (first | assumption | exact wi64 (by omega) (by omega) | exact wu64 (by omega) (by omega) | exact wi32 (by omega) (by omega) | exact wu8 (by omega) (by omega) | rfl))) | (apply P_move; (focus constructor)) | (apply P_assign; (focus constructor)) | (apply P_ar; (focus rfl); (focus rfl); (focus rfl); (focus (first | assumption | exact wi64 (by omega) (by omega) | exact wu64 (by omega) (by omega) | exact wi32 (by omega) (by omega) | exact wu8 (by omega) (by omega) | rfl))) | (apply P_ct; (focus rfl); (focus rfl); (focus rfl); (focus (dsimp only [cmpP]; first | done | omega))) | (apply P_cf; (focus rfl); (focus rfl); (focus rfl); (focus (dsimp only [cmpP]; first | done | omega))) | (apply P_pick_t; (focus rfl); (focus constructor)) | (apply P_pick_f; (focus rfl); (focus constructor)) | (apply P_extract; (focus rfl); (focus rfl)) | (apply P_not; (focus rfl); (focus rfl)) | (apply P_slen; (focus rfl); (focus rfl)) | (apply P_llen; (focus rfl); (focus rfl)) | (apply P_beq; (focus rfl); (focus rfl); (focus rfl); (focus (first | exact beq_self_eq_true _ | rfl))) | (apply P_bne; (focus rfl); (focus rfl); (focus rfl); (focus (first | exact bne_self_eq_false _ | rfl))) | (apply P_sadd; (focus rfl); (focus rfl); (focus omega)) | (apply P_max; (focus rfl); (focus rfl)) | (apply P_min; (focus rfl); (focus rfl)) | (apply P_idx1; (focus rfl); (focus rfl); (focus rfl); (focus rfl); (focus rfl); (focus omega)) | (apply P_nilCheck; (focus rfl)) | (apply P_conv; (focus rfl); (focus rfl); (focus rfl); (focus (first | assumption | exact wi64 (by omega) (by omega) | exact wu64 (by omega) (by omega) | exact wi32 (by omega) (by omega) | exact wu8 (by omega) (by omega) | rfl))) | (apply P_sindex0; (focus rfl); (focus rfl); (focus rfl); (focus omega)) | (apply P_sindexN; (focus rfl); (focus rfl); (focus rfl); (focus omega)) | (apply P_sindex; (focus rfl); (focus rfl); (focus rfl); (focus omega); (focus omega)) | (apply P_makeFunc; (focus (repeat constructor)); (focus (repeat constructor))) | (apply P_seq_t; (focus rfl); (focus rfl); (focus (first | assumption | rfl))) | (apply P_seq_f; (focus rfl); (focus rfl); (focus assumption)) | (apply P_sne_t; (focus rfl); (focus rfl); (focus assumption)) | (apply P_sne_f; (focus rfl); (focus rfl); (focus (first | assumption | rfl))) | (apply P_faddr; (focus rfl); (focus rfl); (focus rfl); (focus rfl); (focus rfl); (focus rfl); (focus (first | (simp only [Nat.zero_add, Nat.add_zero, List.getElem_toArray, List.getElem_cons_zero, List.getElem_cons_succ]; rfl) | rfl))) | (apply P_field; (focus rfl); (focus rfl); (focus rfl); (focus rfl); (focus rfl); (focus rfl)) | (apply P_fieldA; (focus rfl); (focus rfl); (focus rfl); (focus rfl); (focus rfl); (focus rfl); (focus rfl); (focus rfl); (focus (repeat constructor))) | (apply P_build; (focus rfl); (focus rfl); (focus rfl); (focus rfl); (focus rfl); (focus (repeat (first | apply FillO.nil | (apply FillO.cons; (focus constructor); (focus rfl); (focus rfl); (focus (repeat constructor))))))) | (apply P_eqA; (focus rfl); (focus rfl); (focus (kernel_rfl)); (focus (first | (apply Eqv_int_t; (focus rfl); (focus (first | rfl | omega))) | (apply Eqv_int_f; (focus rfl); (focus omega)) | (apply Eqv_str_t; (focus rfl); (focus (first | rfl | assumption))) | (apply Eqv_str_f; (focus rfl); (focus assumption)) | (apply Eqv_bool; (focus rfl); (focus (first | exact beq_self_eq_true _ | rfl))) | (apply Eqv_struct; (focus rfl); (focus (first | rfl | kernel_rfl)); (repeat (first | exact EqvF_nil | (apply EqvF_t; (focus rfl); (focus (first | (apply PartR_1; (focus rfl); (focus rfl); (focus rfl)) | (apply PartR_A; (focus rfl); (focus rfl); (focus rfl); (focus rfl); (focus (repeat constructor))))); (focus (first | (apply PartR_1; (focus rfl); (focus rfl); (focus rfl)) | (apply PartR_A; (focus rfl); (focus rfl); (focus rfl); (focus rfl); (focus (repeat constructor))))); (focus (first | (apply Eqv_int_t; (focus rfl); (focus (first | rfl | omega))) | (apply Eqv_int_f; (focus rfl); (focus omega)) | (apply Eqv_str_t; (focus rfl); (focus (first | rfl | assumption))) | (apply Eqv_str_f; (focus rfl); (focus assumption)) | (apply Eqv_bool; (focus rfl); (focus (first | exact beq_self_eq_true _ | rfl))) | (apply Eqv_struct; (focus rfl); (focus (first | rfl | kernel_rfl)); (repeat (first | exact EqvF_nil | (apply EqvF_t; (focus rfl); (focus (first | (apply PartR_1; (focus rfl); (focus rfl); (focus rfl)) | (apply PartR_A; (focus rfl); (focus rfl); (focus rfl); (focus rfl); (focus (repeat constructor))))); (focus (first | (apply PartR_1; (focus rfl); (focus rfl); (focus rfl)) | (apply PartR_A; (focus rfl); (focus rfl); (focus rfl); (focus rfl); (focus (repeat constructor))))); (focus (first | (apply Eqv_int_t; (focus rfl); (focus (first | rfl | omega))) | (apply Eqv_int_f; (focus rfl); (focus omega)) | (apply Eqv_str_t; (focus rfl); (focus (first | rfl | assumption))) | (apply Eqv_str_f; (focus rfl); (focus assumption)) | (apply Eqv_bool; (focus rfl); (focus (first | exact beq_self_eq_true _ | rfl)))))) | (apply EqvF_f; (focus rfl); (focus (first | (apply PartR_1; (focus rfl); (focus rfl); (focus rfl)) | (apply PartR_A; (focus rfl); (focus rfl); (focus rfl); (focus rfl); (focus (repeat constructor))))); (focus (first | (apply PartR_1; (focus rfl); (focus rfl); (focus rfl)) | (apply PartR_A; (focus rfl); (focus rfl); (focus rfl); (focus rfl); (focus (repeat constructor))))); (focus (first | (apply Eqv_int_t; (focus rfl); (focus (first | rfl | omega))) | (apply Eqv_int_f; (focus rfl); (focus omega)) | (apply Eqv_str_t; (focus rfl); (focus (first | rfl | assumption))) | (apply Eqv_str_f; (focus rfl); (focus assumption)) | (apply Eqv_bool; (focus rfl); (focus (first | exact beq_self_eq_true _ | rfl)))))))))))) | (apply EqvF_f; (focus rfl); (focus (first | (apply PartR_1; (focus rfl); (focus rfl); (focus rfl)) | (apply PartR_A; (focus rfl); (focus rfl); (focus rfl); (focus rfl); (focus (repeat constructor))))); (focus (first | (apply PartR_1; (focus rfl); (focus rfl); (focus rfl)) | (apply PartR_A; (focus rfl); (focus rfl); (focus rfl); (focus rfl); (focus (repeat constructor))))); (focus (first | (apply Eqv_int_t; (focus rfl); (focus (first | rfl | omega))) | (apply Eqv_int_f; (focus rfl); (focus omega)) | (apply Eqv_str_t; (focus rfl); (focus (first | rfl | assumption))) | (apply Eqv_str_f; (focus rfl); (focus assumption)) | (apply Eqv_bool; (focus rfl); (focus (first | exact beq_self_eq_true _ | rfl))) | (apply Eqv_struct; (focus rfl); (focus (first | rfl | kernel_rfl)); (repeat (first | exact EqvF_nil | (apply EqvF_t; (focus rfl); (focus (first | (apply PartR_1; (focus rfl); (focus rfl); (focus rfl)) | (apply PartR_A; (focus rfl); (focus rfl); (focus rfl); (focus rfl); (focus (repeat constructor))))); (focus (first | (apply PartR_1; (focus rfl); (focus rfl); (focus rfl)) | (apply PartR_A; (focus rfl); (focus rfl); (focus rfl); (focus rfl); (focus (repeat constructor))))); (focus (first | (apply Eqv_int_t; (focus rfl); (focus (first | rfl | omega))) | (apply Eqv_int_f; (focus rfl); (focus omega)) | (apply Eqv_str_t; (focus rfl); (focus (first | rfl | assumption))) | (apply Eqv_str_f; (focus rfl); (focus assumption)) | (apply Eqv_bool; (focus rfl); (focus (first | exact beq_self_eq_true _ | rfl)))))) | (apply EqvF_f; (focus rfl); (focus (first | (apply PartR_1; (focus rfl); (focus rfl); (focus rfl)) | (apply PartR_A; (focus rfl); (focus rfl); (focus rfl); (focus rfl); (focus (repeat constructor))))); (focus (first | (apply PartR_1; (focus rfl); (focus rfl); (focus rfl)) | (apply PartR_A; (focus rfl); (focus rfl); (focus rfl); (focus rfl); (focus (repeat constructor))))); (focus (first | (apply Eqv_int_t; (focus rfl); (focus (first | rfl | omega))) | (apply Eqv_int_f; (focus rfl); (focus omega)) | (apply Eqv_str_t; (focus rfl); (focus (first | rfl | assumption))) | (apply Eqv_str_f; (focus rfl); (focus assumption)) | (apply Eqv_bool; (focus rfl); (focus (first | exact beq_self_eq_true _ | rfl))))))))))))))))); (focus rfl)) | (apply P_neA; (focus rfl); (focus rfl); (focus (kernel_rfl)); (focus (first | (apply Eqv_int_t; (focus rfl); (focus (first | rfl | omega))) | (apply Eqv_int_f; (focus rfl); (focus omega)) | (apply Eqv_str_t; (focus rfl); (focus (first | rfl | assumption))) | (apply Eqv_str_f; (focus rfl); (focus assumption)) | (apply Eqv_bool; (focus rfl); (focus (first | exact beq_self_eq_true _ | rfl))) | (apply Eqv_struct; (focus rfl); (focus (first | rfl | kernel_rfl)); (repeat (first | exact EqvF_nil | (apply EqvF_t; (focus rfl); (focus (first | (apply PartR_1; (focus rfl); (focus rfl); (focus rfl)) | (apply PartR_A; (focus rfl); (focus rfl); (focus rfl); (focus rfl); (focus (repeat constructor))))); (focus (first | (apply PartR_1; (focus rfl); (focus rfl); (focus rfl)) | (apply PartR_A; (focus rfl); (focus rfl); (focus rfl); (focus rfl); (focus (repeat constructor))))); (focus (first | (apply Eqv_int_t; (focus rfl); (focus (first | rfl | omega))) | (apply Eqv_int_f; (focus rfl); (focus omega)) | (apply Eqv_str_t; (focus rfl); (focus (first | rfl | assumption))) | (apply Eqv_str_f; (focus rfl); (focus assumption)) | (apply Eqv_bool; (focus rfl); (focus (first | exact beq_self_eq_true _ | rfl))) | (apply Eqv_struct; (focus rfl); (focus (first | rfl | kernel_rfl)); (repeat (first | exact EqvF_nil | (apply EqvF_t; (focus rfl); (focus (first | (apply PartR_1; (focus rfl); (focus rfl); (focus rfl)) | (apply PartR_A; (focus rfl); (focus rfl); (focus rfl); (focus rfl); (focus (repeat constructor))))); (focus (first | (apply PartR_1; (focus rfl); (focus rfl); (focus rfl)) | (apply PartR_A; (focus rfl); (focus rfl); (focus rfl); (focus rfl); (focus (repeat constructor))))); (focus (first | (apply Eqv_int_t; (focus rfl); (focus (first | rfl | omega))) | (apply Eqv_int_f; (focus rfl); (focus omega)) | (apply Eqv_str_t; (focus rfl); (focus (first | rfl | assumption))) | (apply Eqv_str_f; (focus rfl); (focus assumption)) | (apply Eqv_bool; (focus rfl); (focus (first | exact beq_self_eq_true _ | rfl)))))) | (apply EqvF_f; (focus rfl); (focus (first | (apply PartR_1; (focus rfl); (focus rfl); (focus rfl)) | (apply PartR_A; (focus rfl); (focus rfl); (focus rfl); (focus rfl); (focus (repeat constructor))))); (focus (first | (apply PartR_1; (focus rfl); (focus rfl); (focus rfl)) | (apply PartR_A; (focus rfl); (focus rfl); (focus rfl); (focus rfl); (focus (repeat constructor))))); (focus (first | (apply Eqv_int_t; (focus rfl); (focus (first | rfl | omega))) | (apply Eqv_int_f; (focus rfl); (focus omega)) | (apply Eqv_str_t; (focus rfl); (focus (first | rfl | assumption))) | (apply Eqv_str_f; (focus rfl); (focus assumption)) | (apply Eqv_bool; (focus rfl); (focus (first | exact beq_self_eq_true _ | rfl)))))))))))) | (apply EqvF_f; (focus rfl); (focus (first | (apply PartR_1; (focus rfl); (focus rfl); (focus rfl)) | (apply PartR_A; (focus rfl); (focus rfl); (focus rfl); (focus rfl); (focus (repeat constructor))))); (focus (first | (apply PartR_1; (focus rfl); (focus rfl); (focus rfl)) | (apply PartR_A; (focus rfl); (focus rfl); (focus rfl); (focus rfl); (focus (repeat constructor))))); (focus (first | (apply Eqv_int_t; (focus rfl); (focus (first | rfl | omega))) | (apply Eqv_int_f; (focus rfl); (focus omega)) | (apply Eqv_str_t; (focus rfl); (focus (first | rfl | assumption))) | (apply Eqv_str_f; (focus rfl); (focus assumption)) | (apply Eqv_bool; (focus rfl); (focus (first | exact beq_self_eq_true _ | rfl))) | (apply Eqv_struct; (focus rfl); (focus (first | rfl | kernel_rfl)); (repeat (first | exact EqvF_nil | (apply EqvF_t; (focus rfl); (focus (first | (apply PartR_1; (focus rfl); (focus rfl); (focus rfl)) | (apply PartR_A; (focus rfl); (focus rfl); (focus rfl); (focus rfl); (focus (repeat constructor))))); (focus (first | (apply PartR_1; (focus rfl); (focus rfl); (focus rfl)) | (apply PartR_A; (focus rfl); (focus rfl); (focus rfl); (focus rfl); (focus (repeat constructor))))); (focus (first | (apply Eqv_int_t; (focus rfl); (focus (first | rfl | omega))) | (apply Eqv_int_f; (focus rfl); (focus omega)) | (apply Eqv_str_t; (focus rfl); (focus (first | rfl | assumption))) | (apply Eqv_str_f; (focus rfl); (focus assumption)) | (apply Eqv_bool; (focus rfl); (focus (first | exact beq_self_eq_true _ | rfl)))))) | (apply EqvF_f; (focus rfl); (focus (first | (apply PartR_1; (focus rfl); (focus rfl); (focus rfl)) | (apply PartR_A; (focus rfl); (focus rfl); (focus rfl); (focus rfl); (focus (repeat constructor))))); (focus (first | (apply PartR_1; (focus rfl); (focus rfl); (focus rfl)) | (apply PartR_A; (focus rfl); (focus rfl); (focus rfl); (focus rfl); (focus (repeat constructor))))); (focus (first | (apply Eqv_int_t; (focus rfl); (focus (first | rfl | omega))) | (apply Eqv_int_f; (focus rfl); (focus omega)) | (apply Eqv_str_t; (focus rfl); (focus (first | rfl | assumption))) | (apply Eqv_str_f; (focus rfl); (focus assumption)) | (apply Eqv_bool; (focus rfl); (focus (first | exact beq_self_eq_true _ | rfl))))))))))))))))); (focus rfl)) | (apply P_lslice; (focus rfl); (focus rfl); (focus rfl); (focus rfl); (focus rfl); (focus rfl); (focus omega); (focus omega); (focus omega)) | (apply P_lslice_hi; (focus rfl); (focus rfl); (focus rfl); (focus rfl); (focus rfl); (focus omega); (focus omega)) | (apply P_lslice_lo; (focus rfl); (focus rfl); (focus rfl); (focus rfl); (focus rfl); (focus omega); (focus omega)) | (apply P_sslice_lo; (focus rfl); (focus rfl); (focus rfl); (focus omega); (focus omega)) | (apply P_sslice_hi; (focus rfl); (focus rfl); (focus rfl); (focus omega); (focus omega)) | (apply P_sslice; (focus rfl); (focus rfl); (focus rfl); (focus rfl); (focus omega); (focus omega); (focus omega)) | (apply P_idxu; (focus rfl); (focus rfl); (focus rfl); (focus rfl); (focus rfl); (focus omega); (focus omega)))); (focus rfl))))
  exact Box.out hkbox) : G := h ⟨k⟩
attribute [local irreducible] W Lst Qst Pu seqQ blkQ rndQ cutQ retQ Does Enters IntKind.wrap bits sb World.alloc World.putObj Blk
attribute [local irreducible] Rn Tk rnQ
attribute [local irreducible] RnS
theorem c_isNaN (x : Int) (w : World) : Does Try.prog 93 #[.int .u64 x] w fun v w' => v = .bool false ∧ w = w' := by
  refine Does_of (args := [.int .u64 x]) Try.func93 (by kernel_rfl) rfl rfl rfl rfl rfl ?_
  (refine Ga ?_)
  (apply retQ1; (focus rfl))
  exact ⟨rfl, rfl⟩
theorem c_Less (x y : Int) (w : World) : Does Try.prog 83 #[.int .u64 x, .int .u64 y] w fun v w' => v = .bool (ltInt x y) ∧ w = w' := by
  refine Does_of (args := [.int .u64 x, .int .u64 y]) Try.func83 (by kernel_rfl) rfl rfl rfl rfl rfl ?_
  (refine Ga ?_)
  (apply Lst_call; (focus rfl); (focus rfl))
  refine (c_isNaN x _).mono ?_
  rintro v w' ⟨rfl, rfl⟩
  by_cases h : x < y
  · (refine Ga ?_)
    (apply retQ1; (focus rfl))
    exact ⟨by rw [show ltInt x y = true from decide_eq_true h]; rfl, rfl⟩
  · (refine Ga ?_)
    (apply retQ1; (focus rfl))
    exact ⟨by rw [show ltInt x y = false from decide_eq_false h]; rfl, rfl⟩
set_option maxHeartbeats 800000 in
theorem c_ins (b a b' m c : Nat) (d : Array Int) (post : List Value) (hm : m = d.size) (hb' : b' ≤ d.size) (hab : a ≤ b') (hsz : d.size < 4611686018427387904) (w : World) (h : Arr w b d post) :
    Does Try.prog 77 #[.slice (some ⟨b, 0, none⟩) m c, .int .i64 (a : Int), .int .i64 (b' : Int)] w fun v w' => v = .tuple #[] ∧ Arr w' b (Go.Sort.insertionSort ltInt d a b') post ∧ Chg [b] w w' := by
  refine Does_of (args := [.slice (some ⟨b, 0, none⟩) m c, .int .i64 (a : Int), .int .i64 (b' : Int)]) Try.func77 (by kernel_rfl) rfl rfl rfl rfl rfl ?_
  generalize hG : Go.Sort.insertionSort ltInt d a b' = G
  unfold Go.Sort.insertionSort at hG
  subst hm
  (refine Ga ?_)
  refine W_loop (α := Nat × Array Int) (fun x => [(0, .slice (some ⟨b, 0, none⟩) d.size c), (1, .int .i64 (a : Int)), (2, .int .i64 (b' : Int)), (6, .int .i64 (x.1 : Int))])
    (fun x A => a + 1 ≤ x.1 ∧ x.1 ≤ b' + 1 ∧ Go.Sort.insOuter ltInt a b' x.1 x.2 = G ∧ x.2.size = d.size ∧ Arr A b x.2 post ∧ Chg [b] w A) (fun x _ => b' + 1 - x.1) (a + 1, d)
    ⟨Nat.le_refl _, by dsimp only; omega, hG, rfl, h, Chg.refl _ _⟩ ⟨rfl, rfl, rfl, rfl, trivial⟩ ?_
  clear h hG
  rintro J ⟨i, k⟩ A ⟨hi1, hi2, hG, hks, hA, hc⟩
  dsimp only at hi1 hi2 hG hks hA ⊢
  by_cases hib : i < b'
  · rw [Go.Sort.insOuter, if_pos hib] at hG
    generalize hH : Go.Sort.insInner ltInt a i k = H at hG
    (refine Ga ?_)
    refine W_loop (α := Nat × Array Int) (fun x => [(0, .slice (some ⟨b, 0, none⟩) d.size c), (1, .int .i64 (a : Int)), (2, .int .i64 (b' : Int)), (6, .int .i64 (i : Int)), (7, .int .i64 (x.1 : Int))])
      (fun x A => a ≤ x.1 ∧ x.1 ≤ i ∧ Go.Sort.insInner ltInt a x.1 x.2 = H ∧ x.2.size = d.size ∧ Arr A b x.2 post ∧ Chg [b] w A) (fun x _ => x.1) (i, k)
      ⟨by dsimp only; omega, Nat.le_refl _, hH, hks, hA, hc⟩ ⟨rfl, rfl, rfl, rfl, rfl, trivial⟩ ?_
    clear hH hks hA hc
    rintro J2 ⟨j, k2⟩ A ⟨hj1, hj2, hH, hks, hA, hc⟩
    dsimp only at hj1 hj2 hH hks hA ⊢
    by_cases hja : j = a
    · have hH2 : k2 = H := by
        cases j with
        | zero => exact hH
        | succ q =>
          rw [Go.Sort.insInner, if_neg (by simp; omega)] at hH
          exact hH
      subst hH2
      (refine Ga ?_)
      refine W_draws (fun A' => A' = World.drew A) rfl (by kernel_rfl) rfl ?_
      (refine Qa ?_)
      rintro A' rfl
      (refine Ga ?_)
      refine rndQ_n (α := Nat × Array Int) (i + 1, k2) ⟨?_, ?_, hG, hks, Blk.drew hA, hc.drew⟩ ⟨rfl, rfl, rfl, ?_, trivial⟩ ?_
      · dsimp only; omega
      · dsimp only; omega
      · show Value.int .i64 ((i : Int) + 1) = Value.int .i64 ((i + 1 : Nat) : Int)
        rw [Int.natCast_add]; rfl
      · dsimp only; omega
    · obtain ⟨q, rfl⟩ : ∃ q, j = q + 1 := ⟨j - 1, by omega⟩
      have hAd : Arr A.drew b k2 post := Blk.drew hA
      have c1 := hAd.cell (q + 1) (by omega) (0 + (q + 1)) (by omega)
      have c2 := hAd.cell q (by omega) (0 + (((q + 1 : Nat) : Int) - 1).toNat) (by omega)
      have hless := fun A => c_Less k2[q + 1]! k2[q]! A
      rw [Go.Sort.insInner] at hH
      rcases hl : ltInt k2[q + 1]! k2[q]! with _ | _
      · rw [hl] at hless
        rw [if_neg (by simp [hl])] at hH
        subst hH
        (refine Ga ?_)
        refine W_draws (fun A' => A' = World.drew A) rfl (by kernel_rfl) rfl ?_
        (refine Qa ?_)
        apply Qst_call (.bool false)
        focus rfl
        focus rfl
        · rintro _ rfl
          exact (hless _).mono fun v w' h => ⟨h.1, h.2.symm⟩
        (refine Qa ?_)
        rintro A' rfl
        (refine Ga ?_)
        refine rndQ_n (α := Nat × Array Int) (i + 1, k2) ⟨?_, ?_, hG, hks, hAd, hc.drew⟩ ⟨rfl, rfl, rfl, ?_, trivial⟩ ?_
        · dsimp only; omega
        · dsimp only; omega
        · show Value.int .i64 ((i : Int) + 1) = Value.int .i64 ((i + 1 : Nat) : Int)
          rw [Int.natCast_add]; rfl
        · dsimp only; omega
      · rw [hl] at hless
        rw [if_pos (by simp [hl]; omega)] at hH
        (refine Ga ?_)
        refine W_draws (fun A' => A' = World.drew A) rfl (by kernel_rfl) rfl ?_
        (refine Qa ?_)
        apply Qst_call (.bool true)
        focus rfl
        focus rfl
        · rintro _ rfl
          exact (hless _).mono fun v w' h => ⟨h.1, h.2.symm⟩
        (refine Qa ?_)
        rintro A' rfl
        have hcd := hc.drew
        clear c1 c2 hA hc hless
        have hA := hAd
        have hc := hcd
        clear hAd hcd
        generalize A.drew = A at *
        (refine Ga ?_)
        have hAd : Arr A.drew b k2 post := Blk.drew hA
        have hkl := us_len k2
        have cI := hAd.cell (q + 1) (by omega) (0 + (q + 1)) (by omega)
        have cJ := hAd.cell q (by omega) (0 + (((q + 1 : Nat) : Int) - 1).toNat) (by omega)
        refine W_drawS 18 (fun _ => True) rfl rfl ?_
        (refine S_take 0 17 rfl (by kernel_rfl) (by repeat (first | exact retQ_p | apply seqQ_p | apply blkQ_p | apply rndQ_p | apply cutQ_p)) trivial ?_)
        (refine Gt ?_)
        (refine S_take 1 16 rfl (by kernel_rfl) (by repeat (first | exact retQ_p | apply seqQ_p | apply blkQ_p | apply rndQ_p | apply cutQ_p)) trivial ?_)
        (refine Gt ?_)
        (refine S_take 2 15 rfl (by kernel_rfl) (by repeat (first | exact retQ_p | apply seqQ_p | apply blkQ_p | apply rndQ_p | apply cutQ_p)) trivial ?_)
        (refine Gt ?_)
        (refine S_take 3 14 rfl (by kernel_rfl) (by repeat (first | exact retQ_p | apply seqQ_p | apply blkQ_p | apply rndQ_p | apply cutQ_p)) trivial ?_)
        (refine Gt ?_)
        (refine S_take 4 13 rfl (by kernel_rfl) (by repeat (first | exact retQ_p | apply seqQ_p | apply blkQ_p | apply rndQ_p | apply cutQ_p)) trivial ?_)
        (refine Gt ?_)
        (refine S_take 5 12 rfl (by kernel_rfl) (by repeat (first | exact retQ_p | apply seqQ_p | apply blkQ_p | apply rndQ_p | apply cutQ_p)) trivial ?_)
        (refine Gt ?_)
        (refine S_take 6 11 rfl (by kernel_rfl) (by repeat (first | exact retQ_p | apply seqQ_p | apply blkQ_p | apply rndQ_p | apply cutQ_p)) trivial ?_)
        (refine Gt ?_)
        (refine S_take 7 10 rfl (by kernel_rfl) (by repeat (first | exact retQ_p | apply seqQ_p | apply blkQ_p | apply rndQ_p | apply cutQ_p)) trivial ?_)
        (refine Gt ?_)
        (refine S_take 8 9 rfl (by kernel_rfl) (by repeat (first | exact retQ_p | apply seqQ_p | apply blkQ_p | apply rndQ_p | apply cutQ_p)) trivial ?_)
        (apply Qst_pu; (focus (first | (apply P_idx1; (focus rfl); (focus rfl); (focus rfl); (focus rfl); (focus rfl); (focus omega)) | (apply P_idxu; (focus rfl); (focus rfl); (focus rfl); (focus rfl); (focus rfl); (focus omega); (focus omega)))); (focus rfl); (repeat' (first | (apply Qst_nil) | (apply rnQ_k; (focus (exact trivial))))))
        (refine S_take 10 8 rfl (by kernel_rfl) (by repeat (first | exact retQ_p | apply seqQ_p | apply blkQ_p | apply rndQ_p | apply cutQ_p)) trivial ?_)
        (refine Gt ?_)
        (refine S_take 11 7 rfl (by kernel_rfl) (by repeat (first | exact retQ_p | apply seqQ_p | apply blkQ_p | apply rndQ_p | apply cutQ_p)) trivial ?_)
        (refine Gt ?_)
        (refine S_take 12 6 rfl (by kernel_rfl) (by repeat (first | exact retQ_p | apply seqQ_p | apply blkQ_p | apply rndQ_p | apply cutQ_p)) trivial ?_)
        (apply Qst_pu; (focus (first | (apply P_idx1; (focus rfl); (focus rfl); (focus rfl); (focus rfl); (focus rfl); (focus omega)) | (apply P_idxu; (focus rfl); (focus rfl); (focus rfl); (focus rfl); (focus rfl); (focus omega); (focus omega)))); (focus rfl); (repeat' (first | (apply Qst_nil) | (apply rnQ_k; (focus (exact trivial))))))
        refine S_any [9, 13] 5 rfl (by kernel_rfl) (all2 ?_ ?_)
        all_goals (refine Gt ?_)
        all_goals (refine ⟨trivial, ?_⟩)
        rotate_left
        (refine S_any [9] 4 rfl (by kernel_rfl) (all1 ?_))
        rotate_left
        (refine S_any [13] 4 rfl (by kernel_rfl) (all1 ?_))
        all_goals (refine Gt ?_)
        all_goals (refine ⟨trivial, ?_⟩)
        all_goals (refine S_take 14 3 rfl (by kernel_rfl) (by repeat (first | exact retQ_p | apply seqQ_p | apply blkQ_p | apply rndQ_p | apply cutQ_p)) trivial ?_)
        all_goals (apply Qst_pu; (focus (first | (apply P_idx1; (focus rfl); (focus rfl); (focus rfl); (focus rfl); (focus rfl); (focus omega)) | (apply P_idxu; (focus rfl); (focus rfl); (focus rfl); (focus rfl); (focus rfl); (focus omega); (focus omega)))); (focus rfl); (repeat' (first | (apply Qst_nil) | (apply rnQ_k; (focus (exact trivial))))))
        all_goals (refine S_any [15] 2 rfl (by kernel_rfl) (all1 ?_))
        all_goals (apply Lst_put (i := (q + 1)) (hb := hAd); (focus rfl); (focus rfl); (focus rfl); (focus rfl); (focus omega); (focus (first | (rw [List.length_append]; omega) | (rw [List.length_set, List.length_append]; omega))))
        all_goals (refine Gt ?_)
        all_goals (refine ⟨trivial, ?_⟩)
        all_goals (refine S_take 16 1 rfl (by kernel_rfl) (by repeat (first | exact retQ_p | apply seqQ_p | apply blkQ_p | apply rndQ_p | apply cutQ_p)) trivial ?_)
        all_goals (apply Qst_pu; (focus (first | (apply P_idx1; (focus rfl); (focus rfl); (focus rfl); (focus rfl); (focus rfl); (focus omega)) | (apply P_idxu; (focus rfl); (focus rfl); (focus rfl); (focus rfl); (focus rfl); (focus omega); (focus omega)))); (focus rfl); (repeat' (first | (apply Qst_nil) | (apply rnQ_k; (focus (exact trivial))))))
        all_goals (refine S_any [17] 0 rfl (by kernel_rfl) (all1 ?_))
        all_goals (apply Lst_put (i := q) (hb := Blk.put_same hAd.lt _ _); (focus rfl); (focus rfl); (focus rfl); (focus rfl); (focus omega); (focus (first | (rw [List.length_append]; omega) | (rw [List.length_set, List.length_append]; omega))))
        all_goals (refine Gt ?_)
        all_goals (refine ⟨trivial, ?_⟩)
        all_goals (refine S_done (by kernel_rfl) ?_)
        all_goals have hA2 : Arr ((A.drew.putObj b (.cells ((us k2 ++ post).set (q + 1) (.int .u64 k2[q]!)).toArray 27)).putObj b (.cells (((us k2 ++ post).set (q + 1) (.int .u64 k2[q]!)).set q (.int .u64 k2[(q + 1)]!)).toArray 27)) b (Go.Sort.swp k2 (q + 1) q) post := by unfold Arr; rw [us_swp k2 post (q + 1) q (by omega) (by omega)]; exact Blk.put_same (by rw [World.putObj_size]; exact hAd.lt) _ _
        all_goals have hc2 : Chg [b] w ((A.drew.putObj b (.cells ((us k2 ++ post).set (q + 1) (.int .u64 k2[q]!)).toArray 27)).putObj b (.cells (((us k2 ++ post).set (q + 1) (.int .u64 k2[q]!)).set q (.int .u64 k2[(q + 1)]!)).toArray 27)) := (hc.drew.put (by simp) _).put (by simp) _
        all_goals have hks2 := swp_size k2 (q + 1) q
        all_goals generalize (A.drew.putObj b (.cells ((us k2 ++ post).set (q + 1) (.int .u64 k2[q]!)).toArray 27)).putObj b (.cells (((us k2 ++ post).set (q + 1) (.int .u64 k2[q]!)).set q (.int .u64 k2[(q + 1)]!)).toArray 27) = A2 at *
        all_goals clear hAd hA hc hkl cI cJ
        all_goals (refine Ga ?_)
        all_goals refine rndQ_n (α := Nat × Array Int) (q, Go.Sort.swp k2 (q + 1) q) ⟨by dsimp only; omega, by dsimp only; omega, hH, hks2.trans hks, hA2, hc2⟩ ⟨rfl, rfl, rfl, rfl, ?_, trivial⟩ (Nat.lt_succ_self _)
        all_goals show Value.int .i64 (((q + 1 : Nat) : Int) - 1) = Value.int .i64 (q : Int)
        all_goals congr 1
        all_goals omega
  · rw [Go.Sort.insOuter, if_neg hib] at hG
    subst hG
    (refine Ga ?_)
    apply retQ0n
    exact ⟨rfl, hA, hc⟩
end So
namespace So
open Go Go.RowKit Sx
open Go.Sort (swp ltInt)
attribute [local irreducible] W Lst Qst Pu seqQ blkQ rndQ cutQ retQ Does Enters IntKind.wrap bits sb World.alloc World.putObj Blk
attribute [local irreducible] Rn Tk rnQ
attribute [local irreducible] RnS
set_option maxHeartbeats 2000000 in
theorem c_sift (b root hi first m c : Nat) (d : Array Int) (post : List Value) (hm : m = d.size) (hh : first + hi ≤ d.size) (hr : root < d.size) (hsz : d.size < 1152921504606846976) (w : World) (h : Arr w b d post) :
    Does Try.prog 88 #[.slice (some ⟨b, 0, none⟩) m c, .int .i64 (root : Int), .int .i64 (hi : Int), .int .i64 (first : Int)] w fun v w' => v = .tuple #[] ∧ Arr w' b (Go.Sort.siftDown ltInt hi first root d) post ∧ Chg [b] w w' := by
  refine Does_of (args := [.slice (some ⟨b, 0, none⟩) m c, .int .i64 (root : Int), .int .i64 (hi : Int), .int .i64 (first : Int)]) Try.func88 (by kernel_rfl) rfl rfl rfl rfl rfl ?_
  generalize hG : Go.Sort.siftDown ltInt hi first root d = G
  subst hm
  (refine Ga ?_)
  refine W_loop (α := Nat × Array Int) (fun x => [(0, .slice (some ⟨b, 0, none⟩) d.size c), (2, .int .i64 (hi : Int)), (3, .int .i64 (first : Int)), (8, .int .i64 (x.1 : Int))])
    (fun x A => x.1 < d.size ∧ Go.Sort.siftDown ltInt hi first x.1 x.2 = G ∧ x.2.size = d.size ∧ Arr A b x.2 post ∧ Chg [b] w A) (fun x _ => d.size - x.1) (root, d)
    ⟨hr, hG, rfl, h, Chg.refl _ _⟩ ⟨rfl, rfl, rfl, rfl, trivial⟩ ?_
  clear h hG hr root
  rintro J ⟨root, k⟩ A ⟨hr, hG, hks, hA, hc⟩
  dsimp only at hr hG hks hA ⊢
  rw [Go.Sort.siftDown] at hG
  by_cases h1 : 2 * root + 1 ≥ hi
  · rw [dif_pos h1] at hG
    subst hG
    (refine Ga ?_)
    apply retQ0n
    exact ⟨rfl, hA, hc⟩
  · rw [dif_neg h1] at hG
    (refine Ga ?_)
    by_cases h2 : 2 * root + 1 + 1 < hi
    · have hAd : Arr A.drew b k post := Blk.drew hA
      have c1 := hAd.cell (first + (2 * root + 1)) (by omega) (0 + ((first : Int) + (2 * (root : Int) + 1)).toNat) (by omega)
      have c2 := hAd.cell (first + (2 * root + 1) + 1) (by omega) (0 + ((first : Int) + (2 * (root : Int) + 1) + 1).toNat) (by omega)
      have hless := fun A => c_Less k[first + (2 * root + 1)]! k[first + (2 * root + 1) + 1]! A
      rcases hl1 : ltInt k[first + (2 * root + 1)]! k[first + (2 * root + 1) + 1]! with _ | _
      · rw [hl1] at hless
        rw [if_neg (by simp [hl1])] at hG
        refine W_draws (fun A' => A' = World.drew A) rfl (by kernel_rfl) rfl ?_
        (refine Qa ?_)
        apply Qst_call (.bool false)
        focus rfl
        focus rfl
        · rintro _ rfl
          exact (hless _).mono fun v w' h => ⟨h.1, h.2.symm⟩
        (refine Qa ?_)
        rintro A' rfl
        clear c1 c2 hless
        have hcd := hc.drew
        clear hA hc
        have hA := hAd
        have hc := hcd
        clear hAd hcd
        generalize A.drew = A at *
        (refine Ga ?_)
        have hAd : Arr A.drew b k post := Blk.drew hA
        have c1 := hAd.cell (first + root) (by omega) (0 + ((first : Int) + (root : Int)).toNat) (by omega)
        have c2 := hAd.cell (first + (2 * root + 1)) (by omega) (0 + ((first : Int) + (2 * (root : Int) + 1)).toNat) (by omega)
        have hless := fun A => c_Less k[first + root]! k[first + (2 * root + 1)]! A
        rcases hl : ltInt k[first + root]! k[first + (2 * root + 1)]! with _ | _
        · rw [hl] at hless
          have hk : k = G := by simpa [hl] using hG
          subst hk
          refine W_draws (fun A' => A' = World.drew A) rfl (by kernel_rfl) rfl ?_
          (refine Qa ?_)
          apply Qst_call (.bool false)
          focus rfl
          focus rfl
          · rintro _ rfl
            exact (hless _).mono fun v w' h => ⟨h.1, h.2.symm⟩
          (refine Qa ?_)
          rintro A' rfl
          clear c1 c2 hless
          have hcd := hc.drew
          clear hA hc
          have hA := hAd
          have hc := hcd
          clear hAd hcd
          generalize A.drew = A at *
          (refine Ga ?_)
          (first | apply retQ0n | apply retQ0)
          exact ⟨rfl, hA, hc⟩
        · rw [hl] at hless
          have hG2 : Go.Sort.siftDown ltInt hi first (2 * root + 1) (swp k (first + root) (first + (2 * root + 1))) = G := by
            have h3 : (2 * root + 1) < hi := by omega
            simpa [hl, h3] using hG
          clear hG
          refine W_draws (fun A' => A' = World.drew A) rfl (by kernel_rfl) rfl ?_
          (refine Qa ?_)
          apply Qst_call (.bool true)
          focus rfl
          focus rfl
          · rintro _ rfl
            exact (hless _).mono fun v w' h => ⟨h.1, h.2.symm⟩
          (refine Qa ?_)
          rintro A' rfl
          clear c1 c2 hless
          have hcd := hc.drew
          clear hA hc
          have hA := hAd
          have hc := hcd
          clear hAd hcd
          generalize A.drew = A at *
          (refine Ga ?_)
          have hAd : Arr A.drew b k post := Blk.drew hA
          have hkl := us_len k
          have cI := hAd.cell (first + root) (by omega) (0 + ((first : Int) + (root : Int)).toNat) (by omega)
          have cJ := hAd.cell (first + (2 * root + 1)) (by omega) (0 + ((first : Int) + (2 * (root : Int) + 1)).toNat) (by omega)
          refine W_drawS 24 (fun _ => True) rfl rfl ?_
          (refine S_take 0 23 rfl (by kernel_rfl) (by repeat (first | exact retQ_p | apply seqQ_p | apply blkQ_p | apply rndQ_p | apply cutQ_p)) trivial ?_)
          (refine Gt ?_)
          (refine S_take 1 22 rfl (by kernel_rfl) (by repeat (first | exact retQ_p | apply seqQ_p | apply blkQ_p | apply rndQ_p | apply cutQ_p)) trivial ?_)
          (refine Gt ?_)
          (refine S_take 2 21 rfl (by kernel_rfl) (by repeat (first | exact retQ_p | apply seqQ_p | apply blkQ_p | apply rndQ_p | apply cutQ_p)) trivial ?_)
          (refine Gt ?_)
          (refine S_take 3 20 rfl (by kernel_rfl) (by repeat (first | exact retQ_p | apply seqQ_p | apply blkQ_p | apply rndQ_p | apply cutQ_p)) trivial ?_)
          (refine Gt ?_)
          (refine S_take 4 19 rfl (by kernel_rfl) (by repeat (first | exact retQ_p | apply seqQ_p | apply blkQ_p | apply rndQ_p | apply cutQ_p)) trivial ?_)
          (refine Gt ?_)
          (refine S_take 5 18 rfl (by kernel_rfl) (by repeat (first | exact retQ_p | apply seqQ_p | apply blkQ_p | apply rndQ_p | apply cutQ_p)) trivial ?_)
          (refine Gt ?_)
          (refine S_take 6 17 rfl (by kernel_rfl) (by repeat (first | exact retQ_p | apply seqQ_p | apply blkQ_p | apply rndQ_p | apply cutQ_p)) trivial ?_)
          (refine Gt ?_)
          (refine S_take 7 16 rfl (by kernel_rfl) (by repeat (first | exact retQ_p | apply seqQ_p | apply blkQ_p | apply rndQ_p | apply cutQ_p)) trivial ?_)
          (refine Gt ?_)
          (refine S_take 8 15 rfl (by kernel_rfl) (by repeat (first | exact retQ_p | apply seqQ_p | apply blkQ_p | apply rndQ_p | apply cutQ_p)) trivial ?_)
          (refine Gt ?_)
          (refine S_take 9 14 rfl (by kernel_rfl) (by repeat (first | exact retQ_p | apply seqQ_p | apply blkQ_p | apply rndQ_p | apply cutQ_p)) trivial ?_)
          (refine Gt ?_)
          (refine S_take 10 13 rfl (by kernel_rfl) (by repeat (first | exact retQ_p | apply seqQ_p | apply blkQ_p | apply rndQ_p | apply cutQ_p)) trivial ?_)
          (refine Gt ?_)
          (refine S_take 11 12 rfl (by kernel_rfl) (by repeat (first | exact retQ_p | apply seqQ_p | apply blkQ_p | apply rndQ_p | apply cutQ_p)) trivial ?_)
          (refine Gt ?_)
          (refine S_take 12 11 rfl (by kernel_rfl) (by repeat (first | exact retQ_p | apply seqQ_p | apply blkQ_p | apply rndQ_p | apply cutQ_p)) trivial ?_)
          (apply Qst_pu; (focus (first | (apply P_idx1; (focus rfl); (focus rfl); (focus rfl); (focus rfl); (focus rfl); (focus omega)) | (apply P_idxu; (focus rfl); (focus rfl); (focus rfl); (focus rfl); (focus rfl); (focus omega); (focus omega)))); (focus rfl); (repeat' (first | (apply Qst_nil) | (apply rnQ_k; (focus (exact trivial))))))
          (refine S_take 14 10 rfl (by kernel_rfl) (by repeat (first | exact retQ_p | apply seqQ_p | apply blkQ_p | apply rndQ_p | apply cutQ_p)) trivial ?_)
          (refine Gt ?_)
          (refine S_take 15 9 rfl (by kernel_rfl) (by repeat (first | exact retQ_p | apply seqQ_p | apply blkQ_p | apply rndQ_p | apply cutQ_p)) trivial ?_)
          (refine Gt ?_)
          (refine S_take 16 8 rfl (by kernel_rfl) (by repeat (first | exact retQ_p | apply seqQ_p | apply blkQ_p | apply rndQ_p | apply cutQ_p)) trivial ?_)
          (refine Gt ?_)
          (refine S_take 17 7 rfl (by kernel_rfl) (by repeat (first | exact retQ_p | apply seqQ_p | apply blkQ_p | apply rndQ_p | apply cutQ_p)) trivial ?_)
          (refine Gt ?_)
          (refine S_take 18 6 rfl (by kernel_rfl) (by repeat (first | exact retQ_p | apply seqQ_p | apply blkQ_p | apply rndQ_p | apply cutQ_p)) trivial ?_)
          (apply Qst_pu; (focus (first | (apply P_idx1; (focus rfl); (focus rfl); (focus rfl); (focus rfl); (focus rfl); (focus omega)) | (apply P_idxu; (focus rfl); (focus rfl); (focus rfl); (focus rfl); (focus rfl); (focus omega); (focus omega)))); (focus rfl); (repeat' (first | (apply Qst_nil) | (apply rnQ_k; (focus (exact trivial))))))
          refine S_any [13, 19] 5 rfl (by kernel_rfl) (all2 ?_ ?_)
          all_goals (refine Gt ?_)
          all_goals (refine ⟨trivial, ?_⟩)
          rotate_left
          (refine S_any [13] 4 rfl (by kernel_rfl) (all1 ?_))
          rotate_left
          (refine S_any [19] 4 rfl (by kernel_rfl) (all1 ?_))
          all_goals (refine Gt ?_)
          all_goals (refine ⟨trivial, ?_⟩)
          all_goals (refine S_take 20 3 rfl (by kernel_rfl) (by repeat (first | exact retQ_p | apply seqQ_p | apply blkQ_p | apply rndQ_p | apply cutQ_p)) trivial ?_)
          all_goals (apply Qst_pu; (focus (first | (apply P_idx1; (focus rfl); (focus rfl); (focus rfl); (focus rfl); (focus rfl); (focus omega)) | (apply P_idxu; (focus rfl); (focus rfl); (focus rfl); (focus rfl); (focus rfl); (focus omega); (focus omega)))); (focus rfl); (repeat' (first | (apply Qst_nil) | (apply rnQ_k; (focus (exact trivial))))))
          all_goals (refine S_any [21] 2 rfl (by kernel_rfl) (all1 ?_))
          all_goals (apply Lst_put (i := (first + root)) (hb := hAd); (focus rfl); (focus rfl); (focus rfl); (focus rfl); (focus omega); (focus (first | (rw [List.length_append]; omega) | (rw [List.length_set, List.length_append]; omega))))
          all_goals (refine Gt ?_)
          all_goals (refine ⟨trivial, ?_⟩)
          all_goals (refine S_take 22 1 rfl (by kernel_rfl) (by repeat (first | exact retQ_p | apply seqQ_p | apply blkQ_p | apply rndQ_p | apply cutQ_p)) trivial ?_)
          all_goals (apply Qst_pu; (focus (first | (apply P_idx1; (focus rfl); (focus rfl); (focus rfl); (focus rfl); (focus rfl); (focus omega)) | (apply P_idxu; (focus rfl); (focus rfl); (focus rfl); (focus rfl); (focus rfl); (focus omega); (focus omega)))); (focus rfl); (repeat' (first | (apply Qst_nil) | (apply rnQ_k; (focus (exact trivial))))))
          all_goals (refine S_any [23] 0 rfl (by kernel_rfl) (all1 ?_))
          all_goals (apply Lst_put (i := (first + (2 * root + 1))) (hb := Blk.put_same hAd.lt _ _); (focus rfl); (focus rfl); (focus rfl); (focus rfl); (focus omega); (focus (first | (rw [List.length_append]; omega) | (rw [List.length_set, List.length_append]; omega))))
          all_goals (refine Gt ?_)
          all_goals (refine ⟨trivial, ?_⟩)
          all_goals (refine S_done (by kernel_rfl) ?_)
          all_goals have hA2 : Arr ((A.drew.putObj b (.cells ((us k ++ post).set (first + root) (.int .u64 k[(first + (2 * root + 1))]!)).toArray 27)).putObj b (.cells (((us k ++ post).set (first + root) (.int .u64 k[(first + (2 * root + 1))]!)).set (first + (2 * root + 1)) (.int .u64 k[(first + root)]!)).toArray 27)) b (Go.Sort.swp k (first + root) (first + (2 * root + 1))) post := by unfold Arr; rw [us_swp k post (first + root) (first + (2 * root + 1)) (by omega) (by omega)]; exact Blk.put_same (by rw [World.putObj_size]; exact hAd.lt) _ _
          all_goals have hc2 : Chg [b] w ((A.drew.putObj b (.cells ((us k ++ post).set (first + root) (.int .u64 k[(first + (2 * root + 1))]!)).toArray 27)).putObj b (.cells (((us k ++ post).set (first + root) (.int .u64 k[(first + (2 * root + 1))]!)).set (first + (2 * root + 1)) (.int .u64 k[(first + root)]!)).toArray 27)) := (hc.drew.put (by simp) _).put (by simp) _
          all_goals have hks2 := swp_size k (first + root) (first + (2 * root + 1))
          all_goals generalize (A.drew.putObj b (.cells ((us k ++ post).set (first + root) (.int .u64 k[(first + (2 * root + 1))]!)).toArray 27)).putObj b (.cells (((us k ++ post).set (first + root) (.int .u64 k[(first + (2 * root + 1))]!)).set (first + (2 * root + 1)) (.int .u64 k[(first + root)]!)).toArray 27) = A2 at *
          all_goals clear hAd hA hc hkl cI cJ
          all_goals (refine Ga ?_)
          all_goals refine rndQ_n (α := Nat × Array Int) ((2 * root + 1), swp k (first + root) (first + (2 * root + 1))) ⟨by dsimp only; omega, hG2, hks2.trans hks, hA2, hc2⟩ ⟨rfl, rfl, rfl, ?_, trivial⟩ (by dsimp only; omega)
          all_goals show Value.int .i64 (2 * (root : Int) + 1) = Value.int .i64 (((2 * root + 1) : Nat) : Int)
          all_goals congr 1
          all_goals omega
      · rw [hl1] at hless
        rw [if_pos (by simp [hl1]; omega)] at hG
        refine W_draws (fun A' => A' = World.drew A) rfl (by kernel_rfl) rfl ?_
        (refine Qa ?_)
        apply Qst_call (.bool true)
        focus rfl
        focus rfl
        · rintro _ rfl
          exact (hless _).mono fun v w' h => ⟨h.1, h.2.symm⟩
        (refine Qa ?_)
        rintro A' rfl
        clear c1 c2 hless
        have hcd := hc.drew
        clear hA hc
        have hA := hAd
        have hc := hcd
        clear hAd hcd
        generalize A.drew = A at *
        (refine Ga ?_)
        have hAd : Arr A.drew b k post := Blk.drew hA
        have c1 := hAd.cell (first + root) (by omega) (0 + ((first : Int) + (root : Int)).toNat) (by omega)
        have c2 := hAd.cell (first + (2 * root + 2)) (by omega) (0 + ((first : Int) + (2 * (root : Int) + 1 + 1)).toNat) (by omega)
        have hless := fun A => c_Less k[first + root]! k[first + (2 * root + 2)]! A
        rcases hl : ltInt k[first + root]! k[first + (2 * root + 2)]! with _ | _
        · rw [hl] at hless
          have hk : k = G := by simpa [hl] using hG
          subst hk
          refine W_draws (fun A' => A' = World.drew A) rfl (by kernel_rfl) rfl ?_
          (refine Qa ?_)
          apply Qst_call (.bool false)
          focus rfl
          focus rfl
          · rintro _ rfl
            exact (hless _).mono fun v w' h => ⟨h.1, h.2.symm⟩
          (refine Qa ?_)
          rintro A' rfl
          clear c1 c2 hless
          have hcd := hc.drew
          clear hA hc
          have hA := hAd
          have hc := hcd
          clear hAd hcd
          generalize A.drew = A at *
          (refine Ga ?_)
          (first | apply retQ0n | apply retQ0)
          exact ⟨rfl, hA, hc⟩
        · rw [hl] at hless
          have hG2 : Go.Sort.siftDown ltInt hi first (2 * root + 2) (swp k (first + root) (first + (2 * root + 2))) = G := by
            have h3 : (2 * root + 2) < hi := by omega
            simpa [hl, h3] using hG
          clear hG
          refine W_draws (fun A' => A' = World.drew A) rfl (by kernel_rfl) rfl ?_
          (refine Qa ?_)
          apply Qst_call (.bool true)
          focus rfl
          focus rfl
          · rintro _ rfl
            exact (hless _).mono fun v w' h => ⟨h.1, h.2.symm⟩
          (refine Qa ?_)
          rintro A' rfl
          clear c1 c2 hless
          have hcd := hc.drew
          clear hA hc
          have hA := hAd
          have hc := hcd
          clear hAd hcd
          generalize A.drew = A at *
          (refine Ga ?_)
          have hAd : Arr A.drew b k post := Blk.drew hA
          have hkl := us_len k
          have cI := hAd.cell (first + root) (by omega) (0 + ((first : Int) + (root : Int)).toNat) (by omega)
          have cJ := hAd.cell (first + (2 * root + 2)) (by omega) (0 + ((first : Int) + (2 * (root : Int) + 1 + 1)).toNat) (by omega)
          refine W_drawS 24 (fun _ => True) rfl rfl ?_
          (refine S_take 0 23 rfl (by kernel_rfl) (by repeat (first | exact retQ_p | apply seqQ_p | apply blkQ_p | apply rndQ_p | apply cutQ_p)) trivial ?_)
          (refine Gt ?_)
          (refine S_take 1 22 rfl (by kernel_rfl) (by repeat (first | exact retQ_p | apply seqQ_p | apply blkQ_p | apply rndQ_p | apply cutQ_p)) trivial ?_)
          (refine Gt ?_)
          (refine S_take 2 21 rfl (by kernel_rfl) (by repeat (first | exact retQ_p | apply seqQ_p | apply blkQ_p | apply rndQ_p | apply cutQ_p)) trivial ?_)
          (refine Gt ?_)
          (refine S_take 3 20 rfl (by kernel_rfl) (by repeat (first | exact retQ_p | apply seqQ_p | apply blkQ_p | apply rndQ_p | apply cutQ_p)) trivial ?_)
          (refine Gt ?_)
          (refine S_take 4 19 rfl (by kernel_rfl) (by repeat (first | exact retQ_p | apply seqQ_p | apply blkQ_p | apply rndQ_p | apply cutQ_p)) trivial ?_)
          (refine Gt ?_)
          (refine S_take 5 18 rfl (by kernel_rfl) (by repeat (first | exact retQ_p | apply seqQ_p | apply blkQ_p | apply rndQ_p | apply cutQ_p)) trivial ?_)
          (refine Gt ?_)
          (refine S_take 6 17 rfl (by kernel_rfl) (by repeat (first | exact retQ_p | apply seqQ_p | apply blkQ_p | apply rndQ_p | apply cutQ_p)) trivial ?_)
          (refine Gt ?_)
          (refine S_take 7 16 rfl (by kernel_rfl) (by repeat (first | exact retQ_p | apply seqQ_p | apply blkQ_p | apply rndQ_p | apply cutQ_p)) trivial ?_)
          (refine Gt ?_)
          (refine S_take 8 15 rfl (by kernel_rfl) (by repeat (first | exact retQ_p | apply seqQ_p | apply blkQ_p | apply rndQ_p | apply cutQ_p)) trivial ?_)
          (refine Gt ?_)
          (refine S_take 9 14 rfl (by kernel_rfl) (by repeat (first | exact retQ_p | apply seqQ_p | apply blkQ_p | apply rndQ_p | apply cutQ_p)) trivial ?_)
          (refine Gt ?_)
          (refine S_take 10 13 rfl (by kernel_rfl) (by repeat (first | exact retQ_p | apply seqQ_p | apply blkQ_p | apply rndQ_p | apply cutQ_p)) trivial ?_)
          (refine Gt ?_)
          (refine S_take 11 12 rfl (by kernel_rfl) (by repeat (first | exact retQ_p | apply seqQ_p | apply blkQ_p | apply rndQ_p | apply cutQ_p)) trivial ?_)
          (refine Gt ?_)
          (refine S_take 12 11 rfl (by kernel_rfl) (by repeat (first | exact retQ_p | apply seqQ_p | apply blkQ_p | apply rndQ_p | apply cutQ_p)) trivial ?_)
          (apply Qst_pu; (focus (first | (apply P_idx1; (focus rfl); (focus rfl); (focus rfl); (focus rfl); (focus rfl); (focus omega)) | (apply P_idxu; (focus rfl); (focus rfl); (focus rfl); (focus rfl); (focus rfl); (focus omega); (focus omega)))); (focus rfl); (repeat' (first | (apply Qst_nil) | (apply rnQ_k; (focus (exact trivial))))))
          (refine S_take 14 10 rfl (by kernel_rfl) (by repeat (first | exact retQ_p | apply seqQ_p | apply blkQ_p | apply rndQ_p | apply cutQ_p)) trivial ?_)
          (refine Gt ?_)
          (refine S_take 15 9 rfl (by kernel_rfl) (by repeat (first | exact retQ_p | apply seqQ_p | apply blkQ_p | apply rndQ_p | apply cutQ_p)) trivial ?_)
          (refine Gt ?_)
          (refine S_take 16 8 rfl (by kernel_rfl) (by repeat (first | exact retQ_p | apply seqQ_p | apply blkQ_p | apply rndQ_p | apply cutQ_p)) trivial ?_)
          (refine Gt ?_)
          (refine S_take 17 7 rfl (by kernel_rfl) (by repeat (first | exact retQ_p | apply seqQ_p | apply blkQ_p | apply rndQ_p | apply cutQ_p)) trivial ?_)
          (refine Gt ?_)
          (refine S_take 18 6 rfl (by kernel_rfl) (by repeat (first | exact retQ_p | apply seqQ_p | apply blkQ_p | apply rndQ_p | apply cutQ_p)) trivial ?_)
          (apply Qst_pu; (focus (first | (apply P_idx1; (focus rfl); (focus rfl); (focus rfl); (focus rfl); (focus rfl); (focus omega)) | (apply P_idxu; (focus rfl); (focus rfl); (focus rfl); (focus rfl); (focus rfl); (focus omega); (focus omega)))); (focus rfl); (repeat' (first | (apply Qst_nil) | (apply rnQ_k; (focus (exact trivial))))))
          refine S_any [13, 19] 5 rfl (by kernel_rfl) (all2 ?_ ?_)
          all_goals (refine Gt ?_)
          all_goals (refine ⟨trivial, ?_⟩)
          rotate_left
          (refine S_any [13] 4 rfl (by kernel_rfl) (all1 ?_))
          rotate_left
          (refine S_any [19] 4 rfl (by kernel_rfl) (all1 ?_))
          all_goals (refine Gt ?_)
          all_goals (refine ⟨trivial, ?_⟩)
          all_goals (refine S_take 20 3 rfl (by kernel_rfl) (by repeat (first | exact retQ_p | apply seqQ_p | apply blkQ_p | apply rndQ_p | apply cutQ_p)) trivial ?_)
          all_goals (apply Qst_pu; (focus (first | (apply P_idx1; (focus rfl); (focus rfl); (focus rfl); (focus rfl); (focus rfl); (focus omega)) | (apply P_idxu; (focus rfl); (focus rfl); (focus rfl); (focus rfl); (focus rfl); (focus omega); (focus omega)))); (focus rfl); (repeat' (first | (apply Qst_nil) | (apply rnQ_k; (focus (exact trivial))))))
          all_goals (refine S_any [21] 2 rfl (by kernel_rfl) (all1 ?_))
          all_goals (apply Lst_put (i := (first + root)) (hb := hAd); (focus rfl); (focus rfl); (focus rfl); (focus rfl); (focus omega); (focus (first | (rw [List.length_append]; omega) | (rw [List.length_set, List.length_append]; omega))))
          all_goals (refine Gt ?_)
          all_goals (refine ⟨trivial, ?_⟩)
          all_goals (refine S_take 22 1 rfl (by kernel_rfl) (by repeat (first | exact retQ_p | apply seqQ_p | apply blkQ_p | apply rndQ_p | apply cutQ_p)) trivial ?_)
          all_goals (apply Qst_pu; (focus (first | (apply P_idx1; (focus rfl); (focus rfl); (focus rfl); (focus rfl); (focus rfl); (focus omega)) | (apply P_idxu; (focus rfl); (focus rfl); (focus rfl); (focus rfl); (focus rfl); (focus omega); (focus omega)))); (focus rfl); (repeat' (first | (apply Qst_nil) | (apply rnQ_k; (focus (exact trivial))))))
          all_goals (refine S_any [23] 0 rfl (by kernel_rfl) (all1 ?_))
          all_goals (apply Lst_put (i := (first + (2 * root + 2))) (hb := Blk.put_same hAd.lt _ _); (focus rfl); (focus rfl); (focus rfl); (focus rfl); (focus omega); (focus (first | (rw [List.length_append]; omega) | (rw [List.length_set, List.length_append]; omega))))
          all_goals (refine Gt ?_)
          all_goals (refine ⟨trivial, ?_⟩)
          all_goals (refine S_done (by kernel_rfl) ?_)
          all_goals have hA2 : Arr ((A.drew.putObj b (.cells ((us k ++ post).set (first + root) (.int .u64 k[(first + (2 * root + 2))]!)).toArray 27)).putObj b (.cells (((us k ++ post).set (first + root) (.int .u64 k[(first + (2 * root + 2))]!)).set (first + (2 * root + 2)) (.int .u64 k[(first + root)]!)).toArray 27)) b (Go.Sort.swp k (first + root) (first + (2 * root + 2))) post := by unfold Arr; rw [us_swp k post (first + root) (first + (2 * root + 2)) (by omega) (by omega)]; exact Blk.put_same (by rw [World.putObj_size]; exact hAd.lt) _ _
          all_goals have hc2 : Chg [b] w ((A.drew.putObj b (.cells ((us k ++ post).set (first + root) (.int .u64 k[(first + (2 * root + 2))]!)).toArray 27)).putObj b (.cells (((us k ++ post).set (first + root) (.int .u64 k[(first + (2 * root + 2))]!)).set (first + (2 * root + 2)) (.int .u64 k[(first + root)]!)).toArray 27)) := (hc.drew.put (by simp) _).put (by simp) _
          all_goals have hks2 := swp_size k (first + root) (first + (2 * root + 2))
          all_goals generalize (A.drew.putObj b (.cells ((us k ++ post).set (first + root) (.int .u64 k[(first + (2 * root + 2))]!)).toArray 27)).putObj b (.cells (((us k ++ post).set (first + root) (.int .u64 k[(first + (2 * root + 2))]!)).set (first + (2 * root + 2)) (.int .u64 k[(first + root)]!)).toArray 27) = A2 at *
          all_goals clear hAd hA hc hkl cI cJ
          all_goals (refine Ga ?_)
          all_goals refine rndQ_n (α := Nat × Array Int) ((2 * root + 2), swp k (first + root) (first + (2 * root + 2))) ⟨by dsimp only; omega, hG2, hks2.trans hks, hA2, hc2⟩ ⟨rfl, rfl, rfl, ?_, trivial⟩ (by dsimp only; omega)
          all_goals show Value.int .i64 (2 * (root : Int) + 1 + 1) = Value.int .i64 (((2 * root + 2) : Nat) : Int)
          all_goals congr 1
          all_goals omega
    · rw [if_neg (by simp; omega)] at hG
      have hAd : Arr A.drew b k post := Blk.drew hA
      refine W_draws (fun A' => A' = World.drew A) rfl (by kernel_rfl) rfl ?_
      (refine Qa ?_)
      rintro A' rfl
      have hcd := hc.drew
      clear hA hc
      have hA := hAd
      have hc := hcd
      clear hAd hcd
      generalize A.drew = A at *
      (refine Ga ?_)
      have hAd : Arr A.drew b k post := Blk.drew hA
      have c1 := hAd.cell (first + root) (by omega) (0 + ((first : Int) + (root : Int)).toNat) (by omega)
      have c2 := hAd.cell (first + (2 * root + 1)) (by omega) (0 + ((first : Int) + (2 * (root : Int) + 1)).toNat) (by omega)
      have hless := fun A => c_Less k[first + root]! k[first + (2 * root + 1)]! A
      rcases hl : ltInt k[first + root]! k[first + (2 * root + 1)]! with _ | _
      · rw [hl] at hless
        have hk : k = G := by simpa [hl] using hG
        subst hk
        refine W_draws (fun A' => A' = World.drew A) rfl (by kernel_rfl) rfl ?_
        (refine Qa ?_)
        apply Qst_call (.bool false)
        focus rfl
        focus rfl
        · rintro _ rfl
          exact (hless _).mono fun v w' h => ⟨h.1, h.2.symm⟩
        (refine Qa ?_)
        rintro A' rfl
        clear c1 c2 hless
        have hcd := hc.drew
        clear hA hc
        have hA := hAd
        have hc := hcd
        clear hAd hcd
        generalize A.drew = A at *
        (refine Ga ?_)
        (first | apply retQ0n | apply retQ0)
        exact ⟨rfl, hA, hc⟩
      · rw [hl] at hless
        have hG2 : Go.Sort.siftDown ltInt hi first (2 * root + 1) (swp k (first + root) (first + (2 * root + 1))) = G := by
          have h3 : (2 * root + 1) < hi := by omega
          simpa [hl, h3] using hG
        clear hG
        refine W_draws (fun A' => A' = World.drew A) rfl (by kernel_rfl) rfl ?_
        (refine Qa ?_)
        apply Qst_call (.bool true)
        focus rfl
        focus rfl
        · rintro _ rfl
          exact (hless _).mono fun v w' h => ⟨h.1, h.2.symm⟩
        (refine Qa ?_)
        rintro A' rfl
        clear c1 c2 hless
        have hcd := hc.drew
        clear hA hc
        have hA := hAd
        have hc := hcd
        clear hAd hcd
        generalize A.drew = A at *
        (refine Ga ?_)
        have hAd : Arr A.drew b k post := Blk.drew hA
        have hkl := us_len k
        have cI := hAd.cell (first + root) (by omega) (0 + ((first : Int) + (root : Int)).toNat) (by omega)
        have cJ := hAd.cell (first + (2 * root + 1)) (by omega) (0 + ((first : Int) + (2 * (root : Int) + 1)).toNat) (by omega)
        refine W_drawS 24 (fun _ => True) rfl rfl ?_
        (refine S_take 0 23 rfl (by kernel_rfl) (by repeat (first | exact retQ_p | apply seqQ_p | apply blkQ_p | apply rndQ_p | apply cutQ_p)) trivial ?_)
        (refine Gt ?_)
        (refine S_take 1 22 rfl (by kernel_rfl) (by repeat (first | exact retQ_p | apply seqQ_p | apply blkQ_p | apply rndQ_p | apply cutQ_p)) trivial ?_)
        (refine Gt ?_)
        (refine S_take 2 21 rfl (by kernel_rfl) (by repeat (first | exact retQ_p | apply seqQ_p | apply blkQ_p | apply rndQ_p | apply cutQ_p)) trivial ?_)
        (refine Gt ?_)
        (refine S_take 3 20 rfl (by kernel_rfl) (by repeat (first | exact retQ_p | apply seqQ_p | apply blkQ_p | apply rndQ_p | apply cutQ_p)) trivial ?_)
        (refine Gt ?_)
        (refine S_take 4 19 rfl (by kernel_rfl) (by repeat (first | exact retQ_p | apply seqQ_p | apply blkQ_p | apply rndQ_p | apply cutQ_p)) trivial ?_)
        (refine Gt ?_)
        (refine S_take 5 18 rfl (by kernel_rfl) (by repeat (first | exact retQ_p | apply seqQ_p | apply blkQ_p | apply rndQ_p | apply cutQ_p)) trivial ?_)
        (refine Gt ?_)
        (refine S_take 6 17 rfl (by kernel_rfl) (by repeat (first | exact retQ_p | apply seqQ_p | apply blkQ_p | apply rndQ_p | apply cutQ_p)) trivial ?_)
        (refine Gt ?_)
        (refine S_take 7 16 rfl (by kernel_rfl) (by repeat (first | exact retQ_p | apply seqQ_p | apply blkQ_p | apply rndQ_p | apply cutQ_p)) trivial ?_)
        (refine Gt ?_)
        (refine S_take 8 15 rfl (by kernel_rfl) (by repeat (first | exact retQ_p | apply seqQ_p | apply blkQ_p | apply rndQ_p | apply cutQ_p)) trivial ?_)
        (refine Gt ?_)
        (refine S_take 9 14 rfl (by kernel_rfl) (by repeat (first | exact retQ_p | apply seqQ_p | apply blkQ_p | apply rndQ_p | apply cutQ_p)) trivial ?_)
        (refine Gt ?_)
        (refine S_take 10 13 rfl (by kernel_rfl) (by repeat (first | exact retQ_p | apply seqQ_p | apply blkQ_p | apply rndQ_p | apply cutQ_p)) trivial ?_)
        (refine Gt ?_)
        (refine S_take 11 12 rfl (by kernel_rfl) (by repeat (first | exact retQ_p | apply seqQ_p | apply blkQ_p | apply rndQ_p | apply cutQ_p)) trivial ?_)
        (refine Gt ?_)
        (refine S_take 12 11 rfl (by kernel_rfl) (by repeat (first | exact retQ_p | apply seqQ_p | apply blkQ_p | apply rndQ_p | apply cutQ_p)) trivial ?_)
        (apply Qst_pu; (focus (first | (apply P_idx1; (focus rfl); (focus rfl); (focus rfl); (focus rfl); (focus rfl); (focus omega)) | (apply P_idxu; (focus rfl); (focus rfl); (focus rfl); (focus rfl); (focus rfl); (focus omega); (focus omega)))); (focus rfl); (repeat' (first | (apply Qst_nil) | (apply rnQ_k; (focus (exact trivial))))))
        (refine S_take 14 10 rfl (by kernel_rfl) (by repeat (first | exact retQ_p | apply seqQ_p | apply blkQ_p | apply rndQ_p | apply cutQ_p)) trivial ?_)
        (refine Gt ?_)
        (refine S_take 15 9 rfl (by kernel_rfl) (by repeat (first | exact retQ_p | apply seqQ_p | apply blkQ_p | apply rndQ_p | apply cutQ_p)) trivial ?_)
        (refine Gt ?_)
        (refine S_take 16 8 rfl (by kernel_rfl) (by repeat (first | exact retQ_p | apply seqQ_p | apply blkQ_p | apply rndQ_p | apply cutQ_p)) trivial ?_)
        (refine Gt ?_)
        (refine S_take 17 7 rfl (by kernel_rfl) (by repeat (first | exact retQ_p | apply seqQ_p | apply blkQ_p | apply rndQ_p | apply cutQ_p)) trivial ?_)
        (refine Gt ?_)
        (refine S_take 18 6 rfl (by kernel_rfl) (by repeat (first | exact retQ_p | apply seqQ_p | apply blkQ_p | apply rndQ_p | apply cutQ_p)) trivial ?_)
        (apply Qst_pu; (focus (first | (apply P_idx1; (focus rfl); (focus rfl); (focus rfl); (focus rfl); (focus rfl); (focus omega)) | (apply P_idxu; (focus rfl); (focus rfl); (focus rfl); (focus rfl); (focus rfl); (focus omega); (focus omega)))); (focus rfl); (repeat' (first | (apply Qst_nil) | (apply rnQ_k; (focus (exact trivial))))))
        refine S_any [13, 19] 5 rfl (by kernel_rfl) (all2 ?_ ?_)
        all_goals (refine Gt ?_)
        all_goals (refine ⟨trivial, ?_⟩)
        rotate_left
        (refine S_any [13] 4 rfl (by kernel_rfl) (all1 ?_))
        rotate_left
        (refine S_any [19] 4 rfl (by kernel_rfl) (all1 ?_))
        all_goals (refine Gt ?_)
        all_goals (refine ⟨trivial, ?_⟩)
        all_goals (refine S_take 20 3 rfl (by kernel_rfl) (by repeat (first | exact retQ_p | apply seqQ_p | apply blkQ_p | apply rndQ_p | apply cutQ_p)) trivial ?_)
        all_goals (apply Qst_pu; (focus (first | (apply P_idx1; (focus rfl); (focus rfl); (focus rfl); (focus rfl); (focus rfl); (focus omega)) | (apply P_idxu; (focus rfl); (focus rfl); (focus rfl); (focus rfl); (focus rfl); (focus omega); (focus omega)))); (focus rfl); (repeat' (first | (apply Qst_nil) | (apply rnQ_k; (focus (exact trivial))))))
        all_goals (refine S_any [21] 2 rfl (by kernel_rfl) (all1 ?_))
        all_goals (apply Lst_put (i := (first + root)) (hb := hAd); (focus rfl); (focus rfl); (focus rfl); (focus rfl); (focus omega); (focus (first | (rw [List.length_append]; omega) | (rw [List.length_set, List.length_append]; omega))))
        all_goals (refine Gt ?_)
        all_goals (refine ⟨trivial, ?_⟩)
        all_goals (refine S_take 22 1 rfl (by kernel_rfl) (by repeat (first | exact retQ_p | apply seqQ_p | apply blkQ_p | apply rndQ_p | apply cutQ_p)) trivial ?_)
        all_goals (apply Qst_pu; (focus (first | (apply P_idx1; (focus rfl); (focus rfl); (focus rfl); (focus rfl); (focus rfl); (focus omega)) | (apply P_idxu; (focus rfl); (focus rfl); (focus rfl); (focus rfl); (focus rfl); (focus omega); (focus omega)))); (focus rfl); (repeat' (first | (apply Qst_nil) | (apply rnQ_k; (focus (exact trivial))))))
        all_goals (refine S_any [23] 0 rfl (by kernel_rfl) (all1 ?_))
        all_goals (apply Lst_put (i := (first + (2 * root + 1))) (hb := Blk.put_same hAd.lt _ _); (focus rfl); (focus rfl); (focus rfl); (focus rfl); (focus omega); (focus (first | (rw [List.length_append]; omega) | (rw [List.length_set, List.length_append]; omega))))
        all_goals (refine Gt ?_)
        all_goals (refine ⟨trivial, ?_⟩)
        all_goals (refine S_done (by kernel_rfl) ?_)
        all_goals have hA2 : Arr ((A.drew.putObj b (.cells ((us k ++ post).set (first + root) (.int .u64 k[(first + (2 * root + 1))]!)).toArray 27)).putObj b (.cells (((us k ++ post).set (first + root) (.int .u64 k[(first + (2 * root + 1))]!)).set (first + (2 * root + 1)) (.int .u64 k[(first + root)]!)).toArray 27)) b (Go.Sort.swp k (first + root) (first + (2 * root + 1))) post := by unfold Arr; rw [us_swp k post (first + root) (first + (2 * root + 1)) (by omega) (by omega)]; exact Blk.put_same (by rw [World.putObj_size]; exact hAd.lt) _ _
        all_goals have hc2 : Chg [b] w ((A.drew.putObj b (.cells ((us k ++ post).set (first + root) (.int .u64 k[(first + (2 * root + 1))]!)).toArray 27)).putObj b (.cells (((us k ++ post).set (first + root) (.int .u64 k[(first + (2 * root + 1))]!)).set (first + (2 * root + 1)) (.int .u64 k[(first + root)]!)).toArray 27)) := (hc.drew.put (by simp) _).put (by simp) _
        all_goals have hks2 := swp_size k (first + root) (first + (2 * root + 1))
        all_goals generalize (A.drew.putObj b (.cells ((us k ++ post).set (first + root) (.int .u64 k[(first + (2 * root + 1))]!)).toArray 27)).putObj b (.cells (((us k ++ post).set (first + root) (.int .u64 k[(first + (2 * root + 1))]!)).set (first + (2 * root + 1)) (.int .u64 k[(first + root)]!)).toArray 27) = A2 at *
        all_goals clear hAd hA hc hkl cI cJ
        all_goals (refine Ga ?_)
        all_goals refine rndQ_n (α := Nat × Array Int) ((2 * root + 1), swp k (first + root) (first + (2 * root + 1))) ⟨by dsimp only; omega, hG2, hks2.trans hks, hA2, hc2⟩ ⟨rfl, rfl, rfl, ?_, trivial⟩ (by dsimp only; omega)
        all_goals show Value.int .i64 (2 * (root : Int) + 1) = Value.int .i64 (((2 * root + 1) : Nat) : Int)
        all_goals congr 1
        all_goals omega
end So
namespace So
open Go Go.RowKit Sx
open Go.Sort (swp ltInt)
attribute [local irreducible] W Lst Qst Pu seqQ blkQ rndQ cutQ retQ Does Enters IntKind.wrap bits sb World.alloc World.putObj Blk
attribute [local irreducible] Rn Tk rnQ
attribute [local irreducible] RnS
theorem c_siftZ (b root hi first m c : Nat) (d : Array Int) (post : List Value) (hm : m = d.size) (hh : first + hi ≤ d.size) (hr : root < d.size) (hsz : d.size < 1152921504606846976) (z1 z2 z3 : Int) (e1 : z1 = root) (e2 : z2 = hi) (e3 : z3 = first) (w : World) (h : Arr w b d post) :
    Does Try.prog 88 #[.slice (some ⟨b, 0, none⟩) m c, .int .i64 z1, .int .i64 z2, .int .i64 z3] w fun v w' => v = .tuple #[] ∧ Arr w' b (Go.Sort.siftDown ltInt hi first root d) post ∧ Chg [b] w w' := by
  subst e1 e2 e3
  exact c_sift b root hi first m c d post hm hh hr hsz w h
theorem sift_size : ∀ (hi first root : Nat) (d : Array Int), (Go.Sort.siftDown ltInt hi first root d).size = d.size := by
  intro hi first root d
  fun_induction Go.Sort.siftDown ltInt hi first root d <;> simp_all [swp_size]
theorem build_size (hi first : Nat) : ∀ (k : Nat) (d : Array Int), (Go.Sort.heapBuild ltInt hi first k d).size = d.size
  | 0, _ => rfl
  | k + 1, d => by rw [Go.Sort.heapBuild, build_size hi first k, sift_size]
set_option maxHeartbeats 2000000 in
theorem c_heap (b a L m c : Nat) (d : Array Int) (post : List Value) (hm : m = d.size) (hh : a + L ≤ d.size) (hL : 1 ≤ L) (hsz : d.size < 1152921504606846976) (w : World) (h : Arr w b d post) :
    Does Try.prog 78 #[.slice (some ⟨b, 0, none⟩) m c, .int .i64 (a : Int), .int .i64 ((a + L : Nat) : Int)] w fun v w' => v = .tuple #[] ∧ Arr w' b (Go.Sort.heapSort ltInt d a (a + L)) post ∧ Chg [b] w w' := by
  refine Does_of (args := [.slice (some ⟨b, 0, none⟩) m c, .int .i64 (a : Int), .int .i64 ((a + L : Nat) : Int)]) Try.func78 (by kernel_rfl) rfl rfl rfl rfl rfl ?_
  generalize hG : Go.Sort.heapSort ltInt d a (a + L) = G
  unfold Go.Sort.heapSort at hG
  rw [Nat.add_sub_cancel_left] at hG
  generalize hH : Go.Sort.heapBuild ltInt L a ((L - 1) / 2 + 1) d = H at hG
  have hHs : H.size = d.size := by rw [← hH]; exact build_size _ _ _ _
  subst hm
  (refine Ga ?_)
  refine W_loop (α := Nat × Array Int) (fun x => [(0, .slice (some ⟨b, 0, none⟩) d.size c), (6, .int .i64 (a : Int)), (7, .int .i64 0), (8, .int .i64 (L : Int)), (9, .int .i64 ((x.1 : Int) - 1))])
    (fun x A => x.1 ≤ L ∧ Go.Sort.heapBuild ltInt L a x.1 x.2 = H ∧ x.2.size = d.size ∧ Arr A b x.2 post ∧ Chg [b] w A) (fun x _ => x.1) ((L - 1) / 2 + 1, d)
    ⟨by dsimp only; omega, hH, rfl, h, Chg.refl _ _⟩ ⟨rfl, rfl, rfl, ?_, ?_, trivial⟩ ?_
  · show Value.int .i64 (((a + L : Nat) : Int) - (a : Int)) = _
    congr 1
    omega
  · show Value.int .i64 (IntKind.i64.wrap ((((a + L : Nat) : Int) - (a : Int) - 1).tdiv 2)) = _
    have e : (((a + L : Nat) : Int) - (a : Int) - 1).tdiv 2 = (((L - 1) / 2 : Nat) : Int) := by
      rw [show ((a + L : Nat) : Int) - (a : Int) - 1 = ((L - 1 : Nat) : Int) by omega]
      rfl
    rw [e, wi64 (by omega) (by omega)]
    show Value.int .i64 _ = Value.int .i64 _
    congr 1
    dsimp only
    omega
  clear h hH
  rintro J ⟨q, k⟩ A ⟨hq, hH, hks, hA, hc⟩
  dsimp only at hq hH hks hA ⊢
  rcases q with _ | q
  · have hH2 : k = H := hH
    subst hH2
    clear hH
    (refine Ga ?_)
    refine W_loop (α := Nat × Array Int) (fun x => [(0, .slice (some ⟨b, 0, none⟩) d.size c), (6, .int .i64 (a : Int)), (7, .int .i64 0), (10, .int .i64 ((x.1 : Int) - 1))])
      (fun x A => x.1 ≤ L ∧ Go.Sort.heapPop ltInt a x.1 x.2 = G ∧ x.2.size = d.size ∧ Arr A b x.2 post ∧ Chg [b] w A) (fun x _ => x.1) (L, k)
      ⟨Nat.le_refl _, hG, hks, hA, hc⟩ ⟨rfl, rfl, rfl, rfl, trivial⟩ ?_
    clear hG hks hA hc
    rintro J2 ⟨q, k2⟩ A ⟨hq, hG, hks, hA, hc⟩
    dsimp only at hq hG hks hA ⊢
    rcases q with _ | q
    · have hG2 : k2 = G := hG
      subst hG2
      (refine Ga ?_)
      (first | apply retQ0n | apply retQ0)
      exact ⟨rfl, hA, hc⟩
    · have hG2 : Go.Sort.heapPop ltInt a q (Go.Sort.siftDown ltInt q a 0 (swp k2 a (a + q))) = G := hG
      clear hG
      (refine Ga ?_)
      have hAd : Arr A.drew b k2 post := Blk.drew hA
      have hkl := us_len k2
      have cI := hAd.cell a (by omega) (0 + a) (by omega)
      have cJ := hAd.cell (a + q) (by omega) (0 + ((a : Int) + (((q + 1 : Nat) : Int) - 1)).toNat) (by omega)
      refine W_drawS 20 (fun _ => True) rfl rfl ?_
      (refine S_take 0 19 rfl (by kernel_rfl) (by repeat (first | exact retQ_p | apply seqQ_p | apply blkQ_p | apply rndQ_p | apply cutQ_p)) trivial ?_)
      (refine Gt ?_)
      (refine S_take 1 18 rfl (by kernel_rfl) (by repeat (first | exact retQ_p | apply seqQ_p | apply blkQ_p | apply rndQ_p | apply cutQ_p)) trivial ?_)
      (refine Gt ?_)
      (refine S_take 2 17 rfl (by kernel_rfl) (by repeat (first | exact retQ_p | apply seqQ_p | apply blkQ_p | apply rndQ_p | apply cutQ_p)) trivial ?_)
      (refine Gt ?_)
      (refine S_take 3 16 rfl (by kernel_rfl) (by repeat (first | exact retQ_p | apply seqQ_p | apply blkQ_p | apply rndQ_p | apply cutQ_p)) trivial ?_)
      (refine Gt ?_)
      (refine S_take 4 15 rfl (by kernel_rfl) (by repeat (first | exact retQ_p | apply seqQ_p | apply blkQ_p | apply rndQ_p | apply cutQ_p)) trivial ?_)
      (refine Gt ?_)
      (refine S_take 5 14 rfl (by kernel_rfl) (by repeat (first | exact retQ_p | apply seqQ_p | apply blkQ_p | apply rndQ_p | apply cutQ_p)) trivial ?_)
      (refine Gt ?_)
      (refine S_take 6 13 rfl (by kernel_rfl) (by repeat (first | exact retQ_p | apply seqQ_p | apply blkQ_p | apply rndQ_p | apply cutQ_p)) trivial ?_)
      (refine Gt ?_)
      (refine S_take 7 12 rfl (by kernel_rfl) (by repeat (first | exact retQ_p | apply seqQ_p | apply blkQ_p | apply rndQ_p | apply cutQ_p)) trivial ?_)
      (refine Gt ?_)
      (refine S_take 8 11 rfl (by kernel_rfl) (by repeat (first | exact retQ_p | apply seqQ_p | apply blkQ_p | apply rndQ_p | apply cutQ_p)) trivial ?_)
      (refine Gt ?_)
      (refine S_take 9 10 rfl (by kernel_rfl) (by repeat (first | exact retQ_p | apply seqQ_p | apply blkQ_p | apply rndQ_p | apply cutQ_p)) trivial ?_)
      (refine Gt ?_)
      (refine S_take 10 9 rfl (by kernel_rfl) (by repeat (first | exact retQ_p | apply seqQ_p | apply blkQ_p | apply rndQ_p | apply cutQ_p)) trivial ?_)
      (apply Qst_pu; (focus (first | (apply P_idx1; (focus rfl); (focus rfl); (focus rfl); (focus rfl); (focus rfl); (focus omega)) | (apply P_idxu; (focus rfl); (focus rfl); (focus rfl); (focus rfl); (focus rfl); (focus omega); (focus omega)))); (focus rfl); (repeat' (first | (apply Qst_nil) | (apply rnQ_k; (focus (exact trivial))))))
      (refine S_take 12 8 rfl (by kernel_rfl) (by repeat (first | exact retQ_p | apply seqQ_p | apply blkQ_p | apply rndQ_p | apply cutQ_p)) trivial ?_)
      (refine Gt ?_)
      (refine S_take 13 7 rfl (by kernel_rfl) (by repeat (first | exact retQ_p | apply seqQ_p | apply blkQ_p | apply rndQ_p | apply cutQ_p)) trivial ?_)
      (refine Gt ?_)
      (refine S_take 14 6 rfl (by kernel_rfl) (by repeat (first | exact retQ_p | apply seqQ_p | apply blkQ_p | apply rndQ_p | apply cutQ_p)) trivial ?_)
      (apply Qst_pu; (focus (first | (apply P_idx1; (focus rfl); (focus rfl); (focus rfl); (focus rfl); (focus rfl); (focus omega)) | (apply P_idxu; (focus rfl); (focus rfl); (focus rfl); (focus rfl); (focus rfl); (focus omega); (focus omega)))); (focus rfl); (repeat' (first | (apply Qst_nil) | (apply rnQ_k; (focus (exact trivial))))))
      refine S_any [11, 15] 5 rfl (by kernel_rfl) (all2 ?_ ?_)
      all_goals (refine Gt ?_)
      all_goals (refine ⟨trivial, ?_⟩)
      rotate_left
      (refine S_any [11] 4 rfl (by kernel_rfl) (all1 ?_))
      rotate_left
      (refine S_any [15] 4 rfl (by kernel_rfl) (all1 ?_))
      all_goals (refine Gt ?_)
      all_goals (refine ⟨trivial, ?_⟩)
      all_goals (refine S_take 16 3 rfl (by kernel_rfl) (by repeat (first | exact retQ_p | apply seqQ_p | apply blkQ_p | apply rndQ_p | apply cutQ_p)) trivial ?_)
      all_goals (apply Qst_pu; (focus (first | (apply P_idx1; (focus rfl); (focus rfl); (focus rfl); (focus rfl); (focus rfl); (focus omega)) | (apply P_idxu; (focus rfl); (focus rfl); (focus rfl); (focus rfl); (focus rfl); (focus omega); (focus omega)))); (focus rfl); (repeat' (first | (apply Qst_nil) | (apply rnQ_k; (focus (exact trivial))))))
      all_goals (refine S_any [17] 2 rfl (by kernel_rfl) (all1 ?_))
      all_goals (apply Lst_put (i := a) (hb := hAd); (focus rfl); (focus rfl); (focus rfl); (focus rfl); (focus omega); (focus (first | (rw [List.length_append]; omega) | (rw [List.length_set, List.length_append]; omega))))
      all_goals (refine Gt ?_)
      all_goals (refine ⟨trivial, ?_⟩)
      all_goals (refine S_take 18 1 rfl (by kernel_rfl) (by repeat (first | exact retQ_p | apply seqQ_p | apply blkQ_p | apply rndQ_p | apply cutQ_p)) trivial ?_)
      all_goals (apply Qst_pu; (focus (first | (apply P_idx1; (focus rfl); (focus rfl); (focus rfl); (focus rfl); (focus rfl); (focus omega)) | (apply P_idxu; (focus rfl); (focus rfl); (focus rfl); (focus rfl); (focus rfl); (focus omega); (focus omega)))); (focus rfl); (repeat' (first | (apply Qst_nil) | (apply rnQ_k; (focus (exact trivial))))))
      all_goals (refine S_any [19] 0 rfl (by kernel_rfl) (all1 ?_))
      all_goals (apply Lst_put (i := (a + q)) (hb := Blk.put_same hAd.lt _ _); (focus rfl); (focus rfl); (focus rfl); (focus rfl); (focus omega); (focus (first | (rw [List.length_append]; omega) | (rw [List.length_set, List.length_append]; omega))))
      all_goals (refine Gt ?_)
      all_goals (refine ⟨trivial, ?_⟩)
      all_goals (refine S_done (by kernel_rfl) ?_)
      all_goals have hA2 : Arr ((A.drew.putObj b (.cells ((us k2 ++ post).set a (.int .u64 k2[(a + q)]!)).toArray 27)).putObj b (.cells (((us k2 ++ post).set a (.int .u64 k2[(a + q)]!)).set (a + q) (.int .u64 k2[a]!)).toArray 27)) b (Go.Sort.swp k2 a (a + q)) post := by unfold Arr; rw [us_swp k2 post a (a + q) (by omega) (by omega)]; exact Blk.put_same (by rw [World.putObj_size]; exact hAd.lt) _ _
      all_goals have hc2 : Chg [b] w ((A.drew.putObj b (.cells ((us k2 ++ post).set a (.int .u64 k2[(a + q)]!)).toArray 27)).putObj b (.cells (((us k2 ++ post).set a (.int .u64 k2[(a + q)]!)).set (a + q) (.int .u64 k2[a]!)).toArray 27)) := (hc.drew.put (by simp) _).put (by simp) _
      all_goals have hks2 := swp_size k2 a (a + q)
      all_goals generalize (A.drew.putObj b (.cells ((us k2 ++ post).set a (.int .u64 k2[(a + q)]!)).toArray 27)).putObj b (.cells (((us k2 ++ post).set a (.int .u64 k2[(a + q)]!)).set (a + q) (.int .u64 k2[a]!)).toArray 27) = A2 at *
      all_goals clear hAd hA hc hkl cI cJ
      all_goals (refine Ga ?_)
      all_goals (apply Lst_call; (focus rfl); (focus rfl))
      all_goals refine (c_siftZ b 0 q a d.size c _ post (hks.symm.trans hks2.symm) (by omega) (by omega) (by omega) _ _ _ rfl (by omega) rfl A2 hA2).mono ?_
      all_goals rintro v A3 ⟨rfl, hA3, hc3⟩
      all_goals (refine Ga ?_)
      all_goals refine rndQ_n (α := Nat × Array Int) (q, Go.Sort.siftDown ltInt q a 0 (swp k2 a (a + q))) ⟨by dsimp only; omega, hG2, (sift_size _ _ _ _).trans (hks2.trans hks), hA3, hc2.trans hc3⟩ ⟨rfl, rfl, rfl, ?_, trivial⟩ (Nat.lt_succ_self _)
      all_goals show Value.int .i64 (((q + 1 : Nat) : Int) - 1 - 1) = Value.int .i64 ((q : Int) - 1)
      all_goals congr 1
      all_goals omega
  · have hH2 : Go.Sort.heapBuild ltInt L a q (Go.Sort.siftDown ltInt L a q k) = H := hH
    clear hH
    (refine Ga ?_)
    (apply Lst_call; (focus rfl); (focus rfl))
    refine (c_siftZ b q L a d.size c _ post hks.symm (by omega) (by omega) (by omega) _ _ _ (by omega) rfl rfl A hA).mono ?_
    rintro v A3 ⟨rfl, hA3, hc3⟩
    (refine Ga ?_)
    refine rndQ_n (α := Nat × Array Int) (q, Go.Sort.siftDown ltInt L a q k) ⟨by dsimp only; omega, hH2, (sift_size _ _ _ _).trans hks, hA3, hc.trans hc3⟩ ⟨rfl, rfl, rfl, rfl, ?_, trivial⟩ (Nat.lt_succ_self _)
    show Value.int .i64 (((q + 1 : Nat) : Int) - 1 - 1) = Value.int .i64 ((q : Int) - 1)
    congr 1
    omega
end So
namespace So
open Go Go.RowKit Sx
open Go.Sort (swp ltInt)
section rules
variable {P : Program} {rd : Option Nat} {n : Nat} {Q : Post} {F : Fr} {ds : List Deferred} {w : World}
theorem W_post {Q' : Post} {x : Code} (h : W P rd n x Q F ds w) (hm : ∀ e F ds w, Q e F ds w → Q' e F ds w) : W P rd n x Q' F ds w := fun m a hf =>
  Code.wpIn_mono (fun e a w hq => by
    obtain ⟨G, ds', hg, hq⟩ := hq
    exact ⟨G, ds', hg, hm _ _ _ _ hq⟩) (h m a hf)
theorem cut_seq {α : Type} {vals : α → St} {M : α → World → Prop} {y : Code} (h2 : ∀ (J : Fr) (g : α) (w' : World), M g w' → W P rd n y Q (fr J (vals g)) ds w') : ∀ e F ds' w, cutQ vals M Q ds e F ds' w → seqQ P rd n y Q e F ds' w := by
  intro e F ds' w h
  cases e with
  | normal =>
    obtain ⟨rfl, g, hm, hv⟩ := h
    exact fun m a hf => h2 F g w hm m a (hf.congr (fr_has hv))
  | _ => exact h
theorem W_cutS {α : Type} (vals : α → St) (M : α → World → Prop) {x y : Code} (h1 : W P rd n x (cutQ vals M Q ds) F ds w)
    (h2 : ∀ (J : Fr) (g : α) (w' : World), M g w' → W P rd n y Q (fr J (vals g)) ds w') : W P rd n x (seqQ P rd n y Q) F ds w := W_post h1 (cut_seq h2)
theorem W_cutB {α : Type} (vals : α → St) (M : α → World → Prop) {x y : Code} {id : Nat} (h1 : W P rd n x (blkQ id (cutQ vals M Q ds)) F ds w)
    (h2 : ∀ (J : Fr) (g : α) (w' : World), M g w' → W P rd n y Q (fr J (vals g)) ds w') : W P rd n x (blkQ id (seqQ P rd n y Q)) F ds w := W_post h1 fun e F ds' w h => by
  cases e with
  | exit i =>
    unfold blkQ at h ⊢
    cases hb : Nat.beq i id with
    | true => simp only [hb, cond_true] at h ⊢; exact cut_seq h2 _ _ _ _ h
    | false => simp only [hb, cond_false] at h ⊢; exact cut_seq h2 _ _ _ _ h
  | _ =>
    unfold blkQ at h ⊢
    exact cut_seq h2 _ _ _ _ h
theorem cutQ_p {α : Type} {vals : α → St} {M : α → World → Prop} {ds' : List Deferred} (h : ∀ c F ds w, ¬ Q (.panic c) F ds w) : ∀ c F ds w, ¬ cutQ vals M Q ds' (.panic c) F ds w := fun c F ds w => h c F ds w
end rules
theorem W_at {P : Program} {rd : Option Nat} {n b : Nat} {x : Code} {Q : Post} {F : Fr} {ds : List Deferred} {w : World} {d : Array Int} {post : List Value} (h : Arr w b d post) (key : ∀ A, Arr A b d post → Chg [b] w A → W P rd n x Q F ds A) : W P rd n x Q F ds w := key w h (Chg.refl _ _)
theorem up_ge (p : Int → Bool) (d : Array Int) (j i : Nat) : i ≤ Go.Sort.scanUp p d j i := by
  fun_induction Go.Sort.scanUp p d j i <;> omega
theorem down_le (p : Int → Bool) (d : Array Int) (i : Nat) : ∀ j, Go.Sort.scanDown p d i j ≤ j
  | 0 => Nat.le_refl _
  | j + 1 => by
    rw [Go.Sort.scanDown]
    have := down_le p d i j
    split <;> omega
attribute [local irreducible] W Lst Qst Pu seqQ blkQ rndQ cutQ retQ Does Enters IntKind.wrap bits sb World.alloc World.putObj Blk
attribute [local irreducible] Rn Tk rnQ
attribute [local irreducible] RnS
set_option maxHeartbeats 2000000 in
theorem c_rev (b a L m c : Nat) (d : Array Int) (post : List Value) (hm : m = d.size) (hh : a + L ≤ d.size) (hL : 1 ≤ L) (hsz : d.size < 1152921504606846976) (w : World) (h : Arr w b d post) :
    Does Try.prog 81 #[.slice (some ⟨b, 0, none⟩) m c, .int .i64 (a : Int), .int .i64 ((a + L : Nat) : Int)] w fun v w' => v = .tuple #[] ∧ Arr w' b (Go.Sort.reverseRange d a (a + L)) post ∧ Chg [b] w w' := by
  refine Does_of (args := [.slice (some ⟨b, 0, none⟩) m c, .int .i64 (a : Int), .int .i64 ((a + L : Nat) : Int)]) Try.func81 (by kernel_rfl) rfl rfl rfl rfl rfl ?_
  generalize hG : Go.Sort.reverseRange d a (a + L) = G
  unfold Go.Sort.reverseRange at hG
  subst hm
  (refine Ga ?_)
  refine W_loop (α := Nat × Nat × Array Int) (fun x => [(0, .slice (some ⟨b, 0, none⟩) d.size c), (6, .int .i64 (x.1 : Int)), (7, .int .i64 (x.2.1 : Int))])
    (fun x A => x.2.1 < d.size ∧ Go.Sort.reverseLoop x.1 x.2.1 x.2.2 = G ∧ x.2.2.size = d.size ∧ Arr A b x.2.2 post ∧ Chg [b] w A) (fun x _ => x.2.1 - x.1) (a, a + L - 1, d)
    ⟨by dsimp only; omega, hG, rfl, h, Chg.refl _ _⟩ ⟨rfl, rfl, ?_, trivial⟩ ?_
  · show Value.int .i64 (((a + L : Nat) : Int) - 1) = Value.int .i64 ((a + L - 1 : Nat) : Int)
    congr 1
    omega
  clear h hG
  rintro J ⟨i, j, k⟩ A ⟨hj, hG, hks, hA, hc⟩
  dsimp only at hj hG hks hA ⊢
  rw [Go.Sort.reverseLoop] at hG
  by_cases hij : i < j
  · rw [if_pos hij] at hG
    (refine Ga ?_)
    have hks2 := swp_size k i j
    first | refine W_cutS (α := Unit) (fun _ => [(0, .slice (some ⟨b, 0, none⟩) d.size c), (6, .int .i64 (i : Int)), (7, .int .i64 (j : Int))]) (fun _ A' => Arr A' b (Go.Sort.swp k i j) post ∧ Chg [b] w A') ?_ ?_ | refine W_cutB (α := Unit) (fun _ => [(0, .slice (some ⟨b, 0, none⟩) d.size c), (6, .int .i64 (i : Int)), (7, .int .i64 (j : Int))]) (fun _ A' => Arr A' b (Go.Sort.swp k i j) post ∧ Chg [b] w A') ?_ ?_
    · skip
      have hAd : Arr A.drew b k post := Blk.drew hA
      have hkl := us_len k
      have cI := hAd.cell i (by omega) (0 + i) (by omega)
      have cJ := hAd.cell j (by omega) (0 + j) (by omega)
      refine W_drawS 16 (fun _ => True) rfl rfl ?_
      (refine S_take 0 15 rfl (by kernel_rfl) (by repeat (first | exact retQ_p | apply seqQ_p | apply blkQ_p | apply rndQ_p | apply cutQ_p)) trivial ?_)
      (refine Gt ?_)
      (refine S_take 1 14 rfl (by kernel_rfl) (by repeat (first | exact retQ_p | apply seqQ_p | apply blkQ_p | apply rndQ_p | apply cutQ_p)) trivial ?_)
      (refine Gt ?_)
      (refine S_take 2 13 rfl (by kernel_rfl) (by repeat (first | exact retQ_p | apply seqQ_p | apply blkQ_p | apply rndQ_p | apply cutQ_p)) trivial ?_)
      (refine Gt ?_)
      (refine S_take 3 12 rfl (by kernel_rfl) (by repeat (first | exact retQ_p | apply seqQ_p | apply blkQ_p | apply rndQ_p | apply cutQ_p)) trivial ?_)
      (refine Gt ?_)
      (refine S_take 4 11 rfl (by kernel_rfl) (by repeat (first | exact retQ_p | apply seqQ_p | apply blkQ_p | apply rndQ_p | apply cutQ_p)) trivial ?_)
      (refine Gt ?_)
      (refine S_take 5 10 rfl (by kernel_rfl) (by repeat (first | exact retQ_p | apply seqQ_p | apply blkQ_p | apply rndQ_p | apply cutQ_p)) trivial ?_)
      (refine Gt ?_)
      (refine S_take 6 9 rfl (by kernel_rfl) (by repeat (first | exact retQ_p | apply seqQ_p | apply blkQ_p | apply rndQ_p | apply cutQ_p)) trivial ?_)
      (apply Qst_pu; (focus (first | (apply P_idx1; (focus rfl); (focus rfl); (focus rfl); (focus rfl); (focus rfl); (focus omega)) | (apply P_idxu; (focus rfl); (focus rfl); (focus rfl); (focus rfl); (focus rfl); (focus omega); (focus omega)))); (focus rfl); (repeat' (first | (apply Qst_nil) | (apply rnQ_k; (focus (exact trivial))))))
      (refine S_take 8 8 rfl (by kernel_rfl) (by repeat (first | exact retQ_p | apply seqQ_p | apply blkQ_p | apply rndQ_p | apply cutQ_p)) trivial ?_)
      (refine Gt ?_)
      (refine S_take 9 7 rfl (by kernel_rfl) (by repeat (first | exact retQ_p | apply seqQ_p | apply blkQ_p | apply rndQ_p | apply cutQ_p)) trivial ?_)
      (refine Gt ?_)
      (refine S_take 10 6 rfl (by kernel_rfl) (by repeat (first | exact retQ_p | apply seqQ_p | apply blkQ_p | apply rndQ_p | apply cutQ_p)) trivial ?_)
      (apply Qst_pu; (focus (first | (apply P_idx1; (focus rfl); (focus rfl); (focus rfl); (focus rfl); (focus rfl); (focus omega)) | (apply P_idxu; (focus rfl); (focus rfl); (focus rfl); (focus rfl); (focus rfl); (focus omega); (focus omega)))); (focus rfl); (repeat' (first | (apply Qst_nil) | (apply rnQ_k; (focus (exact trivial))))))
      refine S_any [7, 11] 5 rfl (by kernel_rfl) (all2 ?_ ?_)
      all_goals (refine Gt ?_)
      all_goals (refine ⟨trivial, ?_⟩)
      rotate_left
      (refine S_any [7] 4 rfl (by kernel_rfl) (all1 ?_))
      rotate_left
      (refine S_any [11] 4 rfl (by kernel_rfl) (all1 ?_))
      all_goals (refine Gt ?_)
      all_goals (refine ⟨trivial, ?_⟩)
      all_goals (refine S_take 12 3 rfl (by kernel_rfl) (by repeat (first | exact retQ_p | apply seqQ_p | apply blkQ_p | apply rndQ_p | apply cutQ_p)) trivial ?_)
      all_goals (apply Qst_pu; (focus (first | (apply P_idx1; (focus rfl); (focus rfl); (focus rfl); (focus rfl); (focus rfl); (focus omega)) | (apply P_idxu; (focus rfl); (focus rfl); (focus rfl); (focus rfl); (focus rfl); (focus omega); (focus omega)))); (focus rfl); (repeat' (first | (apply Qst_nil) | (apply rnQ_k; (focus (exact trivial))))))
      all_goals (refine S_any [13] 2 rfl (by kernel_rfl) (all1 ?_))
      all_goals (apply Lst_put (i := i) (hb := hAd); (focus rfl); (focus rfl); (focus rfl); (focus rfl); (focus omega); (focus (first | (rw [List.length_append]; omega) | (rw [List.length_set, List.length_append]; omega))))
      all_goals (refine Gt ?_)
      all_goals (refine ⟨trivial, ?_⟩)
      all_goals (refine S_take 14 1 rfl (by kernel_rfl) (by repeat (first | exact retQ_p | apply seqQ_p | apply blkQ_p | apply rndQ_p | apply cutQ_p)) trivial ?_)
      all_goals (apply Qst_pu; (focus (first | (apply P_idx1; (focus rfl); (focus rfl); (focus rfl); (focus rfl); (focus rfl); (focus omega)) | (apply P_idxu; (focus rfl); (focus rfl); (focus rfl); (focus rfl); (focus rfl); (focus omega); (focus omega)))); (focus rfl); (repeat' (first | (apply Qst_nil) | (apply rnQ_k; (focus (exact trivial))))))
      all_goals (refine S_any [15] 0 rfl (by kernel_rfl) (all1 ?_))
      all_goals (apply Lst_put (i := j) (hb := Blk.put_same hAd.lt _ _); (focus rfl); (focus rfl); (focus rfl); (focus rfl); (focus omega); (focus (first | (rw [List.length_append]; omega) | (rw [List.length_set, List.length_append]; omega))))
      all_goals (refine Gt ?_)
      all_goals (refine ⟨trivial, ?_⟩)
      all_goals (refine S_done (by kernel_rfl) ?_)
      all_goals have hA2 : Arr ((A.drew.putObj b (.cells ((us k ++ post).set i (.int .u64 k[j]!)).toArray 27)).putObj b (.cells (((us k ++ post).set i (.int .u64 k[j]!)).set j (.int .u64 k[i]!)).toArray 27)) b (Go.Sort.swp k i j) post := by unfold Arr; rw [us_swp k post i j (by omega) (by omega)]; exact Blk.put_same (by rw [World.putObj_size]; exact hAd.lt) _ _
      all_goals have hc2 : Chg [b] w ((A.drew.putObj b (.cells ((us k ++ post).set i (.int .u64 k[j]!)).toArray 27)).putObj b (.cells (((us k ++ post).set i (.int .u64 k[j]!)).set j (.int .u64 k[i]!)).toArray 27)) := (hc.drew.put (by simp) _).put (by simp) _
      all_goals have hks2 := swp_size k i j
      all_goals generalize (A.drew.putObj b (.cells ((us k ++ post).set i (.int .u64 k[j]!)).toArray 27)).putObj b (.cells (((us k ++ post).set i (.int .u64 k[j]!)).set j (.int .u64 k[i]!)).toArray 27) = A2 at *
      all_goals (first | apply blkQ_n | skip)
      all_goals exact cutQ_n () ⟨hA2, hc2⟩ ⟨rfl, rfl, rfl, trivial⟩
    clear hA hc
    rintro Jc ⟨⟩ A ⟨hA, hc⟩
    (refine Ga ?_)
    refine rndQ_n (α := Nat × Nat × Array Int) (i + 1, j - 1, swp k i j) ⟨by dsimp only; omega, hG, hks2.trans hks, hA, hc⟩ ⟨rfl, ?_, ?_, trivial⟩ (by dsimp only; omega)
    · show Value.int .i64 ((i : Int) + 1) = Value.int .i64 ((i + 1 : Nat) : Int)
      rw [Int.natCast_add]; rfl
    · show Value.int .i64 ((j : Int) - 1) = Value.int .i64 ((j - 1 : Nat) : Int)
      congr 1
      omega
  · rw [if_neg hij] at hG
    subst hG
    (refine Ga ?_)
    (first | apply retQ0n | apply retQ0)
    exact ⟨rfl, hA, hc⟩
end So
end Go.Proofs.Ytoljcnlmockpcaa
