/- Marks: lists of marks told alike; plainly: where what is cleaned is one. -/
import Derived.Test.YtglfoofclicfpaaDoorMkO
import Derived.Test.YtglfoofclicfpaaDoorJVal6ToVal7
import Derived.Test.YtglfoofclicfpaaDoorJSxEToSxU
namespace Go.Proofs.YtglfoofclicfpaaDoor
set_option maxRecDepth 100000
namespace Val
open Go Go.RowKit Sx Fl
def Same (x y : Vl) : Prop := x.k = y.k ∧ x.n = y.n ∧ nbits x.f = nbits y.f ∧ x.s = y.s
theorem cmpI_zero (a b : Int) : cmpI a b = 0 ↔ a = b := by
  unfold cmpI
  split
  · omega
  · split <;> omega
theorem cmpS_zero (s t : ByteArray) : cmpS s t = 0 ↔ s = t := by
  unfold cmpS
  rw [cmpB_eq]
  constructor
  · intro h
    cases s; cases t
    simp at h
    rw [h]
  · intro h; rw [h]
theorem K_nbits {f g : Nat} (hf : f < 18446744073709551616) (hg : g < 18446744073709551616) : K f = K g ↔ nbits f = nbits g := by
  unfold nbits
  cases nf : isNaN f <;> cases ng : isNaN g
  · rw [if_neg (by simp), if_neg (by simp), K_num nf, K_num ng]
    unfold sgn rung
    constructor
    · intro h
      by_cases h1 : f / 9223372036854775808 % 2 = 1 <;> by_cases h2 : g / 9223372036854775808 % 2 = 1 <;> simp only [h1, h2, beq_self_eq_true, if_true, beq_iff_eq, if_false] at h <;> omega
    · intro h; rw [h]
  · rw [if_neg (by simp), if_pos rfl, K_nan ng]
    have := K_lt_nan nf
    constructor
    · intro h; omega
    · intro h; subst h; exact absurd nf (by decide)
  · rw [if_pos rfl, if_neg (by simp), K_nan nf]
    have := K_lt_nan ng
    constructor
    · intro h; omega
    · intro h; subst h; exact absurd ng (by decide)
  · rw [if_pos rfl, if_pos rfl, K_nan nf, K_nan ng]
    simp
theorem cmpV_zero {x y : Vl} (hx : x.f < 18446744073709551616) (hy : y.f < 18446744073709551616) : cmpV x y = 0 ↔ Same x y := by
  rw [cmpV_eq]
  unfold Same
  rw [← K_nbits hx hy, ← cmpI_zero x.k y.k, ← cmpI_zero x.n y.n, ← cmpI_zero (K x.f) (K y.f), ← cmpS_zero x.s y.s]
  split
  · rename_i h; exact ⟨fun e => absurd e h, fun e => absurd e.1 h⟩
  rename_i h0
  split
  · rename_i h; exact ⟨fun e => absurd e h, fun e => absurd e.2.1 h⟩
  rename_i h1
  split
  · rename_i h; exact ⟨fun e => absurd e h, fun e => absurd e.2.2.1 h⟩
  rename_i h2
  exact ⟨fun e => ⟨by omega, by omega, by omega, e⟩, fun e => e.2.2.2⟩
end Val
namespace Tl
open Go Go.RowKit Sx
/-- A cut behind a block that a list ends. -/
theorem Lst_cutB {P : Program} {rd : Option Nat} {n : Nat} {ops : Array Oper} {Q : Post} {rest : List Oper} {F : Fr} {ds : List Deferred} {w : World} {α : Type} (vals : α → St) (M : α → World → Prop) {y : Code} {id : Nat} (h1 : Lst P rd n ops (blkQ id (cutQ vals M Q ds)) rest F ds w)
    (h2 : ∀ (J : Fr) (g : α) (w' : World), M g w' → W P rd n y Q (fr J (vals g)) ds w') : Lst P rd n ops (blkQ id (seqQ P rd n y Q)) rest F ds w := Lst_post h1 fun e F ds' w h => by
  cases e with
  | exit i =>
    unfold blkQ at h ⊢
    cases hb : Nat.beq i id with
    | true => simp only [hb, cond_true] at h ⊢; exact cut_seq h2 _ _ _ _ h
    | false => simp only [hb, cond_false] at h ⊢; exact cut_seq h2 _ _ _ _ h
  | _ =>
    unfold blkQ at h ⊢
    exact cut_seq h2 _ _ _ _ h
theorem P_idxm {P : Program} {G : Fr} {ty t e b o len c j : Nat} {x y : Operand} {k : IntKind} {i : TypeInfo} {sz : Nat} (hx : ev G x = .slice (some ⟨b, o, none⟩) len c) (hq : ev G y = .int k (j : Int)) (ht : P.underlying t = some (.slice e)) (hi : P.info? e = some i) (hs : i.size = sz) (h1 : j < len) : Pu P G (.indexAddr t x y) ty (.pointer (some ⟨b, o + j * sz, none⟩)) := by
  have := P_idx (ty := ty) hx hq ht hi hs (by omega) (by omega)
  simpa using this
theorem cell_lt {w : World} {b o : Nat} {v : Value} (h : w.cell? ⟨b, o, none⟩ = some v) : b < w.heap.size := by
  unfold World.cell? at h
  cases e : w.heap[b]? with
  | none => simp [e] at h
  | some ob => exact lt_of_some e
theorem cell_below {w w' : World} {b o : Nat} {v : Value} (hb : Below w.heap.size w w') (h : w.cell? ⟨b, o, none⟩ = some v) : w'.cell? ⟨b, o, none⟩ = some v := by
  rw [World.cell?_of_block (hb.block b (cell_lt h))]
  exact h
end Tl
namespace Sx
open Go Go.RowKit
section rules
variable {P : Program} {rd : Option Nat} {n : Nat} {ops : Array Oper} {Q : Post} {rest : List Oper} {F : Fr} {ds : List Deferred} {w : World} {ty : TypeId} {pos : String} {after : Array Edge}
theorem Lst_storeM {x y : Operand} {t e : TypeId} {i : TypeInfo} {b off : Nat} {l vs : List Value} (hx : ev F x = .pointer (some ⟨b, off, none⟩)) (hy : ev F y = .agg vs.toArray) (hi : P.info? t = some i) (hs : i.size = vs.length) (h1 : ∀ v ∈ vs, v.oneCell' = true) (hb : Blk w b l e) (hl : off + vs.length ≤ l.length)
    (h : Lst P rd n ops Q rest F ds (w.putObj b (.cells (l.take off ++ vs ++ l.drop (off + vs.length)).toArray e))) : Lst P rd n ops Q (⟨none, .store t x y, ty, pos, after, none⟩ :: rest) F ds w :=
  Lst_unit rfl (by
    have := run_storeCells_at (P := P) b off e vs 0 l.toArray w hb (by simpa using hl) h1
    have hsz : (sizeOf t).run P w = .ok vs.length w := by simp [sizeOf, typeInfo, hi, hs]
    simp only [Nat.add_zero] at this
    rw [show (l.toArray.toList.take off ++ vs ++ l.toArray.toList.drop (off + vs.length)) = l.take off ++ vs ++ l.drop (off + vs.length) from rfl] at this
    rw [hb.setRow] at this
    have hcs : (Value.agg vs.toArray).cells.size = vs.length := by simp [Value.cells]
    have hcl : (Value.agg vs.toArray).cells.toList = vs := by simp [Value.cells]
    simp [execOp, hx, hy, Instr.storeAt, Instr.sureAddr, storeVar, hsz, hcs, hcl, this]) rfl h
end rules
theorem flat_row {α : Type} {sz : Nat} {c : List α} (hc : c.length = sz) : ∀ (ls : List (List α)) (k : Nat), k < ls.length → (∀ l ∈ ls, l.length = sz) → (ls.set k c).flatten = ls.flatten.take (k * sz) ++ c ++ ls.flatten.drop (k * sz + sz)
  | l :: ls, 0, _, h => by
    have := h l (by simp)
    rw [List.set_cons_zero, List.flatten_cons, List.flatten_cons, Nat.zero_mul, List.take_zero, List.nil_append, Nat.zero_add, ← this, List.drop_left]
  | l :: ls, k + 1, hk, h => by
    have hl := h l (by simp)
    have ih := flat_row hc ls k (by simpa using hk) (fun l' h' => h l' (by simp [h']))
    rw [List.set_cons_succ, List.flatten_cons, List.flatten_cons, ih, Nat.succ_mul, List.take_append, List.drop_append, hl, List.take_of_length_le (show l.length ≤ k * sz + sz by omega), List.drop_of_length_le (show l.length ≤ k * sz + sz + sz by omega), show k * sz + sz - sz = k * sz by omega, show k * sz + sz + sz - sz = k * sz + sz by omega, List.nil_append]
    simp only [List.append_assoc]
theorem own_setR {w : World} {base e sz nn : Nat} {v : Value} {ls : List (List Value)} (h : w.ownsRow base e sz v nn ls.flatten) (hs : ∀ l ∈ ls, l.length = sz) (h1 : 1 ≤ sz) {k : Nat} (hk : k < ls.length) :
    ∃ g cap l, v = .slice (some ⟨g, 0, none⟩) nn cap ∧ nn ≤ cap ∧ base ≤ g ∧ Blk w g l e ∧ k * sz + sz ≤ l.length ∧ ∀ c : List Value, c.length = sz → (w.putObj g (.cells (l.take (k * sz) ++ c ++ l.drop (k * sz + c.length)).toArray e)).ownsRow base e sz v nn (ls.set k c).flatten := by
  obtain ⟨hl, h⟩ := h
  rw [flat_len ls hs] at hl
  have hn : ls.length = nn := Nat.eq_of_mul_eq_mul_right (by omega) hl
  have hk1 : k * sz + sz ≤ nn * sz := by rw [← Nat.succ_mul]; exact Nat.mul_le_mul_right _ (by omega)
  rcases h with ⟨rfl, hx⟩ | ⟨g, cap, cur, rfl, hb, hg, hc, hm, hz, ht⟩
  · omega
  · have hcl : cur.toList.length = cap * sz := by rw [Array.length_toList]; exact hz
    have hle : nn * sz ≤ cap * sz := Nat.mul_le_mul_right _ hc
    have hset : ∀ c : List Value, c.length = sz → ∀ l' ∈ ls.set k c, l'.length = sz := fun c hc' l' hl' => by
      rcases List.mem_or_eq_of_mem_set hl' with h | rfl
      · exact hs _ h
      · exact hc'
    refine ⟨g, cap, cur.toList, rfl, hc, hb, ?_, by omega, fun c hc' => ⟨by rw [flat_len _ (hset c hc'), List.length_set, hn], .inr ⟨g, cap, _, rfl, hb, Blk.put_same (lt_of_some hg) _ _, hc, hm, ?_, ?_⟩⟩⟩
    · unfold Blk
      rw [hg]
    · rw [List.size_toArray, List.length_append, List.length_append, List.length_take, List.length_drop]
      omega
    · rw [flat_row hc' ls k hk hs, hc', ← ht]
      rw [List.take_append, List.take_append, List.take_take, List.take_take, List.length_append, List.length_take, List.drop_take, hc', hcl]
      congr 1
      · congr 1
        · congr 1
          omega
        · exact List.take_of_length_le (by omega)
      · congr 1
        omega
theorem own_setR0 {w : World} {base e sz nn : Nat} {v : Value} {ls : List (List Value)} (h : w.ownsRow base e sz v nn ls.flatten) (hs : ∀ l ∈ ls, l.length = sz) (h1 : 1 ≤ sz) {k : Nat} (hk : k < ls.length) :
    ∃ g cap l, v = .slice (some ⟨g, 0, none⟩) nn cap ∧ nn ≤ cap ∧ base ≤ g ∧ Blk w g l e ∧ 0 + k * sz + sz ≤ l.length ∧ ∀ c : List Value, c.length = sz → (w.putObj g (.cells (l.take (0 + k * sz) ++ c ++ l.drop (0 + k * sz + c.length)).toArray e)).ownsRow base e sz v nn (ls.set k c).flatten := by
  rw [Nat.zero_add]
  exact own_setR h hs h1 hk
end Sx
namespace Mk
open Go Go.RowKit Sx Tl Val
def mcs (q : ByteArray × Vl) : List Value := [.string q.1, .int .i64 q.2.k, .int .i64 q.2.n, .float .f64 q.2.f, .string q.2.s]
def OwnM (B : Nat) (w : World) (v : Value) (l : List (ByteArray × Vl)) : Prop := w.ownsRow B 37 5 v l.length (l.map mcs).flatten
theorem OwnM.nil (B : Nat) (w : World) : OwnM B w (.slice none 0 0) [] := ⟨rfl, .inl ⟨rfl, rfl⟩⟩
theorem mcs_len (l : List (ByteArray × Vl)) : ∀ x ∈ l.map mcs, x.length = 5 := fun x hx => by
  obtain ⟨u, _, rfl⟩ := List.mem_map.1 hx
  rfl
theorem OwnM.rows {B : Nat} {w : World} {v : Value} {l : List (ByteArray × Vl)} (h : OwnM B w v l) : SRows w 5 v (l.map mcs) := by
  have h' : w.ownsRow B 37 5 v (l.map mcs).length (l.map mcs).flatten := by rw [List.length_map]; exact h
  exact SRows.of_own h' (mcs_len l) (by decide)
abbrev Mk := ByteArray × Vl
/-- Are two marks alike? -/
def sameM (x y : Mk) : Bool := decide (x.1 = y.1) && decide (cmpV x.2 y.2 = 0)
def sameL : List Mk → List Mk → Bool
  | [], [] => true
  | x :: l, y :: m => sameM x y && sameL l m
  | _, _ => false
theorem sameL_len : ∀ {l m : List Mk}, sameL l m = true → l.length = m.length
  | [], [], _ => rfl
  | x :: l, y :: m, h => by
    unfold sameL at h
    rw [Bool.and_eq_true] at h
    rw [List.length_cons, List.length_cons, sameL_len h.2]
  | [], _ :: _, h => by cases h
  | _ :: _, [], h => by cases h
theorem sameL_iff : ∀ {l m : List Mk}, l.length = m.length → (sameL l m = true ↔ ∀ i (h1 : i < l.length) (h2 : i < m.length), sameM l[i] m[i] = true)
  | [], [], _ => ⟨fun _ i h => absurd h (Nat.not_lt_zero _), fun _ => rfl⟩
  | x :: l, y :: m, h => by
    have h' : l.length = m.length := by simpa using h
    unfold sameL
    rw [Bool.and_eq_true, sameL_iff h']
    constructor
    · rintro ⟨h1, h2⟩ i hi hj
      cases i with
      | zero => exact h1
      | succ i => exact h2 i (by simpa using hi) (by simpa using hj)
    · intro h1
      exact ⟨h1 0 (by simp) (by simp), fun i hi hj => h1 (i + 1) (by simpa using hi) (by simpa using hj)⟩
  | [], _ :: _, h => by simp at h
  | _ :: _, [], h => by simp at h
theorem sameL_no {l m : List Mk} {i : Nat} (hl : l.length = m.length) (h1 : i < l.length) (h2 : i < m.length) (h : sameM l[i] m[i] = false) : sameL l m = false := by
  cases e : sameL l m with
  | false => rfl
  | true =>
    have := (sameL_iff hl).1 e i h1 h2
    rw [h] at this
    cases this
theorem sameM_self (x : Mk) : sameM x x = true := by
  unfold sameM
  rw [decide_eq_true rfl, decide_eq_true (cmpV_self x.2)]
  rfl
theorem sameL_self : ∀ l : List Mk, sameL l l = true
  | [] => rfl
  | x :: l => by
    unfold sameL
    rw [sameM_self, sameL_self l]
    rfl
theorem sameM_comm (x y : Mk) : sameM x y = sameM y x := by
  unfold sameM
  rw [cmpV_neg y.2 x.2]
  congr 1
  · exact decide_eq_decide.2 ⟨fun h => h.symm, fun h => h.symm⟩
  · exact decide_eq_decide.2 (by omega)
theorem sameL_comm : ∀ l m : List Mk, sameL l m = sameL m l
  | [], [] => rfl
  | x :: l, y :: m => by
    unfold sameL
    rw [sameM_comm x y, sameL_comm l m]
  | [], _ :: _ => rfl
  | _ :: _, [] => rfl
/-- Marks behind a slice that are only read; an empty one may stand anywhere. -/
def MkS (w : World) (v : Value) (l : List Mk) : Prop := l = [] ∨ SRows w 5 v (l.map mcs)
theorem mark_at {w : World} {v1 : Option Addr} {n c : Nat} {us : List Mk} (h : MkS w (.slice v1 n c) us) {k : Nat} (hk : k < us.length) : ∃ g off, v1 = some ⟨g, off, none⟩ ∧ ∀ A, Below w.heap.size w A → ∀ j u, (mcs us[k])[j]? = some u → A.cell? ⟨g, off + k * 5 + j, none⟩ = some u := by
  rcases h with rfl | h
  · exact absurd hk (Nat.not_lt_zero _)
  obtain ⟨b, off, rfl, _, hc⟩ := h.at (i := k) (by rw [List.length_map]; exact hk)
  refine ⟨b, off, rfl, fun A hA j u hu => cell_below hA (hc j u ?_)⟩
  rw [List.getElem_map]
  exact hu
variable {w : World}
section
attribute [local irreducible] RnS
attribute [local irreducible] W Lst Qst Pu seqQ blkQ rndQ cutQ retQ Does Enters IntKind.wrap bits sb World.alloc World.putObj Blk
set_option maxHeartbeats 1000000 in
theorem c_same1 (x y : Mk) (hx : x.2.Fit) (hy : y.2.Fit) (w : World) : Does Tryd.prog 47 #[.agg (mcs x).toArray, .agg (mcs y).toArray] w fun v w' => v = .bool (sameM x y) ∧ Below w.heap.size w w' := by
  refine Does_of (args := [.agg (mcs x).toArray, .agg (mcs y).toArray]) Tryd.func47 (by kernel_rfl) rfl rfl rfl rfl rfl ?_
  (refine Ga ?_)
  refine Lst_abs (fun A => Below w.heap.size w A ∧ Blk A w.heap.size (mcs x) 37 ∧ Blk A (w.heap.size + 1) (mcs y) 37) ⟨Bel, (by (repeat (first | assumption | (apply Blk.below (hb := hb1); rotate_left; (focus ((try simp only [Sx.sizes]); omega)); rotate_right) | (apply Blk.below (hb := hb2); rotate_left; (focus ((try simp only [Sx.sizes]); omega)); rotate_right) | (apply Blk.below (hb := hb3); rotate_left; (focus ((try simp only [Sx.sizes]); omega)); rotate_right) | (apply Blk.below (hb := hb4); rotate_left; (focus ((try simp only [Sx.sizes]); omega)); rotate_right) | (apply Blk.below (hb := hb5); rotate_left; (focus ((try simp only [Sx.sizes]); omega)); rotate_right) | (apply Blk.below (hb := hb6); rotate_left; (focus ((try simp only [Sx.sizes]); omega)); rotate_right) | (apply Blk.below (hb := hb7); rotate_left; (focus ((try simp only [Sx.sizes]); omega)); rotate_right) | (apply Blk.below (hb := hb8); rotate_left; (focus ((try simp only [Sx.sizes]); omega)); rotate_right) | (apply Blk.below (hb := hb9); rotate_left; (focus ((try simp only [Sx.sizes]); omega)); rotate_right) | exact Blk.newE (by first | rfl | ((try simp only [Sx.sizes]); first | done | omega)) _ _ | exact Blk.put_same (by (try simp only [Sx.sizes]); first | done | omega) _ _ | (apply Blk.put_ne; (focus omega)) | apply Blk.alloc | apply Blk.drew)); done), (by (repeat (first | assumption | (apply Blk.below (hb := hb1); rotate_left; (focus ((try simp only [Sx.sizes]); omega)); rotate_right) | (apply Blk.below (hb := hb2); rotate_left; (focus ((try simp only [Sx.sizes]); omega)); rotate_right) | (apply Blk.below (hb := hb3); rotate_left; (focus ((try simp only [Sx.sizes]); omega)); rotate_right) | (apply Blk.below (hb := hb4); rotate_left; (focus ((try simp only [Sx.sizes]); omega)); rotate_right) | (apply Blk.below (hb := hb5); rotate_left; (focus ((try simp only [Sx.sizes]); omega)); rotate_right) | (apply Blk.below (hb := hb6); rotate_left; (focus ((try simp only [Sx.sizes]); omega)); rotate_right) | (apply Blk.below (hb := hb7); rotate_left; (focus ((try simp only [Sx.sizes]); omega)); rotate_right) | (apply Blk.below (hb := hb8); rotate_left; (focus ((try simp only [Sx.sizes]); omega)); rotate_right) | (apply Blk.below (hb := hb9); rotate_left; (focus ((try simp only [Sx.sizes]); omega)); rotate_right) | exact Blk.newE (by first | rfl | ((try simp only [Sx.sizes]); first | done | omega)) _ _ | exact Blk.put_same (by (try simp only [Sx.sizes]); first | done | omega) _ _ | (apply Blk.put_ne; (focus omega)) | apply Blk.alloc | apply Blk.drew)); done)⟩ ?_
  rintro A ⟨hbA, kx, ky⟩
  have lx := kx.lt
  have ly := ky.lt
  unfold mcs at kx ky
  have hsz := hbA.size
  unfold sameM
  generalize w.heap.size = b0 at *
  by_cases h1 : x.1 = y.1
  · rw [decide_eq_true h1]
    have h1' := h1
    obtain ⟨xk, xv⟩ := x
    obtain ⟨yk, yv⟩ := y
    dsimp only at *
    subst h1'
    (refine Ga ?_)
    (apply Lst_call; (focus rfl); (focus rfl))
    refine (c_Same xv yv hx hy A).mono ?_
    rintro v B ⟨rfl, hbB⟩
    (refine Ga ?_)
    (apply retQ1; (focus rfl))
    exact ⟨rfl, hbA.trans (hbB.mono hsz)⟩
  · rw [decide_eq_false h1]
    (refine Ga ?_)
    (apply retQ1; (focus rfl))
    exact ⟨rfl, hbA⟩
set_option maxHeartbeats 2000000 in
theorem c_EqualFunc (l m : List Mk) (a b : Option Addr) (c d : Nat) (hz : l.length ≤ 1000000) (hl : ∀ q ∈ l, q.2.Fit) (hm : ∀ q ∈ m, q.2.Fit) (w : World) (h : MkS w (.slice a l.length c) l) (k : MkS w (.slice b m.length d) m) :
    Does Tryd.prog 46 #[.slice a l.length c, .slice b m.length d, .func (.func 47) #[] #[]] w fun v w' => v = .bool (sameL l m) ∧ Below w.heap.size w w' := by
  refine Does_of (args := [.slice a l.length c, .slice b m.length d, .func (.func 47) #[] #[]]) Tryd.func46 (by kernel_rfl) rfl rfl rfl rfl rfl ?_
  by_cases hlen : l.length = m.length
  · (refine Ga ?_)
    refine W_loop (α := Nat) (fun i => [(1, .slice b m.length d), (2, .func (.func 47) #[] #[]), (15, .slice a l.length c), (16, .int .i64 (l.length : Int)), (17, .int .i64 (i : Int))])
      (fun i A => i ≤ l.length ∧ Below w.heap.size w A ∧ ∀ j (h1 : j < l.length) (h2 : j < m.length), j < i → sameM l[j] m[j] = true) (fun i _ => l.length - i) 0 ⟨Nat.zero_le _, Below.refl _ _, fun j _ _ hj => absurd hj (Nat.not_lt_zero _)⟩ ⟨rfl, rfl, rfl, rfl, rfl, trivial⟩ ?_
    rintro J i A ⟨hi, hbA, hall⟩
    by_cases hil : i < l.length
    · have him : i < m.length := by omega
      obtain ⟨ga, oa, rfl, ca⟩ := mark_at h hil
      obtain ⟨gb, ob, rfl, cb⟩ := mark_at k him
      have ca := ca A hbA
      have fx := hl _ (List.getElem_mem hil)
      have fy := hm _ (List.getElem_mem him)
      have hstep : sameM l[i] m[i] = true → ∀ j (h1 : j < l.length) (h2 : j < m.length), j < i + 1 → sameM l[j] m[j] = true := fun hs j h1 h2 hj => by
        rcases Nat.lt_succ_iff_lt_or_eq.1 hj with hj | rfl
        · exact hall j h1 h2 hj
        · exact hs
      have hno := sameL_no hlen hil him
      obtain ⟨x, hx⟩ : ∃ x, l[i] = x := ⟨_, rfl⟩
      obtain ⟨y, hy⟩ : ∃ y, m[i] = y := ⟨_, rfl⟩
      rw [hx] at ca fx hstep hno
      rw [hy] at cb fy hstep hno
      (refine Ga ?_)
      apply Lst_pu
      · apply P_idxm (j := i)
        focus rfl
        focus rfl
        focus rfl
        focus rfl
        focus rfl
        focus exact hil
      focus rfl
      (refine Ga ?_)
      apply Lst_loadS' (cs := mcs x)
      focus rfl
      focus rfl
      focus rfl
      focus rfl
      focus rfl
      focus exact ca
      focus rfl
      unfold mcs
      (refine Ga ?_)
      refine Lst_abs (fun B => Below A.heap.size A B ∧ Blk B A.heap.size (mcs x) 37) ⟨Bel, (by (repeat (first | assumption | (apply Blk.below (hb := hb1); rotate_left; (focus ((try simp only [Sx.sizes]); omega)); rotate_right) | (apply Blk.below (hb := hb2); rotate_left; (focus ((try simp only [Sx.sizes]); omega)); rotate_right) | (apply Blk.below (hb := hb3); rotate_left; (focus ((try simp only [Sx.sizes]); omega)); rotate_right) | (apply Blk.below (hb := hb4); rotate_left; (focus ((try simp only [Sx.sizes]); omega)); rotate_right) | (apply Blk.below (hb := hb5); rotate_left; (focus ((try simp only [Sx.sizes]); omega)); rotate_right) | (apply Blk.below (hb := hb6); rotate_left; (focus ((try simp only [Sx.sizes]); omega)); rotate_right) | (apply Blk.below (hb := hb7); rotate_left; (focus ((try simp only [Sx.sizes]); omega)); rotate_right) | (apply Blk.below (hb := hb8); rotate_left; (focus ((try simp only [Sx.sizes]); omega)); rotate_right) | (apply Blk.below (hb := hb9); rotate_left; (focus ((try simp only [Sx.sizes]); omega)); rotate_right) | exact Blk.newE (by first | rfl | ((try simp only [Sx.sizes]); first | done | omega)) _ _ | exact Blk.put_same (by (try simp only [Sx.sizes]); first | done | omega) _ _ | (apply Blk.put_ne; (focus omega)) | apply Blk.alloc | apply Blk.drew)); done)⟩ ?_
      rintro B ⟨hbB, kB⟩
      have bB := hbA.trans (hbB.mono hbA.size)
      have cb := cb B bB
      have lB := kB.lt
      have kB' := kB
      (refine Ga ?_)
      apply Lst_pu
      · apply P_idxm (j := i)
        focus rfl
        focus rfl
        focus rfl
        focus rfl
        focus rfl
        focus exact him
      focus rfl
      (refine Ga ?_)
      apply Lst_loadS' (cs := mcs y)
      focus rfl
      focus rfl
      focus rfl
      focus rfl
      focus rfl
      focus exact cb
      focus rfl
      unfold mcs
      (refine Ga ?_)
      refine Lst_abs (fun C => Below B.heap.size B C ∧ Blk C B.heap.size (mcs y) 37) ⟨Bel, (by (repeat (first | assumption | (apply Blk.below (hb := hb1); rotate_left; (focus ((try simp only [Sx.sizes]); omega)); rotate_right) | (apply Blk.below (hb := hb2); rotate_left; (focus ((try simp only [Sx.sizes]); omega)); rotate_right) | (apply Blk.below (hb := hb3); rotate_left; (focus ((try simp only [Sx.sizes]); omega)); rotate_right) | (apply Blk.below (hb := hb4); rotate_left; (focus ((try simp only [Sx.sizes]); omega)); rotate_right) | (apply Blk.below (hb := hb5); rotate_left; (focus ((try simp only [Sx.sizes]); omega)); rotate_right) | (apply Blk.below (hb := hb6); rotate_left; (focus ((try simp only [Sx.sizes]); omega)); rotate_right) | (apply Blk.below (hb := hb7); rotate_left; (focus ((try simp only [Sx.sizes]); omega)); rotate_right) | (apply Blk.below (hb := hb8); rotate_left; (focus ((try simp only [Sx.sizes]); omega)); rotate_right) | (apply Blk.below (hb := hb9); rotate_left; (focus ((try simp only [Sx.sizes]); omega)); rotate_right) | exact Blk.newE (by first | rfl | ((try simp only [Sx.sizes]); first | done | omega)) _ _ | exact Blk.put_same (by (try simp only [Sx.sizes]); first | done | omega) _ _ | (apply Blk.put_ne; (focus omega)) | apply Blk.alloc | apply Blk.drew)); done)⟩ ?_
      rintro C ⟨hbC, kC⟩
      have bC := bB.trans (hbC.mono bB.size)
      have kBC := kB'.below hbC lB
      have lBC := kBC.lt
      have lC := kC.lt
      unfold mcs at kBC kC
      (refine Ga ?_)
      (apply Lst_call; (focus rfl); (focus rfl))
      refine (c_same1 x y fx fy C).mono ?_
      rintro v D ⟨rfl, hbD⟩
      have bD := bC.trans (hbD.mono bC.size)
      cases hs : sameM x y with
      | true =>
        (refine Ga ?_)
        refine rndQ_n (α := Nat) (i + 1) ⟨hil, bD, hstep hs⟩ ⟨rfl, rfl, rfl, rfl, ?_, trivial⟩ (by omega)
        exact congrArg (Value.int .i64) (show (i : Int) + 1 = ((i + 1 : Nat) : Int) by omega)
      | false =>
        (refine Ga ?_)
        (apply retQ1; (focus rfl))
        exact ⟨by rw [hno hs]; rfl, bD⟩
    · obtain rfl : i = l.length := by omega
      (refine Ga ?_)
      (apply retQ1; (focus rfl))
      exact ⟨by rw [(sameL_iff hlen).2 fun j h1 h2 => hall j h1 h2 h1]; rfl, hbA⟩
  · have e : sameL l m = false := by
      cases h : sameL l m with
      | false => rfl
      | true => exact absurd (sameL_len h) hlen
    (refine Ga ?_)
    (apply retQ1; (focus rfl))
    exact ⟨by rw [e]; rfl, Below.refl _ _⟩
theorem c_MSame (l m : List Mk) (a b : Option Addr) (c d : Nat) (hz : l.length ≤ 1000000) (hl : ∀ q ∈ l, q.2.Fit) (hm : ∀ q ∈ m, q.2.Fit) (w : World) (h : MkS w (.slice a l.length c) l) (k : MkS w (.slice b m.length d) m) :
    Does Tryd.prog 31 #[.slice a l.length c, .slice b m.length d] w fun v w' => v = .bool (sameL l m) ∧ Below w.heap.size w w' := by
  refine Does_of (args := [.slice a l.length c, .slice b m.length d]) Tryd.func31 (by kernel_rfl) rfl rfl rfl rfl rfl ?_
  (refine Ga ?_)
  (apply Lst_call; (focus rfl); (focus rfl))
  refine (c_EqualFunc l m a b c d hz hl hm w h k).mono ?_
  rintro v A ⟨rfl, hbA⟩
  (refine Ga ?_)
  (apply retQ1; (focus rfl))
  exact ⟨rfl, hbA⟩
end
end Mk
end Go.Proofs.YtglfoofclicfpaaDoor
