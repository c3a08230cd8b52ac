/- Package aware: known, All. -/
import Derived.Test.YtoljcnlmockpcaaAw2
namespace Go.Proofs.Ytoljcnlmockpcaa
set_option maxRecDepth 100000
namespace Aw
open Go Go.RowKit Sx Wire
theorem flat_take {α : Type} (f : α → List Value) {l : List α} {i : Nat} (h : i < l.length) : ((l.take (i + 1)).map f).flatten = ((l.take i).map f).flatten ++ f l[i] := by
  rw [List.take_succ_eq_append_getElem h, List.map_append, List.flatten_append, List.map_singleton, List.flatten_singleton]
theorem lk_at : ∀ {es : List En}, Srt es → ∀ {i : Nat} (h : i < es.length), lk es es[i].p.c = some es[i]
  | e :: es, hs, 0, _ => by rw [List.getElem_cons_zero, lk_cons, if_pos rfl]
  | e :: es, hs, i + 1, h => by
    have h1 := (List.pairwise_cons.1 hs).1
    have h2 := (List.pairwise_cons.1 hs).2
    have hi : i < es.length := by simpa using h
    have := h1 _ (List.getElem_mem hi)
    rw [List.getElem_cons_succ, lk_cons, if_neg (by omega)]
    exact lk_at h2 hi
theorem own_baseN {w : World} {B B' nn sz : Nat} {e : TypeId} {v : Value} {xs : List Value} (h : w.ownsRow B e sz v nn xs) (hb : B' ≤ B) : w.ownsRow B' e sz v nn xs := by
  refine ⟨h.1, ?_⟩
  rcases h.2 with h | ⟨g, cap, cur, hv, hg, h⟩
  · exact .inl h
  · exact .inr ⟨g, cap, cur, hv, by omega, h⟩
/-- Who is there. -/
def Awr.here (a : Awr) (e : En) : Bool := !e.p.g && decide (IntKind.u64.wrap (a.now - e.t) < a.last)
def Awr.seen (a : Awr) : List Pr := (a.es.filter a.here).map (·.p)
attribute [local irreducible] W Lst Qst Pu seqQ blkQ rndQ cutQ retQ Does Enters IntKind.wrap bits sb World.alloc World.putObj Blk
theorem c_known (p mb : Nat) (a : Awr) (hl : a.es.length ≤ 100000000) (w : World) (h : AwAt w p mb a) : Does Try.prog 37 #[.pointer (some ⟨p, 0, none⟩)] w fun v w' =>
    w'.ownsRow w.heap.size 77 5 v a.es.length (a.es.map ecs).flatten ∧ Below w.heap.size w w' := by
  refine Does_of (args := [.pointer (some ⟨p, 0, none⟩)]) Try.func37 (by kernel_rfl) rfl rfl rfl rfl rfl ?_
  have hb := h.1
  have hlt := hb.lt
  have hsr := h.2.2
  obtain ⟨m, hm, hp, hml, hlk⟩ := h.look
  (refine Ga ?_)
  (apply Lst_call; (focus rfl); (focus rfl))
  refine (So.c_Keys mb w).mono ?_
  rintro v w1 ⟨rfl, rfl⟩
  (refine Ga ?_)
  (apply Lst_call; (focus rfl); (focus rfl))
  refine (So.c_SortedKeys mb RE m (by omega) w hm).mono ?_
  rintro v w2 ⟨hown, hb2⟩
  rw [sorted_keyd hp hsr, hml] at hown
  have hks := Ints.of_own hown
  obtain ⟨v1, v2, rfl⟩ : ∃ v1 v2, v = .slice v1 a.es.length v2 := by
    obtain ⟨x, y, h, _⟩ := own_form hown
    exact ⟨x, y, h⟩
  clear hown
  (refine Ga ?_)
  refine W_loop (α := Nat × Value) (fun x => [(0, .pointer (some ⟨p, 0, none⟩)), (3, x.2), (11, .slice v1 a.es.length v2), (12, .int .i64 (a.es.length : Int)), (13, .int .i64 (x.1 : Int))])
    (fun x A => x.1 ≤ a.es.length ∧ Below w2.heap.size w2 A ∧ A.ownsRow w2.heap.size 77 5 x.2 x.1 ((a.es.take x.1).map ecs).flatten) (fun x _ => a.es.length - x.1) (0, .slice none 0 0)
    ⟨Nat.zero_le _, Below.refl _ _, World.ownsRow_nil _ _ _ _⟩ ⟨rfl, rfl, rfl, rfl, rfl, trivial⟩ ?_
  rintro J ⟨i, out⟩ A ⟨hi, hbA, ho⟩
  dsimp only at hi ho ⊢
  have bA : Below w.heap.size w A := hb2.trans (hbA.mono hb2.size)
  have sA := hbA.size
  by_cases hil : i < a.es.length
  · have hkA := hks.below hbA (Nat.le_refl _)
    obtain ⟨g, off, rfl, hcell⟩ := hkA.at hil
    have hkey : (a.es.map fun e => ((e.p.c : Int))).getD i 0 = ((a.es[i].p.c : Nat) : Int) := by simp [List.getD, hil]
    rw [hkey] at hcell
    have hat := h.below bA
    obtain ⟨m', hm', _, _, hlk'⟩ := hat.look
    have hbA' := hat.1
    have hltA := hbA'.lt
    have hft := flat_take ecs hil
    have hla := lk_at hsr hil
    generalize a.es[i] = e at *
    (refine Ga ?_)
    apply SxU.Lst_mapget (hmp := hm') (z := nowhere)
    focus rfl
    focus rfl
    focus rfl
    focus rfl
    focus exact nowhere_zero _
    focus rfl
    rintro v there (⟨h1, rfl, rfl⟩ | ⟨e', h1, rfl, rfl⟩)
    · rw [hlk', hla] at h1; cases h1
    rw [hlk', hla] at h1
    cases h1
    obtain ⟨o1, o2, o3, rfl⟩ := own_slice ho
    unfold ecs
    apply Lst_push (hown := ho) (bytes := 48)
    ((focus constructor); (focus rfl); (focus rfl); (focus rfl); (focus rfl); (focus rfl); (focus rfl); (focus rfl); (focus rfl); (focus rfl); (focus rfl); (focus simp [Value.oneCell']); (focus rfl); (focus rfl); (focus rfl); (focus rfl); (focus omega); (focus omega); (focus omega))
    intro v' A2 ho2 hg _
    have hb2' := Sx.Below.own hbA ho hg (Nat.le_refl _) sA
    obtain ⟨u1, u2, u3, rfl⟩ := own_slice ho2
    (refine Ga ?_)
    refine rndQ_n (α := Nat × Value) (i + 1, .slice u1 u2 u3) ⟨by dsimp only; omega, hb2', ?_⟩ ⟨rfl, rfl, rfl, rfl, ?_, trivial⟩ (by dsimp only; omega)
    · have hz : A2.ownsRow w2.heap.size 77 5 (.slice u1 u2 u3) (i + 1) ((a.es.take (i + 1)).map ecs).flatten := by rw [hft]; exact ho2
      exact hz
    · show Value.int .i64 ((i : Int) + 1) = Value.int .i64 ((i + 1 : Nat) : Int)
      rw [Int.natCast_add]
      rfl
  · obtain rfl : i = a.es.length := by omega
    rw [List.take_of_length_le (Nat.le_refl _)] at ho
    obtain ⟨o1, o2, o3, rfl⟩ := own_slice ho
    (refine Ga ?_)
    (apply retQ1; (focus rfl))
    exact ⟨own_baseN ho hb2.size, bA⟩
theorem c_AllO (p mb : Nat) (a : Awr) (hf : ∀ e ∈ a.es, e.p.Fit) (hl : (wrL (a.es.map (·.p))).length ≤ 100000000) (w : World) (h : AwAt w p mb a) : Does Try.prog 22 #[.pointer (some ⟨p, 0, none⟩)] w fun v w' =>
    w'.ownsRow w.heap.size 5 1 v (wrL (a.es.map (·.p))).length ((wrL (a.es.map (·.p))).map bc) ∧ Below w.heap.size w w' := by
  refine Does_of (args := [.pointer (some ⟨p, 0, none⟩)]) Try.func22 (by kernel_rfl) rfl rfl rfl rfl rfl ?_
  have hlen : a.es.length ≤ 100000000 := by
    have := wrs_len (a.es.map (·.p))
    unfold wrL at hl
    rw [List.length_append] at hl
    rw [List.length_map] at this
    omega
  (refine Ga ?_)
  (apply Lst_call; (focus rfl); (focus rfl))
  refine (c_known p mb a hlen w h).mono ?_
  rintro v w1 ⟨hown, hb1⟩
  have hks : SRows w1 5 v (a.es.map ecs) := SRows.of_own hown (fun l hl => by
    obtain ⟨e, _, rfl⟩ := List.mem_map.1 hl
    rfl) (by omega)
  obtain ⟨v1, v2, rfl⟩ := hks.form
  rw [List.length_map] at *
  clear hown
  (refine Ga ?_)
  refine W_loop (α := Nat × Value) (fun x => [(3, x.2), (7, .slice v1 a.es.length v2), (8, .int .i64 (a.es.length : Int)), (9, .int .i64 (x.1 : Int))])
    (fun x A => x.1 ≤ a.es.length ∧ Below w1.heap.size w1 A ∧ A.ownsRow w1.heap.size 37 4 x.2 x.1 (((a.es.take x.1).map fun e => pcs e.p).flatten)) (fun x _ => a.es.length - x.1) (0, .slice none 0 0)
    ⟨Nat.zero_le _, Below.refl _ _, World.ownsRow_nil _ _ _ _⟩ ⟨rfl, rfl, rfl, rfl, trivial⟩ ?_
  rintro J ⟨i, out⟩ A ⟨hi, hbA, ho⟩
  dsimp only at hi ho ⊢
  have bA : Below w.heap.size w A := hb1.trans (hbA.mono hb1.size)
  have sA := hbA.size
  by_cases hil : i < a.es.length
  · obtain ⟨b, off, rfl, hbl, hcells⟩ := (hks.below hbA (Nat.le_refl _)).at (i := i) (by rw [List.length_map]; exact hil)
    rw [List.getElem_map] at hcells
    have hft := flat_take (fun e => pcs e.p) hil
    generalize a.es[i] = e at *
    (refine Ga ?_)
    apply Lst_pu
    · apply P_idx
      focus rfl
      focus rfl
      focus rfl
      focus rfl
      focus rfl
      focus omega
      focus omega
    focus rfl
    rw [Int.toNat_natCast]
    (refine Ga ?_)
    apply Lst_loadS' (hc := hcells)
    focus rfl
    focus rfl
    focus rfl
    focus rfl
    focus rfl
    focus rfl
    unfold ecs
    obtain ⟨o1, o2, o3, rfl⟩ := own_slice ho
    (refine Ga ?_)
    have hbX : Below A.heap.size A ((A.alloc (.cells [.int .u64 0, .int .u64 0, .string ⟨#[]⟩, .bool false, .int .u64 0].toArray 77)).putObj A.heap.size (.cells [.int .u64 (e.p.c : Int), .int .u64 (e.p.k : Int), .string e.p.s, .bool e.p.g, .int .u64 e.t].toArray 77)) := Bel
    have hsX : ((A.alloc (.cells [.int .u64 0, .int .u64 0, .string ⟨#[]⟩, .bool false, .int .u64 0].toArray 77)).putObj A.heap.size (.cells [.int .u64 (e.p.c : Int), .int .u64 (e.p.k : Int), .string e.p.s, .bool e.p.g, .int .u64 e.t].toArray 77)).heap.size = A.heap.size + 1 := by simp only [Sx.sizes]
    generalize (A.alloc (.cells [.int .u64 0, .int .u64 0, .string ⟨#[]⟩, .bool false, .int .u64 0].toArray 77)).putObj A.heap.size (.cells [.int .u64 (e.p.c : Int), .int .u64 (e.p.k : Int), .string e.p.s, .bool e.p.g, .int .u64 e.t].toArray 77) = X at *
    have ho1 := own_below ho hbX (Nat.le_refl _)
    apply Lst_push (hown := ho1) (bytes := 40)
    ((focus constructor); (focus rfl); (focus rfl); (focus rfl); (focus rfl); (focus rfl); (focus rfl); (focus rfl); (focus rfl); (focus rfl); (focus rfl); (focus simp [Value.oneCell']); (focus rfl); (focus rfl); (focus rfl); (focus rfl); (focus omega); (focus omega); (focus omega))
    intro v' A2 ho2 hg _
    have hb2' := Sx.Below.own (hbA.trans (hbX.mono sA)) ho1 hg (Nat.le_refl _) (by omega)
    obtain ⟨u1, u2, u3, rfl⟩ := own_slice ho2
    (refine Ga ?_)
    refine rndQ_n (α := Nat × Value) (i + 1, .slice u1 u2 u3) ⟨by dsimp only; omega, hb2', ?_⟩ ⟨rfl, rfl, rfl, ?_, trivial⟩ (by dsimp only; omega)
    · dsimp only
      rw [hft]
      exact ho2
    · show Value.int .i64 ((i : Int) + 1) = Value.int .i64 ((i + 1 : Nat) : Int)
      rw [Int.natCast_add]
      rfl
  · obtain rfl : i = a.es.length := by omega
    rw [List.take_of_length_le (Nat.le_refl _)] at ho
    have hP : Prs A out (a.es.map (·.p)) := by
      unfold Prs
      rw [List.map_map]
      exact SRows.of_own ho (fun l hl => by
        obtain ⟨e, _, rfl⟩ := List.mem_map.1 hl
        rfl) (by omega)
    obtain ⟨o1, o2, o3, rfl⟩ := own_slice ho
    (refine Ga ?_)
    (apply Lst_call; (focus rfl); (focus rfl))
    refine (c_bytesO _ (a.es.map (·.p)) (fun p hp => ?_) hl A hP).mono ?_
    · obtain ⟨e, he, rfl⟩ := List.mem_map.1 hp
      exact hf e he
    rintro u W2 ⟨hu, hb2⟩
    have hu := own_baseN hu bA.size
    obtain ⟨u1, u2, u3, rfl⟩ := own_slice hu
    (refine Ga ?_)
    (apply retQ1; (focus rfl))
    exact ⟨hu, bA.trans (hb2.mono bA.size)⟩
theorem c_All (p mb : Nat) (a : Awr) (hf : ∀ e ∈ a.es, e.p.Fit) (hl : (wrL (a.es.map (·.p))).length ≤ 100000000) (w : World) (h : AwAt w p mb a) : Does Try.prog 22 #[.pointer (some ⟨p, 0, none⟩)] w fun v w' =>
    Ints w' .u8 v (nums (wrL (a.es.map (·.p)))) ∧ Below w.heap.size w w' :=
  (c_AllO p mb a hf hl w h).mono fun _ _ h => ⟨Ints.ofO h.1, h.2⟩
end Aw
end Go.Proofs.Ytoljcnlmockpcaa
