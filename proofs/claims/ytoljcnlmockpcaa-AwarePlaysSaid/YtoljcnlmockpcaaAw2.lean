/- Package aware: bytes of entries. -/
import Derived.Test.YtoljcnlmockpcaaAw1
import Derived.Test.YtoljcnlmockpcaaSxR
import Derived.Test.YtoljcnlmockpcaaRe
namespace Go.Proofs.Ytoljcnlmockpcaa
set_option maxRecDepth 100000
namespace Aw
open Go Go.RowKit Sx Wire
/-- An entry's bytes. -/
def wrP (p : Pr) : List UInt8 := Lib.uvarint p.c ++ (Lib.uvarint p.k ++ ((if p.g then 1 else 0) :: (Lib.uvarint p.s.size ++ p.s.data.toList)))
def wrs : List Pr → List UInt8
  | [] => []
  | p :: l => wrP p ++ wrs l
def wrL (l : List Pr) : List UInt8 := Lib.uvarint l.length ++ wrs l
structure Pr.Fit (p : Pr) : Prop where
  c : p.c < 18446744073709551616
  k : p.k < 18446744073709551616
  s : p.s.size ≤ 100000000
theorem wrs_append : ∀ l k : List Pr, wrs (l ++ k) = wrs l ++ wrs k
  | [], _ => rfl
  | p :: l, k => by
    show wrP p ++ wrs (l ++ k) = wrP p ++ wrs l ++ wrs k
    rw [wrs_append l k, List.append_assoc]
theorem wrs_take {l : List Pr} {i : Nat} (h : i < l.length) : wrs (l.take (i + 1)) = wrs (l.take i) ++ wrP l[i] := by
  rw [List.take_succ_eq_append_getElem h, wrs_append]
  congr 1
  exact List.append_nil _
theorem wrs_le (l : List Pr) (i : Nat) : (wrs (l.take i)).length ≤ (wrs l).length := by
  have : (wrs (l.take i ++ l.drop i)).length = (wrs l).length := by rw [List.take_append_drop]
  rw [wrs_append, List.length_append] at this
  omega
theorem wrs_len : ∀ l : List Pr, l.length ≤ (wrs l).length
  | [] => Nat.le_refl _
  | p :: l => by
    have := wrs_len l
    unfold wrs wrP
    simp only [List.length_append, List.length_cons]
    omega
/-- Entries in a slice that is only read. -/
def Prs (w : World) (v : Value) (l : List Pr) : Prop := SRows w 4 v (l.map pcs)
theorem Prs.form {w : World} {v : Value} {l : List Pr} (h : Prs w v l) : ∃ a c, v = .slice a l.length c := by
  have := SRows.form h
  rwa [List.length_map] at this
theorem Prs.below {w w' : World} {v : Value} {l : List Pr} {B : Nat} (h : Prs w v l) (hb : Below B w w') (hB : w.heap.size ≤ B) : Prs w' v l := SRows.below h hb hB
theorem Prs.at {w : World} {nn c : Nat} {a : Option Addr} {l : List Pr} (h : Prs w (.slice a nn c) l) {i : Nat} (hi : i < l.length) : ∃ b off, a = some ⟨b, off, none⟩ ∧ b < w.heap.size ∧ ∀ j u, (pcs l[i])[j]? = some u → w.cell? ⟨b, off + i * 4 + j, none⟩ = some u := by
  have := SRows.at h (i := i) (by rw [List.length_map]; exact hi)
  simpa using this
theorem off_alloc {w : World} {b B : Nat} {l : List UInt8} (h : WrAt b B l w) (o : Obj) : WrAt b B l (w.alloc o) := by
  obtain ⟨hB, sv, hblk, hown, hne⟩ := h
  exact ⟨by rw [World.size_alloc]; omega, sv, Blk.alloc hblk _, own_alloc hown _, hne⟩
theorem off_put {w : World} {b B K : Nat} {l : List UInt8} {pl pl' : List Value} {T : TypeId} (h : WrAt b B l w) (hK : Blk w K pl T) (hb : b ≠ K) (hT : T ≠ 5) (T' : TypeId) : WrAt b B l (w.putObj K (.cells pl'.toArray T')) := by
  obtain ⟨hB, sv, hblk, hown, hne⟩ := h
  exact ⟨by rw [World.putObj_size]; exact hB, sv, Blk.put_ne hb hblk, own_put' hown (own_typed hown hT hK) _, hne⟩
attribute [local irreducible] W Lst Qst Pu seqQ blkQ rndQ cutQ retQ Does Enters IntKind.wrap bits sb World.alloc World.putObj Blk
theorem c_bytesO (v : Value) (l : List Pr) (hf : ∀ p ∈ l, p.Fit) (hl : (wrL l).length ≤ 100000000) (w : World) (h : Prs w v l) : Does Try.prog 40 #[v] w fun u w' => w'.ownsRow w.heap.size 5 1 u (wrL l).length ((wrL l).map bc) ∧ Below w.heap.size w w' := by
  obtain ⟨a, c, rfl⟩ := h.form
  refine Does_of (args := [.slice a l.length c]) Try.func40 (by kernel_rfl) rfl rfl rfl rfl rfl ?_
  have hll := wrs_len l
  have hl' : (Lib.uvarint l.length).length + (wrs l).length ≤ 100000000 := by rw [← List.length_append]; exact hl
  have hw : IntKind.u64.wrap (l.length : Int) = ((l.length : Nat) : Int) := wu64 (by omega) (by omega)
  (refine Ga ?_)
  have hW : WrAt w.heap.size w.heap.size [] (w.alloc (.cells [.slice none 0 0].toArray 103)) := WrAt.new w _ (Nat.le_refl _)
  have hbW : Below w.heap.size w (w.alloc (.cells [.slice none 0 0].toArray 103)) := Bel
  have hsW : (w.alloc (.cells [.slice none 0 0].toArray 103)).heap.size = w.heap.size + 1 := by simp only [Sx.sizes]
  generalize w.alloc (.cells [.slice none 0 0].toArray 103) = W at *
  (apply Lst_call; (focus rfl); (focus rfl))
  refine (c_UintAt w.heap.size w.heap.size [] l.length (by omega) W hW (by simp)).mono ?_
  rintro v w1 ⟨rfl, hW1, hoff1⟩
  have b1 := hbW.trans (hoff1.below (Nat.le_refl _) (Nat.le_refl _))
  (refine Ga ?_)
  refine W_loop (α := Nat) (fun i => [(3, .pointer (some ⟨w.heap.size, 0, none⟩)), (14, .slice a l.length c), (15, .int .i64 (l.length : Int)), (16, .int .i64 (i : Int))])
    (fun i A => i ≤ l.length ∧ WrAt w.heap.size w.heap.size (Lib.uvarint l.length ++ wrs (l.take i)) A ∧ Below w.heap.size w A ∧ w.heap.size < A.heap.size) (fun i _ => l.length - i) 0
    ⟨Nat.zero_le _, ?_, b1, by have := hoff1.size; omega⟩ ⟨rfl, rfl, rfl, rfl, trivial⟩ ?_
  · simpa [wrs] using hW1
  clear hW hW1 hoff1 hbW hsW b1 W w1
  rintro J i A ⟨hi, hW, hbA, hsA⟩
  by_cases hil : i < l.length
  · have hP := h.below hbA (Nat.le_refl _)
    obtain ⟨b, off, rfl, hbl, hcells⟩ := hP.at hil
    have hfi := hf l[i] (List.getElem_mem hil)
    have htk := wrs_take hil
    have hle := wrs_le l (i + 1)
    rw [htk, List.length_append] at hle
    generalize l[i] = p at hcells hfi htk hle
    (refine Ga ?_)
    apply Lst_pu
    · apply P_idx
      focus rfl
      focus rfl
      focus rfl
      focus rfl
      focus rfl
      focus omega
      focus omega
    focus rfl
    rw [Int.toNat_natCast]
    (refine Ga ?_)
    apply Lst_loadS' (hc := hcells)
    focus rfl
    focus rfl
    focus rfl
    focus rfl
    focus rfl
    focus rfl
    unfold pcs
    (refine Ga ?_)
    generalize hacc : Lib.uvarint l.length ++ wrs (l.take i) = acc at hW
    have hal : acc.length + (wrP p).length ≤ 100000000 := by rw [← hacc, List.length_append]; omega
    have hwp : (wrP p).length = (Lib.uvarint p.c).length + ((Lib.uvarint p.k).length + (1 + ((Lib.uvarint p.s.size).length + p.s.size))) := by
      unfold wrP
      simp only [List.length_append, List.length_cons, Array.length_toList, ByteArray.size_data]
      omega
    have hne : w.heap.size ≠ A.heap.size := by omega
    have k1 : Blk ((A.alloc (.cells [.int .u64 0, .int .u64 0, .string ⟨#[]⟩, .bool false].toArray 37)).putObj A.heap.size (.cells [.int .u64 (p.c : Int), .int .u64 (p.k : Int), .string p.s, .bool p.g].toArray 37)) A.heap.size [.int .u64 (p.c : Int), .int .u64 (p.k : Int), .string p.s, .bool p.g] 37 := (by (repeat (first | assumption | (apply Blk.below (hb := hb1); rotate_left; (focus ((try simp only [Sx.sizes]); omega)); rotate_right) | (apply Blk.below (hb := hb2); rotate_left; (focus ((try simp only [Sx.sizes]); omega)); rotate_right) | (apply Blk.below (hb := hb3); rotate_left; (focus ((try simp only [Sx.sizes]); omega)); rotate_right) | (apply Blk.below (hb := hb4); rotate_left; (focus ((try simp only [Sx.sizes]); omega)); rotate_right) | (apply Blk.below (hb := hb5); rotate_left; (focus ((try simp only [Sx.sizes]); omega)); rotate_right) | (apply Blk.below (hb := hb6); rotate_left; (focus ((try simp only [Sx.sizes]); omega)); rotate_right) | (apply Blk.below (hb := hb7); rotate_left; (focus ((try simp only [Sx.sizes]); omega)); rotate_right) | (apply Blk.below (hb := hb8); rotate_left; (focus ((try simp only [Sx.sizes]); omega)); rotate_right) | (apply Blk.below (hb := hb9); rotate_left; (focus ((try simp only [Sx.sizes]); omega)); rotate_right) | exact Blk.newE (by first | rfl | ((try simp only [Sx.sizes]); first | done | omega)) _ _ | exact Blk.put_same (by (try simp only [Sx.sizes]); first | done | omega) _ _ | (apply Blk.put_ne; (focus omega)) | apply Blk.alloc | apply Blk.drew)); done)
    have hb1 : Below A.heap.size A ((A.alloc (.cells [.int .u64 0, .int .u64 0, .string ⟨#[]⟩, .bool false].toArray 37)).putObj A.heap.size (.cells [.int .u64 (p.c : Int), .int .u64 (p.k : Int), .string p.s, .bool p.g].toArray 37)) := Bel
    have hW1 : WrAt w.heap.size w.heap.size acc ((A.alloc (.cells [.int .u64 0, .int .u64 0, .string ⟨#[]⟩, .bool false].toArray 37)).putObj A.heap.size (.cells [.int .u64 (p.c : Int), .int .u64 (p.k : Int), .string p.s, .bool p.g].toArray 37)) :=
      off_put (off_alloc hW _) (Blk.newE rfl _ _) hne (by decide) _
    have hs1 : ((A.alloc (.cells [.int .u64 0, .int .u64 0, .string ⟨#[]⟩, .bool false].toArray 37)).putObj A.heap.size (.cells [.int .u64 (p.c : Int), .int .u64 (p.k : Int), .string p.s, .bool p.g].toArray 37)).heap.size = A.heap.size + 1 := by simp only [Sx.sizes]
    generalize (A.alloc (.cells [.int .u64 0, .int .u64 0, .string ⟨#[]⟩, .bool false].toArray 37)).putObj A.heap.size (.cells [.int .u64 (p.c : Int), .int .u64 (p.k : Int), .string p.s, .bool p.g].toArray 37) = W1 at *
    (apply Lst_call; (focus rfl); (focus rfl))
    refine (c_UintAt w.heap.size w.heap.size acc p.c hfi.c W1 hW1 (by omega)).mono ?_
    rintro v W2 ⟨rfl, hW2, hoff2⟩
    have k2 := hoff2.typed _ _ _ (Ne.symm hne) (by decide) k1
    (refine Ga ?_)
    (apply Lst_call; (focus rfl); (focus rfl))
    refine (c_UintAt w.heap.size w.heap.size _ p.k hfi.k W2 hW2 (by rw [List.length_append]; omega)).mono ?_
    rintro v W3 ⟨rfl, hW3, hoff3⟩
    have k3 := hoff3.typed _ _ _ (Ne.symm hne) (by decide) k2
    have hoff : Off w.heap.size w.heap.size W1 W3 := hoff2.trans hoff3
    have hby := fun g => c_Byte w.heap.size w.heap.size _ g W3 hW3 (by rw [List.length_append, List.length_append]; omega)
    have htx := fun g A' hA' => c_TextAt w.heap.size w.heap.size (acc ++ Lib.uvarint p.c ++ Lib.uvarint p.k ++ [g]) p.s A' hA' (by rw [List.length_append, List.length_append, List.length_append, List.length_singleton]; omega)
    have hfin : ∀ (g : UInt8) W4 W5, g = (if p.g then 1 else 0) → Off w.heap.size w.heap.size W3 W4 → Off w.heap.size w.heap.size W4 W5 → WrAt w.heap.size w.heap.size (acc ++ Lib.uvarint p.c ++ Lib.uvarint p.k ++ [g] ++ (Lib.uvarint p.s.size ++ p.s.data.toList)) W5 →
        i + 1 ≤ l.length ∧ WrAt w.heap.size w.heap.size (Lib.uvarint l.length ++ wrs (l.take (i + 1))) W5 ∧ Below w.heap.size w W5 ∧ w.heap.size < W5.heap.size := by
      intro g W4 W5 hg o4 o5 hW5
      have o := (hoff.trans o4).trans o5
      refine ⟨by omega, ?_, (hbA.trans (hb1.mono hbA.size)).trans (o.below (Nat.le_refl _) (Nat.le_refl _)), by have := o.size; omega⟩
      rw [htk, ← List.append_assoc, hacc]
      unfold wrP
      rw [← hg]
      simpa only [List.append_assoc, List.singleton_append] using hW5
    have e0 : bc 0 = .int .u8 0 := rfl
    have e1 : bc 1 = .int .u8 1 := rfl
    cases hg : p.g with
    | false =>
      rw [hg] at k3
      (refine Ga ?_)
      (apply Lst_call; (focus rfl); (focus rfl))
      refine (e0 ▸ hby 0).mono ?_
      rintro v W4 ⟨rfl, hW4, hoff4⟩
      have k4 := hoff4.typed _ _ _ (Ne.symm hne) (by decide) k3
      (refine Ga ?_)
      (apply Lst_call; (focus rfl); (focus rfl))
      refine (htx 0 W4 hW4).mono ?_
      rintro v W5 ⟨rfl, hW5, hoff5⟩
      (refine Ga ?_)
      refine rndQ_n (i + 1) (hfin 0 W4 W5 (by rw [hg]; rfl) hoff4 hoff5 hW5) ⟨rfl, rfl, rfl, ?_, trivial⟩ (by omega)
      show Value.int .i64 ((i : Int) + 1) = Value.int .i64 ((i + 1 : Nat) : Int)
      rw [Int.natCast_add]
      rfl
    | true =>
      rw [hg] at k3
      (refine Ga ?_)
      (apply Lst_call; (focus rfl); (focus rfl))
      refine (e1 ▸ hby 1).mono ?_
      rintro v W4 ⟨rfl, hW4, hoff4⟩
      have k4 := hoff4.typed _ _ _ (Ne.symm hne) (by decide) k3
      (refine Ga ?_)
      (apply Lst_call; (focus rfl); (focus rfl))
      refine (htx 1 W4 hW4).mono ?_
      rintro v W5 ⟨rfl, hW5, hoff5⟩
      (refine Ga ?_)
      refine rndQ_n (i + 1) (hfin 1 W4 W5 (by rw [hg]; rfl) hoff4 hoff5 hW5) ⟨rfl, rfl, rfl, ?_, trivial⟩ (by omega)
      show Value.int .i64 ((i : Int) + 1) = Value.int .i64 ((i + 1 : Nat) : Int)
      rw [Int.natCast_add]
      rfl
  · obtain rfl : i = l.length := by omega
    rw [List.take_of_length_le (Nat.le_refl _)] at hW
    (refine Ga ?_)
    (apply Lst_call; (focus rfl); (focus rfl))
    refine (c_WBytesO w.heap.size w.heap.size _ hl A hW).mono ?_
    rintro u W1 ⟨hu, hb1⟩
    obtain ⟨u1, u2, u3, rfl⟩ := own_slice hu
    (refine Ga ?_)
    (apply retQ1; (focus rfl))
    exact ⟨So.own_base hu hbA.size, hbA.trans (hb1.mono hbA.size)⟩
theorem c_bytes (v : Value) (l : List Pr) (hf : ∀ p ∈ l, p.Fit) (hl : (wrL l).length ≤ 100000000) (w : World) (h : Prs w v l) : Does Try.prog 40 #[v] w fun u w' => Ints w' .u8 u (nums (wrL l)) ∧ Below w.heap.size w w' :=
  (c_bytesO v l hf hl w h).mono fun _ _ h => ⟨Ints.ofO h.1, h.2⟩
end Aw
end Go.Proofs.Ytoljcnlmockpcaa
