/- slices.Clone and (*Disk).Read once more, with what is known of the capacity. -/
import Derived.Test.YtgcklcpbmlibdaaDkBoth
namespace Go.Proofs.Ytgcklcpbmlibdaa
set_option maxRecDepth 100000
namespace Dk
open Go Go.RowKit Sx
attribute [local irreducible] W Lst Qst Pu seqQ blkQ rndQ cutQ retQ Does Enters IntKind.wrap bits sb World.alloc World.putObj Blk
theorem c_CloneC (v : Value) (l : List UInt8) (hl : l.length ≤ 1000000) (w : World) (h : Ints w .u8 v (nums l)) : Does Try.prog 35 #[v] w fun u w' => (Ints w' .u8 u (nums l) ∧ ∃ a c, u = .slice a l.length c ∧ l.length ≤ c) ∧ Below w.heap.size w w' := by
  refine Does_of (args := [v]) Try.func35 (by kernel_rfl) rfl rfl rfl rfl rfl ?_
  obtain ⟨g, off, cap, h1, h2, h3⟩ := h
  rcases h1 with rfl | ⟨rfl, hz⟩
  · (refine Ga ?_)
    apply Lst_pu
    · apply P_slice_nil
      focus rfl
      focus rfl
      focus rfl
      focus rfl
    focus rfl
    (refine Ga ?_)
    apply Lst_none
    focus rfl
    focus rfl
    focus rfl
    focus rfl
    (refine Ga ?_)
    have hlen : (nums l).length = l.length := by simp [nums]
    have hown : (w.alloc (.cells #[] 5)).ownsRow w.heap.size 5 1 (.slice (some ⟨w.heap.size, 0, none⟩) 0 0) 0 [] :=
      ⟨rfl, .inr ⟨w.heap.size, 0, #[], rfl, Nat.le_refl _, Blk_new w _, Nat.le_refl _, Nat.zero_le _, rfl, rfl⟩⟩
    apply Lst_append (hown := hown) (bytes := 1) (news := l.map bc)
    focus rfl
    focus rfl
    focus rfl
    focus rfl
    focus rfl
    focus rfl
    focus rfl
    focus rfl
    focus rfl
    focus (
      intro j u hu
      have hj : j < l.length := by
        have := (List.getElem?_eq_some_iff.1 hu).1
        simpa using this
      have hg : g < w.heap.size := h2 (fun e => by rw [e] at hlen; simp at hlen; omega)
      have h3' := h3 j (by omega)
      have hk : (w.alloc (.cells #[] 5)).cell? ⟨g, off + j, none⟩ = w.cell? ⟨g, off + j, none⟩ := ((Below.refl w.heap.size w).alloc (Nat.le_refl _) _).cell hg
      rw [hk, h3']
      rw [List.getElem?_map, List.getElem?_eq_getElem hj] at hu
      rw [← Option.some.inj hu]
      simp [nums, bc])
    focus (rw [List.length_map]; omega)
    focus (intro u hu; simp only [List.mem_map] at hu; obtain ⟨c, _, rfl⟩ := hu; rfl)
    focus omega
    focus omega
    focus (rw [World.size_alloc]; omega)
    focus rfl
    intro v' w2 ho' hg' _
    obtain ⟨v1, v2, v3, rfl⟩ := own_slice ho'
    (refine Ga ?_)
    (apply retQ1; (focus rfl))
    refine ⟨?_, ?_⟩
    · have hcap := own_cap ho'
      rw [List.nil_append, ← nums_map] at ho'
      refine ⟨Ints.of_own ho', ?_⟩
      obtain ⟨a, c, h1, h2⟩ := hcap
      rw [Nat.zero_add, hlen] at h1 h2
      exact ⟨a, c, h1, h2⟩
    · exact Below.grown ((Below.refl w.heap.size w).alloc (Nat.le_refl _) _) hg' (by rw [World.size_alloc]; omega) (fun k hk => by
        have : w.heap.size = k := by simpa [Value.ownBlock] using hk
        omega)
  · (refine Ga ?_)
    apply Lst_pu
    · apply P_slice_nil
      focus rfl
      focus rfl
      focus rfl
      focus rfl
    focus rfl
    (refine Ga ?_)
    (apply retQ1; (focus rfl))
    have hl0 : l.length = 0 := by
      have := congrArg List.length hz
      simpa [nums] using this
    exact ⟨⟨⟨0, 0, 0, .inr ⟨rfl, hz⟩, fun e => absurd hz e, fun j hj => by rw [hz] at hj; simp at hj⟩, none, 0, by rw [hl0]; rfl, by omega⟩, Bel⟩
theorem c_ReadC (p mb : Nat) (d : Dsk) (n : ByteArray) (hl : (d.file n).b.length ≤ 1000000) (w : World) (h : DkAt w p mb d) : Does Try.prog 17 #[.pointer (some ⟨p, 0, none⟩), .string n] w fun v w' =>
    (∃ sv, v = .tuple #[sv, .int .i64 (d.read n).2] ∧ Ints w' .u8 sv (nums (d.read n).1) ∧ ∃ a c, sv = .slice a (d.read n).1.length c ∧ (d.read n).1.length ≤ c) ∧ Below w.heap.size w w' := by
  refine Does_of (args := [.pointer (some ⟨p, 0, none⟩), .string n]) Try.func17 (by kernel_rfl) rfl rfl rfl rfl rfl ?_
  have hb := h.1
  have hlt := hb.lt
  unfold Dsk.read
  (refine Ga ?_)
  (apply Lst_call; (focus rfl); (focus rfl))
  refine (c_is p mb d n _ h).mono ?_
  rintro v w1 ⟨rfl, hb1⟩
  have b1 := Sx.Below.after (w := w) Bel hb1
  have s1 := hb1.size
  try simp only [Sx.sizes] at s1
  have h1 := h.below hb1
  by_cases h0 : d.isE n = 0
  · rw [if_pos h0]
    (refine Ga ?_)
    apply Lst_mapget (hmp := h1.2) (z := fz)
    focus rfl
    focus rfl
    focus rfl
    focus rfl
    focus exact fzero _
    focus rfl
    intro v there hg
    obtain ⟨a, c, rfl, hi, hmc, hs⟩ := Got.file hg
    clear hg
    generalize d.file n = g at hi hmc hs hl ⊢
    (refine Ga ?_)
    (apply Lst_call; (focus rfl); (focus rfl))
    refine (c_CloneC _ g.b hl _ hi).mono ?_
    rintro u w2 ⟨⟨hu, u1, u2, rfl, hlc⟩, hb2⟩
    (refine Ga ?_)
    apply retQ2
    focus rfl
    focus rfl
    exact ⟨⟨_, rfl, hu, _, _, rfl, hlc⟩, b1.trans (hb2.mono b1.size)⟩
  · rw [if_neg h0]
    (refine Ga ?_)
    apply retQ2
    focus rfl
    focus rfl
    exact ⟨⟨_, rfl, ⟨0, 0, 0, .inr ⟨rfl, rfl⟩, fun e => absurd rfl e, fun j hj => by simp [nums] at hj⟩, none, 0, rfl, Nat.le_refl _⟩, b1⟩
end Dk
end Go.Proofs.Ytgcklcpbmlibdaa
