/- The walks of package value: which values are taken. -/
import Derived.Test.YtpfhnapjddckfaaGreatDoorVal4
import Derived.Test.YtpfhnapjddckfaaGreatDoorVRunes
namespace Go.Proofs.YtpfhnapjddckfaaGreatDoor
set_option maxRecDepth 100000
namespace Val
open Go Go.RowKit Sx Fl
attribute [local irreducible] W Lst Qst Pu seqQ blkQ rndQ cutQ retQ Does Enters IntKind.wrap bits sb World.alloc World.putObj Blk
/-- Is a value taken? -/
def okV (x : Vl) : Bool :=
  if x.k = 0 ∨ x.k = 5 then x.n = 0 ∧ x.f = 0 ∧ x.s = ⟨#[]⟩
  else if x.k = 1 then (x.n = 0 ∨ x.n = 1) ∧ x.f = 0 ∧ x.s = ⟨#[]⟩
  else if x.k = 2 then x.f = 0 ∧ x.s = ⟨#[]⟩
  else if x.k = 3 then x.n = 0 ∧ x.s = ⟨#[]⟩
  else if x.k = 4 then x.n = 0 ∧ x.f = 0 ∧ x.s.size ≤ 4096 ∧ Lib.validD x.s.data.toList = true
  else false
theorem nbits_zero : nbits 0 = 0 := rfl
theorem nbits_eq (f : Nat) : nbits f = 0 ↔ f = 0 := by
  unfold nbits
  by_cases h : isNaN f = true
  · rw [if_pos h]
    constructor
    · intro h; omega
    · intro e; subst e; exact absurd h (by decide)
  · rw [if_neg h]
set_option maxHeartbeats 4000000 in
theorem c_Check (x : Vl) (w : World) (hT : Utf.Tabs w) (hs : x.s.size < 140737488355328) : Does Tryz.prog 25 #[x.v] w fun v w' => v = .int .i64 (if okV x then 0 else 20) ∧ Below w.heap.size w w' := by
  obtain ⟨k, n, f, s⟩ := x
  refine Does_of (args := [.agg #[.int .i64 k, .int .i64 n, .float .f64 f, .string s]]) Tryz.func25 (by kernel_rfl) rfl rfl rfl rfl rfl ?_
  have h00 := nbits_zero
  have hnf := nbits_eq f
  by_cases h0 : k = 0
  · subst h0
    by_cases hn : n = 0
    · subst hn
      by_cases he : s = ⟨#[]⟩
      · skip
        by_cases hf : nbits f = 0
        · have hf' : f = 0 := hnf.1 hf
          have hok : okV ⟨0, 0, f, s⟩ = true := by unfold okV; simp [he, hf']
          rw [hok]
          (refine Gf ?_)
          refine W_draws (fun A' => A' = World.drew _) rfl (by kernel_rfl) rfl ?_
          (refine Qf ?_)
          apply Qst_call (.int .u64 (nbits f))
          focus rfl
          focus rfl
          · rintro _ rfl
            exact (c_bitsOf f _).mono fun v w' h => ⟨h.1, h.2.symm⟩
          (refine Qf ?_)
          apply Qst_call (.int .u64 (nbits 0))
          focus rfl
          focus rfl
          · rintro _ rfl
            exact (c_bitsOf 0 _).mono fun v w' h => ⟨h.1, h.2.symm⟩
          (refine Qf ?_)
          rintro _ rfl
          (refine Gf ?_)
          (apply retQ1; (focus rfl))
          exact ⟨rfl, Bel⟩
        · have hf' : ¬ f = 0 := fun e => hf (hnf.2 e)
          have hok : okV ⟨0, 0, f, s⟩ = false := by unfold okV; simp [he, hf']
          rw [hok]
          (refine Gf ?_)
          refine W_draws (fun A' => A' = World.drew _) rfl (by kernel_rfl) rfl ?_
          (refine Qf ?_)
          apply Qst_call (.int .u64 (nbits f))
          focus rfl
          focus rfl
          · rintro _ rfl
            exact (c_bitsOf f _).mono fun v w' h => ⟨h.1, h.2.symm⟩
          (refine Qf ?_)
          apply Qst_call (.int .u64 (nbits 0))
          focus rfl
          focus rfl
          · rintro _ rfl
            exact (c_bitsOf 0 _).mono fun v w' h => ⟨h.1, h.2.symm⟩
          (refine Qf ?_)
          rintro _ rfl
          (refine Gf ?_)
          (apply retQ1; (focus rfl))
          exact ⟨rfl, Bel⟩
      · skip
        have hok : okV ⟨0, 0, f, s⟩ = false := by unfold okV; simp [he]
        rw [hok]
        (refine Gf ?_)
        refine W_draws (fun A' => A' = World.drew _) rfl (by kernel_rfl) rfl ?_
        (refine Qf ?_)
        rintro _ rfl
        (refine Gf ?_)
        (apply retQ1; (focus rfl))
        exact ⟨rfl, Bel⟩
    · skip
      have hok : okV ⟨0, n, f, s⟩ = false := by unfold okV; simp [hn]
      rw [hok]
      (refine Gf ?_)
      refine W_draws (fun A' => A' = World.drew _) rfl (by kernel_rfl) rfl ?_
      (refine Qf ?_)
      rintro _ rfl
      (refine Gf ?_)
      (apply retQ1; (focus rfl))
      exact ⟨rfl, Bel⟩
  skip
  by_cases h5 : k = 5
  · subst h5
    by_cases hn : n = 0
    · subst hn
      by_cases he : s = ⟨#[]⟩
      · skip
        by_cases hf : nbits f = 0
        · have hf' : f = 0 := hnf.1 hf
          have hok : okV ⟨5, 0, f, s⟩ = true := by unfold okV; simp [he, hf']
          rw [hok]
          (refine Gf ?_)
          refine W_draws (fun A' => A' = World.drew _) rfl (by kernel_rfl) rfl ?_
          (refine Qf ?_)
          apply Qst_call (.int .u64 (nbits f))
          focus rfl
          focus rfl
          · rintro _ rfl
            exact (c_bitsOf f _).mono fun v w' h => ⟨h.1, h.2.symm⟩
          (refine Qf ?_)
          apply Qst_call (.int .u64 (nbits 0))
          focus rfl
          focus rfl
          · rintro _ rfl
            exact (c_bitsOf 0 _).mono fun v w' h => ⟨h.1, h.2.symm⟩
          (refine Qf ?_)
          rintro _ rfl
          (refine Gf ?_)
          (apply retQ1; (focus rfl))
          exact ⟨rfl, Bel⟩
        · have hf' : ¬ f = 0 := fun e => hf (hnf.2 e)
          have hok : okV ⟨5, 0, f, s⟩ = false := by unfold okV; simp [he, hf']
          rw [hok]
          (refine Gf ?_)
          refine W_draws (fun A' => A' = World.drew _) rfl (by kernel_rfl) rfl ?_
          (refine Qf ?_)
          apply Qst_call (.int .u64 (nbits f))
          focus rfl
          focus rfl
          · rintro _ rfl
            exact (c_bitsOf f _).mono fun v w' h => ⟨h.1, h.2.symm⟩
          (refine Qf ?_)
          apply Qst_call (.int .u64 (nbits 0))
          focus rfl
          focus rfl
          · rintro _ rfl
            exact (c_bitsOf 0 _).mono fun v w' h => ⟨h.1, h.2.symm⟩
          (refine Qf ?_)
          rintro _ rfl
          (refine Gf ?_)
          (apply retQ1; (focus rfl))
          exact ⟨rfl, Bel⟩
      · skip
        have hok : okV ⟨5, 0, f, s⟩ = false := by unfold okV; simp [he]
        rw [hok]
        (refine Gf ?_)
        refine W_draws (fun A' => A' = World.drew _) rfl (by kernel_rfl) rfl ?_
        (refine Qf ?_)
        rintro _ rfl
        (refine Gf ?_)
        (apply retQ1; (focus rfl))
        exact ⟨rfl, Bel⟩
    · skip
      have hok : okV ⟨5, n, f, s⟩ = false := by unfold okV; simp [hn]
      rw [hok]
      (refine Gf ?_)
      refine W_draws (fun A' => A' = World.drew _) rfl (by kernel_rfl) rfl ?_
      (refine Qf ?_)
      rintro _ rfl
      (refine Gf ?_)
      (apply retQ1; (focus rfl))
      exact ⟨rfl, Bel⟩
  skip
  by_cases h1 : k = 1
  · subst h1
    by_cases hn0 : n = 0
    · subst hn0
      by_cases he : s = ⟨#[]⟩
      · skip
        by_cases hf : nbits f = 0
        · have hf' : f = 0 := hnf.1 hf
          have hok : okV ⟨1, 0, f, s⟩ = true := by unfold okV; simp [he, hf']
          rw [hok]
          (refine Gf ?_)
          refine W_draws (fun A' => A' = World.drew _) rfl (by kernel_rfl) rfl ?_
          (refine Qf ?_)
          apply Qst_call (.int .u64 (nbits f))
          focus rfl
          focus rfl
          · rintro _ rfl
            exact (c_bitsOf f _).mono fun v w' h => ⟨h.1, h.2.symm⟩
          (refine Qf ?_)
          apply Qst_call (.int .u64 (nbits 0))
          focus rfl
          focus rfl
          · rintro _ rfl
            exact (c_bitsOf 0 _).mono fun v w' h => ⟨h.1, h.2.symm⟩
          (refine Qf ?_)
          rintro _ rfl
          (refine Gf ?_)
          (apply retQ1; (focus rfl))
          exact ⟨rfl, Bel⟩
        · have hf' : ¬ f = 0 := fun e => hf (hnf.2 e)
          have hok : okV ⟨1, 0, f, s⟩ = false := by unfold okV; simp [he, hf']
          rw [hok]
          (refine Gf ?_)
          refine W_draws (fun A' => A' = World.drew _) rfl (by kernel_rfl) rfl ?_
          (refine Qf ?_)
          apply Qst_call (.int .u64 (nbits f))
          focus rfl
          focus rfl
          · rintro _ rfl
            exact (c_bitsOf f _).mono fun v w' h => ⟨h.1, h.2.symm⟩
          (refine Qf ?_)
          apply Qst_call (.int .u64 (nbits 0))
          focus rfl
          focus rfl
          · rintro _ rfl
            exact (c_bitsOf 0 _).mono fun v w' h => ⟨h.1, h.2.symm⟩
          (refine Qf ?_)
          rintro _ rfl
          (refine Gf ?_)
          (apply retQ1; (focus rfl))
          exact ⟨rfl, Bel⟩
      · skip
        have hok : okV ⟨1, 0, f, s⟩ = false := by unfold okV; simp [he]
        rw [hok]
        (refine Gf ?_)
        refine W_draws (fun A' => A' = World.drew _) rfl (by kernel_rfl) rfl ?_
        (refine Qf ?_)
        rintro _ rfl
        (refine Gf ?_)
        (apply retQ1; (focus rfl))
        exact ⟨rfl, Bel⟩
    by_cases hn1 : n = 1
    · subst hn1
      by_cases he : s = ⟨#[]⟩
      · skip
        by_cases hf : nbits f = 0
        · have hf' : f = 0 := hnf.1 hf
          have hok : okV ⟨1, 1, f, s⟩ = true := by unfold okV; simp [he, hf']
          rw [hok]
          (refine Gf ?_)
          refine W_draws (fun A' => A' = World.drew _) rfl (by kernel_rfl) rfl ?_
          (refine Qf ?_)
          apply Qst_call (.int .u64 (nbits f))
          focus rfl
          focus rfl
          · rintro _ rfl
            exact (c_bitsOf f _).mono fun v w' h => ⟨h.1, h.2.symm⟩
          (refine Qf ?_)
          apply Qst_call (.int .u64 (nbits 0))
          focus rfl
          focus rfl
          · rintro _ rfl
            exact (c_bitsOf 0 _).mono fun v w' h => ⟨h.1, h.2.symm⟩
          (refine Qf ?_)
          rintro _ rfl
          (refine Gf ?_)
          (apply retQ1; (focus rfl))
          exact ⟨rfl, Bel⟩
        · have hf' : ¬ f = 0 := fun e => hf (hnf.2 e)
          have hok : okV ⟨1, 1, f, s⟩ = false := by unfold okV; simp [he, hf']
          rw [hok]
          (refine Gf ?_)
          refine W_draws (fun A' => A' = World.drew _) rfl (by kernel_rfl) rfl ?_
          (refine Qf ?_)
          apply Qst_call (.int .u64 (nbits f))
          focus rfl
          focus rfl
          · rintro _ rfl
            exact (c_bitsOf f _).mono fun v w' h => ⟨h.1, h.2.symm⟩
          (refine Qf ?_)
          apply Qst_call (.int .u64 (nbits 0))
          focus rfl
          focus rfl
          · rintro _ rfl
            exact (c_bitsOf 0 _).mono fun v w' h => ⟨h.1, h.2.symm⟩
          (refine Qf ?_)
          rintro _ rfl
          (refine Gf ?_)
          (apply retQ1; (focus rfl))
          exact ⟨rfl, Bel⟩
      · skip
        have hok : okV ⟨1, 1, f, s⟩ = false := by unfold okV; simp [he]
        rw [hok]
        (refine Gf ?_)
        refine W_draws (fun A' => A' = World.drew _) rfl (by kernel_rfl) rfl ?_
        (refine Qf ?_)
        rintro _ rfl
        (refine Gf ?_)
        (apply retQ1; (focus rfl))
        exact ⟨rfl, Bel⟩
    have hok : okV ⟨1, n, f, s⟩ = false := by unfold okV; simp [hn0, hn1]
    rw [hok]
    (refine Gf ?_)
    (apply retQ1; (focus rfl))
    exact ⟨rfl, Bel⟩
  by_cases h2 : k = 2
  · subst h2
    by_cases he : s = ⟨#[]⟩
    · skip
      by_cases hf : nbits f = 0
      · have hf' : f = 0 := hnf.1 hf
        have hok : okV ⟨2, n, f, s⟩ = true := by unfold okV; simp [he, hf']
        rw [hok]
        (refine Gf ?_)
        refine W_draws (fun A' => A' = World.drew _) rfl (by kernel_rfl) rfl ?_
        (refine Qf ?_)
        apply Qst_call (.int .u64 (nbits f))
        focus rfl
        focus rfl
        · rintro _ rfl
          exact (c_bitsOf f _).mono fun v w' h => ⟨h.1, h.2.symm⟩
        (refine Qf ?_)
        apply Qst_call (.int .u64 (nbits 0))
        focus rfl
        focus rfl
        · rintro _ rfl
          exact (c_bitsOf 0 _).mono fun v w' h => ⟨h.1, h.2.symm⟩
        (refine Qf ?_)
        rintro _ rfl
        (refine Gf ?_)
        (apply retQ1; (focus rfl))
        exact ⟨rfl, Bel⟩
      · have hf' : ¬ f = 0 := fun e => hf (hnf.2 e)
        have hok : okV ⟨2, n, f, s⟩ = false := by unfold okV; simp [he, hf']
        rw [hok]
        (refine Gf ?_)
        refine W_draws (fun A' => A' = World.drew _) rfl (by kernel_rfl) rfl ?_
        (refine Qf ?_)
        apply Qst_call (.int .u64 (nbits f))
        focus rfl
        focus rfl
        · rintro _ rfl
          exact (c_bitsOf f _).mono fun v w' h => ⟨h.1, h.2.symm⟩
        (refine Qf ?_)
        apply Qst_call (.int .u64 (nbits 0))
        focus rfl
        focus rfl
        · rintro _ rfl
          exact (c_bitsOf 0 _).mono fun v w' h => ⟨h.1, h.2.symm⟩
        (refine Qf ?_)
        rintro _ rfl
        (refine Gf ?_)
        (apply retQ1; (focus rfl))
        exact ⟨rfl, Bel⟩
    · skip
      have hok : okV ⟨2, n, f, s⟩ = false := by unfold okV; simp [he]
      rw [hok]
      (refine Gf ?_)
      refine W_draws (fun A' => A' = World.drew _) rfl (by kernel_rfl) rfl ?_
      (refine Qf ?_)
      rintro _ rfl
      (refine Gf ?_)
      (apply retQ1; (focus rfl))
      exact ⟨rfl, Bel⟩
  by_cases h3 : k = 3
  · subst h3
    by_cases hn : n = 0
    · subst hn
      by_cases he : s = ⟨#[]⟩
      · skip
        have hok : okV ⟨3, 0, f, s⟩ = true := by unfold okV; simp [he]
        rw [hok]
        (refine Gf ?_)
        refine W_draws (fun A' => A' = World.drew _) rfl (by kernel_rfl) rfl ?_
        (refine Qf ?_)
        apply Qst_call (.int .u64 (nbits f))
        focus rfl
        focus rfl
        · rintro _ rfl
          exact (c_bitsOf f _).mono fun v w' h => ⟨h.1, h.2.symm⟩
        (refine Qf ?_)
        apply Qst_call (.int .u64 (nbits f))
        focus rfl
        focus rfl
        · rintro _ rfl
          exact (c_bitsOf f _).mono fun v w' h => ⟨h.1, h.2.symm⟩
        (refine Qf ?_)
        rintro _ rfl
        (refine Gf ?_)
        (apply retQ1; (focus rfl))
        exact ⟨rfl, Bel⟩
      · skip
        have hok : okV ⟨3, 0, f, s⟩ = false := by unfold okV; simp [he]
        rw [hok]
        (refine Gf ?_)
        refine W_draws (fun A' => A' = World.drew _) rfl (by kernel_rfl) rfl ?_
        (refine Qf ?_)
        rintro _ rfl
        (refine Gf ?_)
        (apply retQ1; (focus rfl))
        exact ⟨rfl, Bel⟩
    · skip
      have hok : okV ⟨3, n, f, s⟩ = false := by unfold okV; simp [hn]
      rw [hok]
      (refine Gf ?_)
      refine W_draws (fun A' => A' = World.drew _) rfl (by kernel_rfl) rfl ?_
      (refine Qf ?_)
      rintro _ rfl
      (refine Gf ?_)
      (apply retQ1; (focus rfl))
      exact ⟨rfl, Bel⟩
  by_cases h4 : k = 4
  · subst h4
    by_cases hz : s.size ≤ 4096
    · have hval : ∀ A, Below w.heap.size w A → Does Tryz.prog 55 #[.string s] A fun v w' => v = .bool (Lib.validD s.data.toList) ∧ Below A.heap.size A w' := fun A hb => Utf.c_valid s A (hT.below hb) (by omega)
      cases hv : Lib.validD s.data.toList
      · have hok : okV ⟨4, n, f, s⟩ = false := by unfold okV; simp [hv]
        rw [hok]
        (refine Gf ?_)
        (apply Lst_call; (focus rfl); (focus rfl))
        refine (hval _ Bel).mono ?_
        rintro v w1 ⟨rfl, hb1⟩
        have b1 := Sx.Below.after (w := w) Bel hb1
        have s1 := hb1.size
        try simp only [Sx.sizes] at s1
        rw [hv]
        (refine Gf ?_)
        (apply retQ1; (focus rfl))
        exact ⟨rfl, Bel⟩
      · skip
        by_cases hn : n = 0
        · subst hn
          by_cases hf : nbits f = 0
          · have hf' : f = 0 := hnf.1 hf
            have hok : okV ⟨4, 0, f, s⟩ = true := by unfold okV; simp [hf', hz, hv]
            rw [hok]
            (refine Gf ?_)
            (apply Lst_call; (focus rfl); (focus rfl))
            refine (hval _ Bel).mono ?_
            rintro v w1 ⟨rfl, hb1⟩
            have b1 := Sx.Below.after (w := w) Bel hb1
            have s1 := hb1.size
            try simp only [Sx.sizes] at s1
            rw [hv]
            (refine Gf ?_)
            refine W_draws (fun A' => A' = World.drew _) rfl (by kernel_rfl) rfl ?_
            (refine Qf ?_)
            apply Qst_call (.int .u64 (nbits f))
            focus rfl
            focus rfl
            · rintro _ rfl
              exact (c_bitsOf f _).mono fun v w' h => ⟨h.1, h.2.symm⟩
            (refine Qf ?_)
            apply Qst_call (.int .u64 (nbits 0))
            focus rfl
            focus rfl
            · rintro _ rfl
              exact (c_bitsOf 0 _).mono fun v w' h => ⟨h.1, h.2.symm⟩
            (refine Qf ?_)
            rintro _ rfl
            (refine Gf ?_)
            (apply retQ1; (focus rfl))
            exact ⟨rfl, Bel⟩
          · have hf' : ¬ f = 0 := fun e => hf (hnf.2 e)
            have hok : okV ⟨4, 0, f, s⟩ = false := by unfold okV; simp [hf']
            rw [hok]
            (refine Gf ?_)
            (apply Lst_call; (focus rfl); (focus rfl))
            refine (hval _ Bel).mono ?_
            rintro v w1 ⟨rfl, hb1⟩
            have b1 := Sx.Below.after (w := w) Bel hb1
            have s1 := hb1.size
            try simp only [Sx.sizes] at s1
            rw [hv]
            (refine Gf ?_)
            refine W_draws (fun A' => A' = World.drew _) rfl (by kernel_rfl) rfl ?_
            (refine Qf ?_)
            apply Qst_call (.int .u64 (nbits f))
            focus rfl
            focus rfl
            · rintro _ rfl
              exact (c_bitsOf f _).mono fun v w' h => ⟨h.1, h.2.symm⟩
            (refine Qf ?_)
            apply Qst_call (.int .u64 (nbits 0))
            focus rfl
            focus rfl
            · rintro _ rfl
              exact (c_bitsOf 0 _).mono fun v w' h => ⟨h.1, h.2.symm⟩
            (refine Qf ?_)
            rintro _ rfl
            (refine Gf ?_)
            (apply retQ1; (focus rfl))
            exact ⟨rfl, Bel⟩
        · skip
          have hok : okV ⟨4, n, f, s⟩ = false := by unfold okV; simp [hn]
          rw [hok]
          (refine Gf ?_)
          (apply Lst_call; (focus rfl); (focus rfl))
          refine (hval _ Bel).mono ?_
          rintro v w1 ⟨rfl, hb1⟩
          have b1 := Sx.Below.after (w := w) Bel hb1
          have s1 := hb1.size
          try simp only [Sx.sizes] at s1
          rw [hv]
          (refine Gf ?_)
          refine W_draws (fun A' => A' = World.drew _) rfl (by kernel_rfl) rfl ?_
          (refine Qf ?_)
          rintro _ rfl
          (refine Gf ?_)
          (apply retQ1; (focus rfl))
          exact ⟨rfl, Bel⟩
    · have hok : okV ⟨4, n, f, s⟩ = false := by unfold okV; simp [hz]
      rw [hok]
      (refine Gf ?_)
      (apply retQ1; (focus rfl))
      exact ⟨rfl, Bel⟩
  have hok : okV ⟨k, n, f, s⟩ = false := by unfold okV; simp [h0, h1, h2, h3, h4, h5]
  rw [hok]
  (refine Gf ?_)
  (apply retQ1; (focus rfl))
  exact ⟨rfl, Bel⟩
end Val
end Go.Proofs.YtpfhnapjddckfaaGreatDoor
