/- The statement of MarksShow: its row, out of the law's walk. Whatever the arguments: no condition. -/
import Derived.Test.YtmgipnckojopcaaGreatRows
import Derived.Test.YtmgipnckojopcaaGreatPaMkShow
import Derived.Test.YtmgipnckojopcaaGreatPaJSqRunsPToSqAnP
import Derived.Test.YtmgipnckojopcaaGreatPaMkRowO

import Derived.Test.YtmgipnckojopcaaGreatPaMkRowL
import Derived.ProofKit
import Derived.OpenShut
import Derived.LaidMore
import Derived.Lay
import Derived.SizedLaws
namespace Go.Proofs.YtmgipnckojopcaaGreat
set_option maxRecDepth 100000
namespace Mk
open Go Go.RowKit Go.ChangeShapes Go.WideShapes Go.ChangeAt Sq
open Go.ChangeMaps (open_string)
theorem ownMarksShow : ownKnob Tryz.prog.godebug = none := by kernel_rfl
theorem liftedMarksShow (os : Os) (started : os.Started) (H : Type) (enc : TypeId × Value → H) :
    ReturnsInHanded {} Tryz.checked os 3 .any (Rows.marksShowSpec.pre6 enc Tryz.prog Tryz.f3 Rows.marksShowRow.domain false) (Rows.marksShowSpec.post enc Tryz.prog Tryz.f3 false true false false) := by
  refine returnsInHanded_of_change_sized (C := Tryz.checked) ownMarksShow started (by kernel_rfl) Tryz.func3
    (ChangeSpec.witness6 (enc := enc) (C := Tryz.checked) (os := os) false ⟨#[], #[.int .i64 0, .slice none 0 0], []⟩ 8 (by kernel_rfl) (by kernel_rfl) (by kernel_rfl) (by kernel_rfl) (by kernel_rfl)) ?_
  intro W base args ds gs before hval0 hW hc hz _
  have hval : ∀ (j : Nat) t v, Tryz.f3.params[j]? = some t → args[j]? = some v → Value.okWide Tryz.prog W .any base t v := hval0
  have hW' := hW
  obtain ⟨p, q, hA0, hV, rfl, _, _⟩ := hW
  have hAll : DataW.TrodAll enc Tryz.prog W 0 (fun _ => true) true Tryz.f3.params.toList args.toList ds p := hA0
  have hA := hAll
  rw [Tryz.params3] at hA hval
  obtain ⟨v0, vs0, d0, ds0, p0, q0, hargs, rfl, hp0, h0, r0⟩ := trodAll_cons hA
  obtain ⟨v1, vs1, d1, ds1, p1, q1, rfl, rfl, hp1, h1, r1⟩ := trodAll_cons r0
  obtain ⟨rfl, rfl, _⟩ := trodAll_nil r1
  obtain rfl : args = #[v0, v1] := by cases args; simp_all
  obtain ⟨rfl, rfl⟩ := trodVars_none hV
  obtain ⟨y0, rfl, rfl, _, w0⟩ := open_int Tryz.underlying3 (hval 0 3 v0 rfl rfl) h0
  have w0 : -9223372036854775808 ≤ y0 ∧ y0 < 9223372036854775808 := by
    have hw := w0
    simp only [Lit.wf, IntKind.min, IntKind.max, IntKind.signed, IntKind.bits] at hw
    simp at hw
    omega
  obtain ⟨l1, a1, c1, rfl, hi1, b1, lc1, ln1⟩ := open_ops (hval 1 22 v1 rfl rfl) h1 fun k hk => by
    have := List.all_eq_true.1 hz k (DataW.weights_mem_each (j := 1) (t := 22) rfl rfl k hk)
    simpa using this
  simp only [List.append_nil] at hW'
  have hd := law_MarksShow y0 l1 a1 c1 ln1 (fun o ho => (b1 o ho).1) W hi1
  unfold Sx.Does at hd
  refine hd.2.mono fun e W' ⟨v, he, hv, hb⟩ => ?_
  subst he
  subst hv
  refine ⟨_, rfl, _, _, _, [], p, [], hW', ?_, ?_, ?_, hb.frame _, fun h => by cases h⟩
  · exact trodAll_mk1 (shut_bool Tryz.underlying4 _)
  · exact args_stay (by kernel_rfl) hb _ _ _ _ (by kernel_rfl) hAll
  · rfl
theorem holdsMarksShow : Rows.MarksShowSaid :=
  OpenClaim.holds_of_wide 3 Tryz.f3 rfl rfl rfl rfl rfl rfl rfl ⟨rfl, rfl, rfl, rfl, rfl⟩ rfl rfl rfl rfl rfl (by kernel_rfl) Tryz.func3 (by kernel_rfl)
    (of_decide_eq_true (by kernel_rfl)) (by unfold Func.isWrapper; first | (rw [if_pos (by decide +kernel)]; kernel_rfl) | (rw [if_neg (by decide +kernel)]; exact ⟨rfl, rfl⟩))
    (fun os started H enc _ => liftedMarksShow os started H enc)
end Mk
end Go.Proofs.YtmgipnckojopcaaGreat
