/- The statement of MarksEnds: its row, out of the law's walk. Whatever the arguments: no condition. -/
import Derived.Test.YtmgipnckojopcaaRows
import Derived.Test.YtmgipnckojopcaaMkEnds
import Derived.Test.YtmgipnckojopcaaJSqRunsPToSqAnP
import Derived.Test.YtmgipnckojopcaaMkRowO

import Derived.ProofKit
import Derived.OpenShut
import Derived.LaidMore
import Derived.Lay
import Derived.SizedLaws
namespace Go.Proofs.Ytmgipnckojopcaa
set_option maxRecDepth 100000
namespace Mk
open Go Go.RowKit Go.ChangeShapes Go.WideShapes Go.ChangeAt Sq
open Go.ChangeMaps (open_string)
theorem ownMarksEnds : ownKnob Try.prog.godebug = none := by kernel_rfl
theorem liftedMarksEnds (os : Os) (started : os.Started) (H : Type) (enc : TypeId × Value → H) :
    ReturnsInHanded {} Try.checked os 6 .any (Rows.marksEndsSpec.pre6 enc Try.prog Try.f6 Rows.marksEndsRow.domain false) (Rows.marksEndsSpec.post enc Try.prog Try.f6 false true false false) := by
  refine returnsInHanded_of_change_sized (C := Try.checked) ownMarksEnds started (by kernel_rfl) Try.func6
    (ChangeSpec.witness6 (enc := enc) (C := Try.checked) (os := os) false ⟨#[], #[.slice none 0 0, .int .i64 0], []⟩ 8 (by kernel_rfl) (by kernel_rfl) (by kernel_rfl) (by kernel_rfl) (by kernel_rfl)) ?_
  intro W base args ds gs before hval0 hW hc hz _
  have hval : ∀ (j : Nat) t v, Try.f6.params[j]? = some t → args[j]? = some v → Value.okWide Try.prog W .any base t v := hval0
  have hW' := hW
  obtain ⟨p, q, hA0, hV, rfl, _, _⟩ := hW
  have hAll : DataW.TrodAll enc Try.prog W 0 (fun _ => true) true Try.f6.params.toList args.toList ds p := hA0
  have hA := hAll
  rw [Try.params6] at hA hval
  obtain ⟨v0, vs0, d0, ds0, p0, q0, hargs, rfl, hp0, h0, r0⟩ := trodAll_cons hA
  obtain ⟨v1, vs1, d1, ds1, p1, q1, rfl, rfl, hp1, h1, r1⟩ := trodAll_cons r0
  obtain ⟨rfl, rfl, _⟩ := trodAll_nil r1
  obtain rfl : args = #[v0, v1] := by cases args; simp_all
  obtain ⟨rfl, rfl⟩ := trodVars_none hV
  obtain ⟨x0, a0, c0, rfl, hi0, b0⟩ := open_u16 Try.underlying60 Try.underlying61 (by kernel_rfl) (hval 0 60 v0 rfl rfl) h0
  obtain ⟨y1, rfl, rfl, _, w1⟩ := open_int Try.underlying2 (hval 1 2 v1 rfl rfl) h1
  have w1 : -9223372036854775808 ≤ y1 ∧ y1 < 9223372036854775808 := by
    have hw := w1
    simp only [Lit.wf, IntKind.min, IntKind.max, IntKind.signed, IntKind.bits] at hw
    simp at hw
    omega
  simp only [List.append_nil] at hW'
  have hd := law_MarksEnds x0 a0 c0 b0 y1 w1 W hi0
  unfold Sx.Does at hd
  refine hd.2.mono fun e W' ⟨v, he, hv, hb⟩ => ?_
  subst he
  subst hv
  refine ⟨_, rfl, _, _, _, [], p, [], hW', ?_, ?_, ?_, hb.frame _, fun h => by cases h⟩
  · exact trodAll_mk1 (shut_bool Try.underlying4 _)
  · exact args_stay (by kernel_rfl) hb _ _ _ _ (by kernel_rfl) hAll
  · rfl
theorem holdsMarksEnds : Rows.MarksEndsSaid :=
  OpenClaim.holds_of_wide 6 Try.f6 rfl rfl rfl rfl rfl rfl rfl ⟨rfl, rfl, rfl, rfl, rfl⟩ rfl rfl rfl rfl rfl (by kernel_rfl) Try.func6 (by kernel_rfl)
    (of_decide_eq_true (by kernel_rfl)) (by unfold Func.isWrapper; first | (rw [if_pos (by decide +kernel)]; kernel_rfl) | (rw [if_neg (by decide +kernel)]; exact ⟨rfl, rfl⟩))
    (fun os started H enc _ => liftedMarksEnds os started H enc)
end Mk
end Go.Proofs.Ytmgipnckojopcaa
