/- The statement of AwarePlays: its row, out of the law's walk. Whatever the arguments: no condition. -/
import Derived.Test.YtoljcnlmockpcaaRows
import Derived.Test.YtoljcnlmockpcaaAwPlays
import Derived.Test.YtoljcnlmockpcaaBytesRow
import Derived.Test.YtoljcnlmockpcaaAwRowSteps
import Derived.ProofKit
import Derived.OpenShut
import Derived.LaidMore
import Derived.Lay
import Derived.SizedLaws
namespace Go.Proofs.Ytoljcnlmockpcaa
set_option maxRecDepth 100000
namespace Aw
open Go Go.RowKit Go.ChangeShapes Go.WideShapes Go.ChangeAt Wire
open Go.ChangeMaps (open_string)
theorem ownAwarePlays : ownKnob Try.prog.godebug = none := by kernel_rfl
theorem liftedAwarePlays (os : Os) (started : os.Started) (H : Type) (enc : TypeId × Value → H) :
    ReturnsInHanded {} Try.checked os 7 .any (Rows.awarePlaysSpec.pre6 enc Try.prog Try.f7 Rows.awarePlaysRow.domain false) (Rows.awarePlaysSpec.post enc Try.prog Try.f7 false true false false) := by
  refine returnsInHanded_of_change_sized (C := Try.checked) ownAwarePlays started (by kernel_rfl) Try.func7
    (ChangeSpec.witness6 (enc := enc) (C := Try.checked) (os := os) false ⟨#[], #[.int .u64 0, .slice none 0 0], []⟩ 8 (by kernel_rfl) (by kernel_rfl) (by kernel_rfl) (by kernel_rfl) (by kernel_rfl)) ?_
  intro W base args ds gs before hval0 hW hc hz _
  have hval : ∀ (j : Nat) t v, Try.f7.params[j]? = some t → args[j]? = some v → Value.okWide Try.prog W .any base t v := hval0
  have hW' := hW
  obtain ⟨p, q, hA0, hV, rfl, _, _⟩ := hW
  have hAll : DataW.TrodAll enc Try.prog W 0 (fun _ => true) true Try.f7.params.toList args.toList ds p := hA0
  have hA := hAll
  rw [Try.params7] at hA hval
  obtain ⟨v0, vs0, d0, ds0, p0, q0, hargs, rfl, hp0, h0, r0⟩ := trodAll_cons hA
  obtain ⟨v1, vs1, d1, ds1, p1, q1, rfl, rfl, hp1, h1, r1⟩ := trodAll_cons r0
  obtain ⟨rfl, rfl, _⟩ := trodAll_nil r1
  obtain rfl : args = #[v0, v1] := by cases args; simp_all
  obtain ⟨rfl, rfl⟩ := trodVars_none hV
  obtain ⟨y0, rfl, rfl, _, w0⟩ := open_int Try.underlying27 (hval 0 27 v0 rfl rfl) h0
  have w0 : 0 ≤ y0 ∧ y0 < 18446744073709551616 := by
    have hw := w0
    simp only [Lit.wf, IntKind.min, IntKind.max, IntKind.signed, IntKind.bits] at hw
    simp at hw
    omega
  obtain ⟨l1, hs1, z1⟩ := open_steps (hval 1 55 v1 rfl rfl) h1 fun k hk => by
    have := List.all_eq_true.1 hz k (DataW.weights_mem_each (j := 1) (t := 55) rfl rfl k hk)
    simpa using this
  simp only [List.append_nil] at hW'
  have hd := law_AwarePlays y0 v1 l1 z1 W hs1
  unfold Sx.Does at hd
  refine hd.2.mono fun e W' ⟨v, he, hv, hb⟩ => ?_
  subst he
  subst hv
  refine ⟨_, rfl, _, _, _, [], p, [], hW', ?_, ?_, ?_, hb.frame _, fun h => by cases h⟩
  · exact trodAll_mk1 (shut_bool Try.underlying4 _)
  · exact args_stay (by kernel_rfl) hb _ _ _ _ (by kernel_rfl) hAll
  · rfl
theorem holdsAwarePlays : Rows.AwarePlaysSaid :=
  OpenClaim.holds_of_wide 7 Try.f7 rfl rfl rfl rfl rfl rfl rfl ⟨rfl, rfl, rfl, rfl, rfl⟩ rfl rfl rfl rfl rfl (by kernel_rfl) Try.func7 (by kernel_rfl)
    (of_decide_eq_true (by kernel_rfl)) (by unfold Func.isWrapper; first | (rw [if_pos (by decide +kernel)]; kernel_rfl) | (rw [if_neg (by decide +kernel)]; exact ⟨rfl, rfl⟩))
    (fun os started H enc _ => liftedAwarePlays os started H enc)
end Aw
end Go.Proofs.Ytoljcnlmockpcaa
