/- The statement of AwareReads: its row, out of the law's walk. Whatever the arguments: no condition. -/
import Derived.Test.YtoljcnlmockpcaaRows
import Derived.Test.YtoljcnlmockpcaaAwReads
import Derived.Test.YtoljcnlmockpcaaBytesRow
import Derived.ProofKit
import Derived.OpenShut
import Derived.LaidMore
import Derived.Lay
import Derived.SizedLaws
namespace Go.Proofs.Ytoljcnlmockpcaa
set_option maxRecDepth 100000
namespace Aw
open Go Go.RowKit Go.ChangeShapes Go.WideShapes Go.ChangeAt Wire
open Go.ChangeMaps (open_string)
theorem ownAwareReads : ownKnob Try.prog.godebug = none := by kernel_rfl
theorem liftedAwareReads (os : Os) (started : os.Started) (H : Type) (enc : TypeId × Value → H) :
    ReturnsInHanded {} Try.checked os 4 .any (Rows.awareReadsSpec.pre6 enc Try.prog Try.f4 Rows.awareReadsRow.domain false) (Rows.awareReadsSpec.post enc Try.prog Try.f4 false true false false) := by
  refine returnsInHanded_of_change_sized (C := Try.checked) ownAwareReads started (by kernel_rfl) Try.func4
    (ChangeSpec.witness6 (enc := enc) (C := Try.checked) (os := os) false ⟨#[], #[.slice none 0 0, .bool false], []⟩ 8 (by kernel_rfl) (by kernel_rfl) (by kernel_rfl) (by kernel_rfl) (by kernel_rfl)) ?_
  intro W base args ds gs before hval0 hW hc hz _
  have hval : ∀ (j : Nat) t v, Try.f4.params[j]? = some t → args[j]? = some v → Value.okWide Try.prog W .any base t v := hval0
  have hW' := hW
  obtain ⟨p, q, hA0, hV, rfl, _, _⟩ := hW
  have hAll : DataW.TrodAll enc Try.prog W 0 (fun _ => true) true Try.f4.params.toList args.toList ds p := hA0
  have hA := hAll
  rw [Try.params4] at hA hval
  obtain ⟨v0, vs0, d0, ds0, p0, q0, hargs, rfl, hp0, h0, r0⟩ := trodAll_cons hA
  obtain ⟨v1, vs1, d1, ds1, p1, q1, rfl, rfl, hp1, h1, r1⟩ := trodAll_cons r0
  obtain ⟨rfl, rfl, _⟩ := trodAll_nil r1
  obtain rfl : args = #[v0, v1] := by cases args; simp_all
  obtain ⟨rfl, rfl⟩ := trodVars_none hV
  obtain ⟨x0, hi0, hc0, hd0⟩ := open_bytes Try.underlying23 Try.underlying5 (by kernel_rfl) (hval 0 23 v0 rfl rfl) h0
  have z0 : x0.length ≤ 281474976710656 := by
    rcases hd0 with ⟨_, rfl⟩ | ⟨es, sp, rfl, hlen⟩
    · simp
    · have h1 := sized_slice hz (j := 0) (t := 23) (e := 5) (elems := es) (spare := sp) (by kernel_rfl) rfl Try.underlying23
      have h2 := reachBytes_lt
      have h3 : Try.checked.prog.bytesOf 5 = 1 := by kernel_rfl
      rw [h3] at h1
      omega
  obtain ⟨y1, rfl, rfl, _⟩ := open_bool Try.underlying4 (hval 1 4 v1 rfl rfl) h1
  simp only [List.append_nil] at hW'
  have hd := law_AwareReads v0 x0 y1 z0 W hi0 hc0
  unfold Sx.Does at hd
  refine hd.2.mono fun e W' ⟨v, he, hv, hb⟩ => ?_
  subst he
  subst hv
  refine ⟨_, rfl, _, _, _, [], p, [], hW', ?_, ?_, ?_, hb.frame _, fun h => by cases h⟩
  · exact trodAll_mk1 (shut_bool Try.underlying4 _)
  · exact args_stay (by kernel_rfl) hb _ _ _ _ (by kernel_rfl) hAll
  · rfl
theorem holdsAwareReads : Rows.AwareReadsSaid :=
  OpenClaim.holds_of_wide 4 Try.f4 rfl rfl rfl rfl rfl rfl rfl ⟨rfl, rfl, rfl, rfl, rfl⟩ rfl rfl rfl rfl rfl (by kernel_rfl) Try.func4 (by kernel_rfl)
    (of_decide_eq_true (by kernel_rfl)) (by unfold Func.isWrapper; first | (rw [if_pos (by decide +kernel)]; kernel_rfl) | (rw [if_neg (by decide +kernel)]; exact ⟨rfl, rfl⟩))
    (fun os started H enc _ => liftedAwareReads os started H enc)
end Aw
end Go.Proofs.Ytoljcnlmockpcaa
