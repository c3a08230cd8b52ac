/- The statement of DiskRenames: its row, out of the law's walk. Whatever the arguments: no condition. -/
import Derived.Test.YtgcklcpbmlibdaaRows
import Derived.Test.YtgcklcpbmlibdaaDkRen
import Derived.Test.YtgcklcpbmlibdaaDkRow
import Derived.ProofKit
import Derived.OpenShut
import Derived.LaidMore
import Derived.Lay
import Derived.SizedLaws
namespace Go.Proofs.Ytgcklcpbmlibdaa
set_option maxRecDepth 100000
namespace Dk
open Go Go.RowKit Go.ChangeShapes Go.WideShapes Go.ChangeAt
theorem ownDiskRenames : ownKnob Try.prog.godebug = none := by kernel_rfl
theorem liftedDiskRenames (os : Os) (started : os.Started) (H : Type) (enc : TypeId × Value → H) :
    ReturnsInHanded {} Try.checked os 3 .any (Rows.diskRenamesSpec.pre6 enc Try.prog Try.f3 Rows.diskRenamesRow.domain false) (Rows.diskRenamesSpec.post enc Try.prog Try.f3 false true false false) := by
  refine returnsInHanded_of_change_sized (C := Try.checked) ownDiskRenames started (by kernel_rfl) Try.func3
    (ChangeSpec.witness6 (enc := enc) (C := Try.checked) (os := os) false ⟨#[], #[.slice none 0 0, .slice none 0 0, .slice none 0 0, .int .i64 0], []⟩ 8 (by kernel_rfl) (by kernel_rfl) (by kernel_rfl) (by kernel_rfl) (by kernel_rfl)) ?_
  intro W base args ds gs before hval0 hW hc hz _
  have hval : ∀ (j : Nat) t v, Try.f3.params[j]? = some t → args[j]? = some v → Value.okWide Try.prog W .any base t v := hval0
  have hW' := hW
  obtain ⟨p, q, hA0, hV, rfl, _, _⟩ := hW
  have hAll : DataW.TrodAll enc Try.prog W 0 (fun _ => true) true Try.f3.params.toList args.toList ds p := hA0
  have hA := hAll
  rw [Try.params3] at hA hval
  obtain ⟨v0, vs0, d0, ds0, p0, q0, hargs, rfl, hp0, h0, r0⟩ := trodAll_cons hA
  obtain ⟨v1, vs1, d1, ds1, p1, q1, rfl, rfl, hp1, h1, r1⟩ := trodAll_cons r0
  obtain ⟨v2, vs2, d2, ds2, p2, q2, rfl, rfl, hp2, h2, r2⟩ := trodAll_cons r1
  obtain ⟨v3, vs3, d3, ds3, p3, q3, rfl, rfl, hp3, h3, r3⟩ := trodAll_cons r2
  obtain ⟨rfl, rfl, _⟩ := trodAll_nil r3
  obtain rfl : args = #[v0, v1, v2, v3] := by cases args; simp_all
  obtain ⟨rfl, rfl⟩ := trodVars_none hV
  obtain ⟨x0, hi0, hc0, hd0⟩ := open_bytes Try.underlying22 Try.underlying5 (by kernel_rfl) (hval 0 22 v0 rfl rfl) h0
  have z0 : x0.length ≤ 281474976710656 := by
    rcases hd0 with ⟨_, rfl⟩ | ⟨es, sp, rfl, hlen⟩
    · simp
    · have h1 := sized_slice hz (j := 0) (t := 22) (e := 5) (elems := es) (spare := sp) (by kernel_rfl) rfl Try.underlying22
      have h2 := reachBytes_lt
      have h3 : Try.checked.prog.bytesOf 5 = 1 := by kernel_rfl
      rw [h3] at h1
      omega
  obtain ⟨x1, hi1, hc1, hd1⟩ := open_bytes Try.underlying22 Try.underlying5 (by kernel_rfl) (hval 1 22 v1 rfl rfl) h1
  have z1 : x1.length ≤ 281474976710656 := by
    rcases hd1 with ⟨_, rfl⟩ | ⟨es, sp, rfl, hlen⟩
    · simp
    · have h1 := sized_slice hz (j := 1) (t := 22) (e := 5) (elems := es) (spare := sp) (by kernel_rfl) rfl Try.underlying22
      have h2 := reachBytes_lt
      have h3 : Try.checked.prog.bytesOf 5 = 1 := by kernel_rfl
      rw [h3] at h1
      omega
  obtain ⟨x2, hi2, hc2, hd2⟩ := open_bytes Try.underlying22 Try.underlying5 (by kernel_rfl) (hval 2 22 v2 rfl rfl) h2
  have z2 : x2.length ≤ 281474976710656 := by
    rcases hd2 with ⟨_, rfl⟩ | ⟨es, sp, rfl, hlen⟩
    · simp
    · have h1 := sized_slice hz (j := 2) (t := 22) (e := 5) (elems := es) (spare := sp) (by kernel_rfl) rfl Try.underlying22
      have h2 := reachBytes_lt
      have h3 : Try.checked.prog.bytesOf 5 = 1 := by kernel_rfl
      rw [h3] at h1
      omega
  obtain ⟨y3, rfl, rfl, _, w3⟩ := open_int Try.underlying3 (hval 3 3 v3 rfl rfl) h3
  have w3 : -9223372036854775808 ≤ y3 ∧ y3 < 9223372036854775808 := by
    have hw := w3
    simp only [Lit.wf, IntKind.min, IntKind.max, IntKind.signed, IntKind.bits] at hw
    simp at hw
    omega
  simp only [List.append_nil] at hW'
  have hd := law_DiskRenames v0 v1 v2 x0 x1 x2 y3 W hi0 hi1 hi2 hc1 z0 z1 z2
  unfold Sx.Does at hd
  refine hd.2.mono fun e W' ⟨v, he, hv, hb⟩ => ?_
  subst he
  subst hv
  refine ⟨_, rfl, _, _, _, [], p, [], hW', ?_, ?_, ?_, hb.frame _, fun h => by cases h⟩
  · exact trodAll_mk1 (shut_bool Try.underlying4 _)
  · exact args_stay (by kernel_rfl) hb _ _ _ _ (by kernel_rfl) hAll
  · rfl
theorem holdsDiskRenames : Rows.DiskRenamesSaid :=
  OpenClaim.holds_of_wide 3 Try.f3 rfl rfl rfl rfl rfl rfl rfl ⟨rfl, rfl, rfl, rfl, rfl⟩ rfl rfl rfl rfl rfl (by kernel_rfl) Try.func3 (by kernel_rfl)
    (of_decide_eq_true (by kernel_rfl)) (by unfold Func.isWrapper; first | (rw [if_pos (by decide +kernel)]; kernel_rfl) | (rw [if_neg (by decide +kernel)]; exact ⟨rfl, rfl⟩))
    (fun os started H enc _ => liftedDiskRenames os started H enc)
end Dk
end Go.Proofs.Ytgcklcpbmlibdaa
