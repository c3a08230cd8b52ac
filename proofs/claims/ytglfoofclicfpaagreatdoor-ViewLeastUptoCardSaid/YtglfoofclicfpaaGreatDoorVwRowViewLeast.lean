/- The statement of ViewLeast, where its arguments hold together no more than a million values and letters: its row and its tied card, out of the law's walk. -/
import Derived.Test.YtglfoofclicfpaaGreatDoorRows
import Derived.Test.YtglfoofclicfpaaGreatDoorTie
import Derived.Test.YtglfoofclicfpaaGreatDoorCards
import Derived.Test.YtglfoofclicfpaaGreatDoorVwX
import Derived.Test.YtglfoofclicfpaaGreatDoorVwTabs
import Derived.Test.YtglfoofclicfpaaGreatDoorVwRowR
import Derived.Test.YtglfoofclicfpaaGreatDoorSqRow
import Derived.ProofKit
import Derived.OpenShut
import Derived.LaidMore
import Derived.Lay
import Derived.Lib.LaidIn
import Derived.Lib.LaidU8T
import Derived.SizedLaws
import Derived.SevenTiedAt
import Derived.Stop.Joined
import Derived.Deep.DeepHandedRow
namespace Go.Proofs.YtglfoofclicfpaaGreatDoor
set_option maxRecDepth 100000
namespace Vw
open Go Go.RowKit Go.ChangeShapes Go.WideShapes Go.ChangeAt Val
theorem ownViewLeast : ownKnob Tryz.prog.godebug = none := by kernel_rfl
theorem readsViewLeast (os : Os) {H : Type} (enc : TypeId × Value → H) : ∃ places, DataW.whole enc Tryz.prog ((World.laidAll Tryz.prog os Rows.viewLeastUptoRow.laid).forCall (fun _ _ => 0) ⟨#[], #[.slice none 0 0, .slice none 0 0, .int .i64 0, .int .i64 0], []⟩).memory Tryz.f6.params.toList Rows.viewLeastSpec.vars false (#[.slice none 0 0, .slice none 0 0, .int .i64 0, .int .i64 0] : Array Value).toList 8 = some ([.nil, .nil, .lit (.int .i64 0), .lit (.int .i64 0)], [], places) :=
  ⟨[], by kernel_rfl⟩
theorem witnessViewLeast (os : Os) (H : Type) (enc : TypeId × Value → H) : ∃ (w : World) (tape : Tape) (i : Input), w.os = os ∧ (w.forCall tape i).Shaped Tryz.checked.prog ∧ i.vars = [] ∧ Input.okWide Tryz.checked.prog (w.forCall tape i) .any w.heap.size 6 i ∧
    (Rows.OpenSpec.upto Rows.viewLeastSpec).preRow enc Tryz.checked.prog Tryz.f6 Rows.viewLeastUptoRow.domain false Rows.viewLeastUptoRow.laid (w.forCall tape i).memory i.args ∧ (({} : Assume)).holds Tryz.checked.prog (lone (Frame.enter Tryz.checked.prog 6 i.args .normal) [] (w.forCall tape i)) := by
  obtain ⟨places, hx⟩ := readsViewLeast os enc
  have hok : Input.okWideB Tryz.checked.prog ((World.laidAll Tryz.prog os Rows.viewLeastUptoRow.laid).forCall (fun _ _ => 0) ⟨#[], #[.slice none 0 0, .slice none 0 0, .int .i64 0, .int .i64 0], []⟩) 6 ⟨#[], #[.slice none 0 0, .slice none 0 0, .int .i64 0, .int .i64 0], []⟩ = true := by kernel_rfl
  refine ⟨World.laidAll Tryz.prog os Rows.viewLeastUptoRow.laid, fun _ _ => 0, ⟨#[], #[.slice none 0 0, .slice none 0 0, .int .i64 0, .int .i64 0], []⟩, World.laidAll_os _ _ _, World.shaped_of_ZipB (by kernel_rfl) (by kernel_rfl), (Input.okWide_of_okWideB (base := 0) hok).1, (Input.okWide_of_okWideB hok).2,
    OpenSpec.preRow_of_cond 8 hx (by kernel_rfl) (fun k hk => by cases hk; kernel_rfl) (by kernel_rfl) (by rw [MakeChecks.laidMetH_plain _ _ _ (by kernel_rfl)]; exact laidMet_laidAll _ (by kernel_rfl) (by kernel_rfl)), ?_⟩
  simp only [Assume.holds]
  exact ⟨by simp, by simp, fun h => (by cases h), by simp, by simp⟩
theorem liftedViewLeast (os : Os) (started : os.Started) (H : Type) (enc : TypeId × Value → H) (F : Stop.Interp) :
    ReturnsInHanded {} Tryz.checked os 6 .any ((Rows.OpenSpec.upto Rows.viewLeastSpec).preRow enc Tryz.prog Tryz.f6 Rows.viewLeastUptoRow.domain false Rows.viewLeastUptoRow.laid) (((Rows.OpenSpec.upto Rows.viewLeastSpec).at F).post enc Tryz.prog Tryz.f6 false true false false) := by
  refine returnsInHanded_of_row (C := Tryz.checked) (s := Rows.OpenSpec.upto Rows.viewLeastSpec) ownViewLeast started (by kernel_rfl) Tryz.func6 (witnessViewLeast os H enc) ?_
  intro W base args ds gs before hval0 hW _ hcond hz hL _ _
  have hval : ∀ (j : Nat) t v, Tryz.f6.params[j]? = some t → args[j]? = some v → Value.okWide Tryz.prog W .any base t v := hval0
  have hW' := hW
  obtain ⟨p, q, hA0, hV, rfl, _, _⟩ := hW
  have hA : DataW.TrodAll enc Tryz.prog W 0 (fun _ => true) true Tryz.f6.params.toList args.toList ds p := hA0
  have hAll := hA
  rw [Tryz.params6] at hA hval
  obtain ⟨v0, vs0, d0, ds0, p0, q0, hargs, rfl, hp0, h0, r0⟩ := trodAll_cons hA
  obtain ⟨v1, vs1, d1, ds1, p1, q1, rfl, rfl, hp1, h1, r1⟩ := trodAll_cons r0
  obtain ⟨v2, vs2, d2, ds2, p2, q2, rfl, rfl, hp2, h2, r2⟩ := trodAll_cons r1
  obtain ⟨v3, vs3, d3, ds3, p3, q3, rfl, rfl, hp3, h3, r3⟩ := trodAll_cons r2
  obtain ⟨rfl, rfl, _⟩ := trodAll_nil r3
  obtain rfl : args = #[v0, v1, v2, v3] := by cases args; simp_all
  obtain ⟨rfl, rfl⟩ := trodVars_none hV
  have hbulk : Rows.uptoBulkAll [d0, d1, d2, d3] ≤ 1048576 := by
    have := of_decide_eq_true (hcond _ rfl)
    simpa using this
  have hb0 : Rows.uptoBulk d0 ≤ 2000000 := Nat.le_trans (Nat.le_trans (part_le (by simp)) hbulk) (by decide)
  obtain ⟨P0, a0, c0, rfl, i0, l0, s0⟩ := open_runs (hval 0 22 v0 rfl rfl) h0 (fun k hk => by
    have := List.all_eq_true.1 hz k (DataW.weights_mem_each (j := 0) (t := 22) rfl rfl k hk)
    simpa using this) hb0
  have hb1 : Rows.uptoBulk d1 ≤ 2000000 := Nat.le_trans (Nat.le_trans (part_le (by simp)) hbulk) (by decide)
  obtain ⟨P1, a1, c1, rfl, i1, l1, s1⟩ := open_runs (hval 1 22 v1 rfl rfl) h1 (fun k hk => by
    have := List.all_eq_true.1 hz k (DataW.weights_mem_each (j := 1) (t := 22) rfl rfl k hk)
    simpa using this) hb1
  obtain ⟨y2, rfl, rfl, _, w2⟩ := open_int Tryz.underlying3 (hval 2 3 v2 rfl rfl) h2
  have w2 : -9223372036854775808 ≤ y2 ∧ y2 ≤ 9223372036854775807 := by
    have hw := w2
    simp only [Lit.wf, IntKind.min, IntKind.max, IntKind.signed, IntKind.bits] at hw
    simp at hw
    omega
  obtain ⟨y3, rfl, rfl, _, w3⟩ := open_int Tryz.underlying3 (hval 3 3 v3 rfl rfl) h3
  have w3 : -9223372036854775808 ≤ y3 ∧ y3 ≤ 9223372036854775807 := by
    have hw := w3
    simp only [Lit.wf, IntKind.min, IntKind.max, IntKind.signed, IntKind.bits] at hw
    simp at hw
    omega
  clear hA0 hval0
  rw [MakeChecks.laidMetH_plain _ _ _ (by kernel_rfl)] at hL
  have htab : VTabs W := vtabs hL
  simp only [List.append_nil] at hW'
  have hd := law_ViewLeast P0 a0 c0 l0 s0 P1 a1 c1 l1 s1 y2 y3 W htab htab.1 i0 i1
  unfold Sx.Does at hd
  refine hd.2.mono fun e W' ⟨v, he, hv, hb⟩ => ?_
  subst he
  subst hv
  refine ⟨_, rfl, _, _, _, [], p, [], hW', ?_, ?_, ?_, hb.frame _, fun h => by cases h⟩
  · exact trodAll_mk1 (shut_bool Tryz.underlying4 _)
  · exact Sq.args_stay (by kernel_rfl) hb _ _ _ _ (by kernel_rfl) hAll
  · rfl
theorem holdsViewLeast : Rows.ViewLeastUptoSaid :=
  OpenClaim.holds_of_cond 6 Tryz.f6 rfl rfl rfl rfl rfl rfl rfl ⟨rfl, rfl, rfl, rfl, rfl⟩ rfl rfl rfl rfl rfl (by kernel_rfl) Tryz.func6 (by kernel_rfl)
    (of_decide_eq_true (by kernel_rfl)) (by unfold Func.isWrapper; first | (rw [if_pos (by decide +kernel)]; kernel_rfl) | (rw [if_neg (by decide +kernel)]; exact ⟨rfl, rfl⟩))
    (fun os started H enc _ F => by rw [OpenClaim.pre_eq_preRow]; exact liftedViewLeast os started H enc F)
theorem cardViewLeast : Rows.ViewLeastUptoCardSaid :=
  Claim7.holds_tied_plain_at .later [] [.data, .data, .data, .data, .pinned] true (true, "e6ad4869edbd4e064b309b53e6f20c93ff49f43cffd1cdadcf64f5d9de2eafc5") false holdsViewLeast (fun _ h => by cases h) (by kernel_rfl) (fun _ h => by cases h) viewLeastUpto_row_tie rfl ⟨rfl, rfl⟩ (by kernel_rfl) rfl
    (fun f fn hf hfn => by
      obtain rfl : f = 6 := Option.some.inj ((show Tryz.prog.funcNamed Tryz.f6.name = some 6 by kernel_rfl).symm.trans hf) |>.symm
      obtain rfl : fn = Tryz.f6 := (Option.some.inj (Tryz.func6.symm.trans hfn)).symm
      exact ⟨by kernel_rfl, fun j t ht => by
        rw [Tryz.params6] at ht
        have hm : t ∈ [22, 22, 3, 3] := by simpa using Array.mem_of_getElem? ht
        have hall : ([22, 22, 3, 3].all fun u => !Tryz.prog.wantsStandIn u) = true := by kernel_rfl
        exact (show Tryz.prog.wantsStandIn t = false by simpa using List.all_eq_true.1 hall t hm)⟩)
    (by kernel_rfl)
end Vw
end Go.Proofs.YtglfoofclicfpaaGreatDoor
