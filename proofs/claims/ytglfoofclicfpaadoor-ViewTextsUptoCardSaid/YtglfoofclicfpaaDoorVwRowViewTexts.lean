/- The statement of ViewTexts, where its arguments hold together no more than a million values and letters: its row and its tied card, out of the law's walk. -/
import Derived.Test.YtglfoofclicfpaaDoorRows
import Derived.Test.YtglfoofclicfpaaDoorTie
import Derived.Test.YtglfoofclicfpaaDoorCards
import Derived.Test.YtglfoofclicfpaaDoorVwY
import Derived.Test.YtglfoofclicfpaaDoorVwTabs
import Derived.Test.YtglfoofclicfpaaDoorVwRowE
import Derived.Test.YtglfoofclicfpaaDoorSqRow
import Derived.ProofKit
import Derived.OpenShut
import Derived.LaidMore
import Derived.Lay
import Derived.Lib.LaidIn
import Derived.Lib.LaidU8T
import Derived.SizedLaws
import Derived.SevenTiedAt
import Derived.Stop.Joined
import Derived.Deep.DeepHandedRow
namespace Go.Proofs.YtglfoofclicfpaaDoor
set_option maxRecDepth 100000
namespace Vw
open Go Go.RowKit Go.ChangeShapes Go.WideShapes Go.ChangeAt Val
theorem ownViewTexts : ownKnob Tryd.prog.godebug = none := by kernel_rfl
theorem readsViewTexts (os : Os) {H : Type} (enc : TypeId × Value → H) : ∃ places, DataW.whole enc Tryd.prog ((World.laidAll Tryd.prog os Rows.viewTextsUptoRow.laid).forCall (fun _ _ => 0) ⟨#[], #[.agg #[.slice none 0 0, .slice none 0 0], .agg #[.slice none 0 0, .slice none 0 0]], []⟩).memory Tryd.f3.params.toList Rows.viewTextsSpec.vars false (#[.agg #[.slice none 0 0, .slice none 0 0], .agg #[.slice none 0 0, .slice none 0 0]] : Array Value).toList 8 = some ([.agg [.nil, .nil], .agg [.nil, .nil]], [], places) :=
  ⟨[], by kernel_rfl⟩
theorem witnessViewTexts (os : Os) (H : Type) (enc : TypeId × Value → H) : ∃ (w : World) (tape : Tape) (i : Input), w.os = os ∧ (w.forCall tape i).Shaped Tryd.checked.prog ∧ i.vars = [] ∧ Input.okWide Tryd.checked.prog (w.forCall tape i) .any w.heap.size 3 i ∧
    (Rows.OpenSpec.upto Rows.viewTextsSpec).preRow enc Tryd.checked.prog Tryd.f3 Rows.viewTextsUptoRow.domain false Rows.viewTextsUptoRow.laid (w.forCall tape i).memory i.args ∧ (({} : Assume)).holds Tryd.checked.prog (lone (Frame.enter Tryd.checked.prog 3 i.args .normal) [] (w.forCall tape i)) := by
  obtain ⟨places, hx⟩ := readsViewTexts os enc
  have hok : Input.okWideB Tryd.checked.prog ((World.laidAll Tryd.prog os Rows.viewTextsUptoRow.laid).forCall (fun _ _ => 0) ⟨#[], #[.agg #[.slice none 0 0, .slice none 0 0], .agg #[.slice none 0 0, .slice none 0 0]], []⟩) 3 ⟨#[], #[.agg #[.slice none 0 0, .slice none 0 0], .agg #[.slice none 0 0, .slice none 0 0]], []⟩ = true := by kernel_rfl
  refine ⟨World.laidAll Tryd.prog os Rows.viewTextsUptoRow.laid, fun _ _ => 0, ⟨#[], #[.agg #[.slice none 0 0, .slice none 0 0], .agg #[.slice none 0 0, .slice none 0 0]], []⟩, World.laidAll_os _ _ _, World.shaped_of_ZipB (by kernel_rfl) (by kernel_rfl), (Input.okWide_of_okWideB (base := 0) hok).1, (Input.okWide_of_okWideB hok).2,
    OpenSpec.preRow_of_cond 8 hx (by kernel_rfl) (fun k hk => by cases hk; kernel_rfl) (by kernel_rfl) (by rw [MakeChecks.laidMetH_plain _ _ _ (by kernel_rfl)]; exact laidMet_laidAll _ (by kernel_rfl) (by kernel_rfl)), ?_⟩
  simp only [Assume.holds]
  exact ⟨by simp, by simp, fun h => (by cases h), by simp, by simp⟩
theorem liftedViewTexts (os : Os) (started : os.Started) (H : Type) (enc : TypeId × Value → H) (F : Stop.Interp) :
    ReturnsInHanded {} Tryd.checked os 3 .any ((Rows.OpenSpec.upto Rows.viewTextsSpec).preRow enc Tryd.prog Tryd.f3 Rows.viewTextsUptoRow.domain false Rows.viewTextsUptoRow.laid) (((Rows.OpenSpec.upto Rows.viewTextsSpec).at F).post enc Tryd.prog Tryd.f3 false true false false) := by
  refine returnsInHanded_of_row (C := Tryd.checked) (s := Rows.OpenSpec.upto Rows.viewTextsSpec) ownViewTexts started (by kernel_rfl) Tryd.func3 (witnessViewTexts os H enc) ?_
  intro W base args ds gs before hval0 hW _ hcond hz hL _ _
  have hval : ∀ (j : Nat) t v, Tryd.f3.params[j]? = some t → args[j]? = some v → Value.okWide Tryd.prog W .any base t v := hval0
  have hW' := hW
  obtain ⟨p, q, hA0, hV, rfl, _, _⟩ := hW
  have hA : DataW.TrodAll enc Tryd.prog W 0 (fun _ => true) true Tryd.f3.params.toList args.toList ds p := hA0
  have hAll := hA
  rw [Tryd.params3] at hA hval
  obtain ⟨v0, vs0, d0, ds0, p0, q0, hargs, rfl, hp0, h0, r0⟩ := trodAll_cons hA
  obtain ⟨v1, vs1, d1, ds1, p1, q1, rfl, rfl, hp1, h1, r1⟩ := trodAll_cons r0
  obtain ⟨rfl, rfl, _⟩ := trodAll_nil r1
  obtain rfl : args = #[v0, v1] := by cases args; simp_all
  obtain ⟨rfl, rfl⟩ := trodVars_none hV
  have hbulk : Rows.uptoBulkAll [d0, d1] ≤ 1048576 := by
    have := of_decide_eq_true (hcond _ rfl)
    simpa using this
  have hb0 : Rows.uptoBulk d0 ≤ 2000000 := Nat.le_trans (Nat.le_trans (part_le (by simp)) hbulk) (by decide)
  obtain ⟨P0, f0, a0, c0, b0, e0, rfl, i0, l0, s0, g0, t0, k0⟩ := open_view (hval 0 25 v0 rfl rfl) h0 (fun k hk => by
    have := List.all_eq_true.1 hz k (DataW.weights_mem_each (j := 0) (t := 25) rfl rfl k hk)
    simpa using this) hb0
  have hb1 : Rows.uptoBulk d1 ≤ 2000000 := Nat.le_trans (Nat.le_trans (part_le (by simp)) hbulk) (by decide)
  obtain ⟨P1, f1, a1, c1, b1, e1, rfl, i1, l1, s1, g1, t1, k1⟩ := open_view (hval 1 25 v1 rfl rfl) h1 (fun k hk => by
    have := List.all_eq_true.1 hz k (DataW.weights_mem_each (j := 1) (t := 25) rfl rfl k hk)
    simpa using this) hb1
  clear hA0 hval0
  rw [MakeChecks.laidMetH_plain _ _ _ (by kernel_rfl)] at hL
  have htab : VTabs W := vtabs hL
  simp only [List.append_nil] at hW'
  have hd := law_ViewTexts P0 f0 a0 b0 c0 e0 l0 s0 t0 k0 P1 f1 a1 b1 c1 e1 l1 s1 t1 k1 W htab htab.1 i0 g0 i1 g1
  unfold Sx.Does at hd
  refine hd.2.mono fun e W' ⟨v, he, hv, hb⟩ => ?_
  subst he
  subst hv
  refine ⟨_, rfl, _, _, _, [], p, [], hW', ?_, ?_, ?_, hb.frame _, fun h => by cases h⟩
  · exact trodAll_mk1 (shut_bool Tryd.underlying4 _)
  · exact Sq.args_stay (by kernel_rfl) hb _ _ _ _ (by kernel_rfl) hAll
  · rfl
theorem holdsViewTexts : Rows.ViewTextsUptoSaid :=
  OpenClaim.holds_of_cond 3 Tryd.f3 rfl rfl rfl rfl rfl rfl rfl ⟨rfl, rfl, rfl, rfl, rfl⟩ rfl rfl rfl rfl rfl (by kernel_rfl) Tryd.func3 (by kernel_rfl)
    (of_decide_eq_true (by kernel_rfl)) (by unfold Func.isWrapper; first | (rw [if_pos (by decide +kernel)]; kernel_rfl) | (rw [if_neg (by decide +kernel)]; exact ⟨rfl, rfl⟩))
    (fun os started H enc _ F => by rw [OpenClaim.pre_eq_preRow]; exact liftedViewTexts os started H enc F)
theorem cardViewTexts : Rows.ViewTextsUptoCardSaid :=
  Claim7.holds_tied_plain_at .later [] [.data, .data, .data, .data, .pinned] true (true, "49034fe6a0313e560942c51c2237fba99b7c7549a8df163aedceb07c9ef80ea9") false holdsViewTexts (fun _ h => by cases h) (by kernel_rfl) (fun _ h => by cases h) viewTextsUpto_row_tie rfl ⟨rfl, rfl⟩ (by kernel_rfl) rfl
    (fun f fn hf hfn => by
      obtain rfl : f = 3 := Option.some.inj ((show Tryd.prog.funcNamed Tryd.f3.name = some 3 by kernel_rfl).symm.trans hf) |>.symm
      obtain rfl : fn = Tryd.f3 := (Option.some.inj (Tryd.func3.symm.trans hfn)).symm
      exact ⟨by kernel_rfl, fun j t ht => by
        rw [Tryd.params3] at ht
        have hm : t ∈ [25, 25] := by simpa using Array.mem_of_getElem? ht
        have hall : ([25, 25].all fun u => !Tryd.prog.wantsStandIn u) = true := by kernel_rfl
        exact (show Tryd.prog.wantsStandIn t = false by simpa using List.all_eq_true.1 hall t hm)⟩)
    (by kernel_rfl)
end Vw
end Go.Proofs.YtglfoofclicfpaaDoor
