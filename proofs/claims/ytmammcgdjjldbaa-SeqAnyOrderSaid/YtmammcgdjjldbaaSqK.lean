/- Ids as keys of maps. -/
import Derived.Test.YtmammcgdjjldbaaSxMapG
import Derived.Test.YtmammcgdjjldbaaSxR
import Derived.Test.YtmammcgdjjldbaaSqP
import Derived.Test.YtmammcgdjjldbaaProg
namespace Go.Proofs.Ytmammcgdjjldbaa
set_option maxRecDepth 100000
namespace Sq
open Go Go.RowKit Sx
def idcs (k : Id) : List Value := [.int .u64 (k.1 : Int), .int .u64 (k.2 : Int)]
def idv (k : Id) : Value := .agg (idcs k).toArray
theorem idv_inj {a b : Id} (h : idv a = idv b) : a = b := by
  unfold idv idcs at h
  simp only [Value.agg.injEq] at h
  simp at h
  exact Prod.ext (by omega) (by omega)
theorem id_eq (a b : Id) : Eqv Try.prog 3 32 (idv a) (idv b) (decide (a = b)) := by
  unfold idv idcs
  refine Eqv_struct Try.underlying32 (by kernel_rfl) ?_
  by_cases h1 : a.1 = b.1
  · refine EqvF_t (m := 1) (m' := 1) (by decide) (PartR_1 Try.underlying30 rfl rfl) (PartR_1 Try.underlying30 rfl rfl) (Eqv_int_t Try.underlying30 (by rw [h1])) ?_
    by_cases h2 : a.2 = b.2
    · rw [decide_eq_true (Prod.ext h1 h2)]
      exact EqvF_t (m := 1) (m' := 0) (by decide) (PartR_1 Try.underlying30 rfl rfl) (PartR_1 Try.underlying30 rfl rfl) (Eqv_int_t Try.underlying30 (by rw [h2])) EqvF_nil
    · rw [decide_eq_false (fun e => h2 (congrArg Prod.snd e))]
      exact EqvF_f (by decide) (PartR_1 Try.underlying30 rfl rfl) (PartR_1 Try.underlying30 rfl rfl) (Eqv_int_f Try.underlying30 (by omega))
  · rw [decide_eq_false (fun e => h1 (congrArg Prod.fst e))]
    have h3 : ((a.1 : Nat) : Int) ≠ (b.1 : Int) := by omega
    exact EqvF_f (by decide) (PartR_1 (v := .int .u64 (a.1 : Int)) Try.underlying30 rfl rfl) (PartR_1 (v := .int .u64 (b.1 : Int)) Try.underlying30 rfl rfl) (fun d w hd => Eqv_int_f Try.underlying30 h3 d w (by omega))
theorem idKey : SxG.KeyOk Try.prog 32 idv := by
  refine SxG.KeyOk.of Try.underlying32 idv_inj (fun a b => rfl) (fun a b w => ⟨decide (a = b), id_eq a b 10000 w (by decide), by simp⟩) (fun e k w => ?_) (fun k w => ?_)
  · refine SxG.check_struct (n := 9999) Try.underlying32 fun f hf => ?_
    simp only [List.mem_cons, List.not_mem_nil, or_false] at hf
    rcases hf with rfl | rfl
    · exact ⟨by decide, .int .u64 (k.1 : Int), PartR_1 Try.underlying30 rfl rfl w, MapKept.run_checkKey Try.underlying30 (by exact rfl) e 9998⟩
    · exact ⟨by decide, .int .u64 (k.2 : Int), PartR_1 Try.underlying30 rfl rfl w, MapKept.run_checkKey Try.underlying30 (by exact rfl) e 9998⟩
  · simp [Instr.keyThatStays, Instr.sameBits, idv, idcs]
end Sq
end Go.Proofs.Ytmammcgdjjldbaa
