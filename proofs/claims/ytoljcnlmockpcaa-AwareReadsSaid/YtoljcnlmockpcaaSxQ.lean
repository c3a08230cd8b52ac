/- Further rules of our calculus for drawn regions: structs read whole. Over any program. -/
import Derived.Test.YtoljcnlmockpcaaSxArr
namespace Go.Proofs.Ytoljcnlmockpcaa
namespace Sx
open Go Go.RowKit
section q
variable {P : Program} {n : Nat} {ops : Array Oper} {C : World → Prop} {K : Fr → Prop} {rest : List Oper} {F : Fr} {ds : List Deferred} {ty : TypeId} {pos : String} {after : Array Edge}
theorem Qst_loadA {d b off sz : Nat} {x : Operand} {t e : TypeId} {u : TypeDesc} {i : TypeInfo} {l cs : List Value} (hx : ev F x = .pointer (some ⟨b, off, none⟩)) (ht : P.underlying t = some u) (hu : u.isRow = true) (hi : P.info? t = some i) (hs : i.size = sz) (hb : ∀ w, C w → Blk w b l e) (hv : TakeR l off sz cs) (hd : Nat.blt d n = true)
    (h : Qst P n ops C K rest (upd F d (.agg cs.toArray)) ds) : Qst P n ops C K (⟨some d, .load t x, ty, pos, after, none⟩ :: rest) F ds :=
  Qst_value rfl (fun w hw => by
    have hg := hv.get
    have := run_loadAt_mid (P := P) w b off t cs u (fun j v hj => ((hb w hw).cell (off + j)).trans (hg.2 j v hj)) ht hu (by rw [hi]; simp [hs, hg.1])
    simp [execOp, hx, this]) hd h
end q
end Sx
end Go.Proofs.Ytoljcnlmockpcaa
