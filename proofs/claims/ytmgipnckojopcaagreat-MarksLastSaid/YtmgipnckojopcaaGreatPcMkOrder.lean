/- MarksOrder's walk. -/
import Derived.Test.YtmgipnckojopcaaGreatPcMkS
import Derived.Test.YtmgipnckojopcaaGreatPcMkQ
namespace Go.Proofs.YtmgipnckojopcaaGreat
set_option maxRecDepth 100000
namespace Mk
open Go Go.RowKit Sx Tl Sq Val
/-- Operations of one's own. -/
def OwnO (B : Nat) (w : World) (v : Value) (l : List Mo) : Prop := w.ownsRow B 47 22 v l.length (l.map ocs).flatten
theorem OwnO.nil (B : Nat) (w : World) : OwnO B w (.slice none 0 0) [] := World.ownsRow_nil w B 47 22
theorem OwnO.rows {B : Nat} {w : World} {v : Value} {l : List Mo} (h : OwnO B w v l) : SRows w 22 v (l.map ocs) := by
  have h' : w.ownsRow B 47 22 v (l.map ocs).length (l.map ocs).flatten := by rw [List.length_map]; exact h
  exact SRows.of_own h' (ocs_len l) (by decide)
theorem OwnO.out {B : Nat} {w : World} {v : Value} {l : List Mo} (h : OwnO B w v l) {F : Nat → Prop} (hF : ∀ g, F g → g < B) : Out F v := fun b off sp n c e h0 hf => by
  have h1 := hF b hf
  rcases h.2 with ⟨h2, _⟩ | ⟨g, cap, cur, h2, h3, _⟩
  · rw [h2] at e
    cases e
  · rw [h2] at e
    cases e
    omega
theorem Lst_appendO {rd : Option Nat} {n : Nat} {ops : Array Oper} {Q : Post} {rest : List Oper} {F : Fr} {ds : List Deferred} {w : World} {ty : TypeId} {pos : String} {after : Array Edge} {d B : Nat} {s x : Operand} {v y : Value} {l k : List Mo}
    (hown : OwnO B w v l) (hy : SRows w 22 y (k.map ocs)) (hl : l.length + k.length ≤ 1000000) (hbase : B ≤ w.heap.size) (hs : ev F s = v) (hx : ev F x = y) (hd : Nat.blt d n = true)
    (h : ∀ v' w', OwnO B w' v' (l ++ k) → Below B w w' → Lst Tryz.prog rd n ops Q rest (upd F d v') ds w') :
    Lst Tryz.prog rd n ops Q (⟨some d, .call { callee := .builtin .append, args := #[s, x], argTypes := #[22, 22] }, ty, pos, after, none⟩ :: rest) F ds w := by
  apply Lst_appendR (hown := hown) (hy := hy) (hls := ocs_len k) (hone := ocs_one k) (bytes := 200)
  focus exact hs
  focus exact hx
  focus rfl
  focus rfl
  focus rfl
  focus rfl
  focus rfl
  focus rfl
  focus rfl
  focus (rw [List.length_map]; omega)
  focus (rw [List.length_map]; omega)
  focus exact hbase
  focus exact hd
  intro v' w' ho hg
  refine h v' w' ?_ (Below.own (Below.refl B w) hown hg (Nat.le_refl _) hbase)
  unfold OwnO
  rw [List.length_append, List.map_append, List.flatten_append]
  rw [List.length_map] at ho
  exact ho
section
attribute [local irreducible] RnS
attribute [local irreducible] W Lst Qst Pu seqQ blkQ rndQ cutQ retQ Does Enters IntKind.wrap bits sb World.alloc World.putObj Blk
end
end Mk
end Go.Proofs.YtmgipnckojopcaaGreat
