/- A cut in the midst of a list of operations. -/
import Derived.Test.YtmammcgdjjldbaaSxT
import Derived.OrdersIn
namespace Go.Proofs.Ytmammcgdjjldbaa
set_option maxRecDepth 100000
namespace Tl
open Go Go.RowKit Sx
theorem op_mono {F : Fence} {n : Nat} {P : Program} {Q Q' : Exit → Act → World → Prop} {o : Oper} {a : Act} {w : World} {K K' : Act → World → Prop} (h : ∀ a w, K a w → K' a w) (hq : ∀ e a w, Q e a w → Q' e a w)
    (hh : o.wpIn F n P a w K Q) : o.wpIn F n P a w K' Q' := by
  unfold Oper.wpIn at *
  refine ⟨hh.1, ?_⟩
  have hh := hh.2
  generalize (o.semAt F.round a.eval).run P w = r at *
  cases r with
  | ok x w' =>
    cases x <;> simp only [Oper.uponIn] at hh ⊢ <;>
      first
        | exact h _ _ hh
        | exact hq _ _ _ hh
        | exact hh
        | exact ⟨hh.1, CallsIn.mono hh.2 (fun e w'' he => by cases e <;> first | exact h _ _ he | exact hq _ _ _ he | exact let ⟨a, w, ho⟩ := he; ⟨a, w, hq _ _ _ ho⟩ | exact he)⟩
        | exact ⟨hh.1, RowsIn.mono hh.2 (fun _ _ he => h _ _ he)⟩
        | exact ⟨hh.1, RoundIn.mono hh.2 (fun e w'' he => by cases e <;> first | exact h _ _ he | exact hq _ _ _ he | exact let ⟨a, w, ho⟩ := he; ⟨a, w, hq _ _ _ ho⟩ | exact he)⟩
  | halt x w' => cases x <;> simp only [Oper.uponIn] at hh ⊢ <;> first | exact hq _ _ _ hh | exact hh
theorem list_mono {F : Fence} {n : Nat} {P : Program} {ops : Array Oper} {Q Q' : Exit → Act → World → Prop} (hq : ∀ e a w, Q e a w → Q' e a w) : ∀ {l : List Oper} {a : Act} {w : World}, wpListIn F n P ops Q l a w → wpListIn F n P ops Q' l a w
  | [], _, _, h => hq _ _ _ h
  | o :: rest, a, w, h => by
    unfold wpListIn at h ⊢
    split
    · rename_i hw
      rw [if_pos hw] at h
      exact op_mono (fun _ _ h => list_mono hq h) hq h
    · rename_i hw
      rw [if_neg hw] at h
      exact ⟨h.1, list_mono hq h.2⟩
section rules
variable {P : Program} {rd : Option Nat} {n : Nat} {ops : Array Oper} {Q : Post} {rest : List Oper} {F : Fr} {ds : List Deferred} {w : World}
theorem Lst_post {Q' : Post} (h : Lst P rd n ops Q rest F ds w) (hm : ∀ e F ds w, Q e F ds w → Q' e F ds w) : Lst P rd n ops Q' rest F ds w := fun m a hf =>
  list_mono (fun e a w hq => by
    obtain ⟨G, ds', hg, hq⟩ := hq
    exact ⟨G, ds', hg, hm _ _ _ _ hq⟩) (h m a hf)
/-- A cut behind the code that comes next. -/
theorem Lst_cut2 {α : Type} (vals : α → St) (M : α → World → Prop) {y z : Code} (h1 : Lst P rd n ops (seqQ P rd n y (cutQ vals M Q ds)) rest F ds w)
    (h2 : ∀ (J : Fr) (g : α) (w' : World), M g w' → W P rd n z Q (fr J (vals g)) ds w') : Lst P rd n ops (seqQ P rd n y (seqQ P rd n z Q)) rest F ds w := Lst_post h1 fun e F ds' w h => by
  cases e with
  | normal => exact W_post h (cut_seq h2)
  | exit i => exact cut_seq h2 (.exit i) F ds' w h
  | goto i => exact cut_seq h2 (.goto i) F ds' w h
  | ret => exact cut_seq h2 .ret F ds' w h
  | panic i => exact cut_seq h2 (.panic i) F ds' w h
  | outgrown => exact cut_seq h2 .outgrown F ds' w h
/-- A cut behind this list. -/
theorem Lst_cut {α : Type} (vals : α → St) (M : α → World → Prop) {z : Code} (h1 : Lst P rd n ops (cutQ vals M Q ds) rest F ds w)
    (h2 : ∀ (J : Fr) (g : α) (w' : World), M g w' → W P rd n z Q (fr J (vals g)) ds w') : Lst P rd n ops (seqQ P rd n z Q) rest F ds w := Lst_post h1 (cut_seq h2)
end rules
end Tl
end Go.Proofs.Ytmammcgdjjldbaa
