/- maps.Keys and slices.Sorted at the marks' maps: by the shelf's contracts. -/
import Derived.Test.YtmgipnckojopcaaGreatShelf
import Derived.Test.YtmgipnckojopcaaGreatPcMkA
import Derived.Test.YtmgipnckojopcaaGreatPcJSxEToSxMapG
import Derived.Sort.KeysCollected
namespace Go.Proofs.YtmgipnckojopcaaGreat
set_option maxRecDepth 100000
namespace Mk
open Go Go.RowKit Sx
theorem All2.map_eq {β γ δ : Type} {r : β → γ → Prop} {f : β → δ} {g : γ → δ} (hr : ∀ a b, r a b → f a = g b) : ∀ {l : List β} {m : List γ}, All2 r l m → l.map f = m.map g
  | [], [], _ => rfl
  | _ :: _, _ :: _, h => by rw [List.map_cons, List.map_cons, hr _ _ h.1, All2.map_eq hr h.2]
  | [], _ :: _, h => h.elim
  | _ :: _, [], h => h.elim
theorem All2.and_right {β γ : Type} {r : β → γ → Prop} {p : γ → Prop} : ∀ {l : List β} {m : List γ}, All2 r l m → (∀ b ∈ m, p b) → All2 (fun a b => r a b ∧ p b) l m
  | [], [], _, _ => trivial
  | _ :: _, b :: _, h, hp => ⟨⟨h.1, hp b (by simp)⟩, All2.and_right h.2 fun c hc => hp c (by simp [hc])⟩
  | [], _ :: _, h, _ => h.elim
  | _ :: _, [], h, _ => h.elim
theorem All2.left {β γ : Type} {r : β → γ → Prop} : ∀ {l : List β} {m : List γ}, All2 r l m → ∀ a ∈ l, ∃ b, r a b
  | [], [], _, a, ha => by cases ha
  | _ :: _, b :: _, h, a, ha => by
    rcases List.mem_cons.1 ha with rfl | ha
    · exact ⟨b, h.1⟩
    · exact All2.left h.2 a ha
  | [], _ :: _, h, _, _ => h.elim
  | _ :: _, [], h, _, _ => h.elim
/-- The keys, sorted. -/
def keysB {α : Type} (es : List (ByteArray × α)) : List (List UInt8) := es.map fun p => p.1.data.toList
def keysS {α : Type} (es : List (ByteArray × α)) : List (List UInt8) := (keysB es).mergeSort leB
theorem mp_owns {H α : Type} {P : Program} {k : TypeId} (hk : P.underlying k = some .string) {w : World} {mb : Nat} {R : Value → α → Prop} {es : List (ByteArray × α)} (h : MpAt w mb R es) (hs : ∀ p ∈ es, p.1.size ≤ maxLen) (hl : es.length ≤ maxLen) :
    ∃ D : DataW H, w.ownsMap P k (fun _ => some (.nil, [])) mb es.length D ∧ (strKeys D).Perm (keysB es) ∧ Maps.size D = es.length := by
  obtain ⟨arr, clock, hb, hst, hA⟩ := h
  have hlen : arr.size = es.length := by have := hA.len; simpa using this
  have hA2 := All2.and_right (p := fun q => q.1.size ≤ maxLen) hA hs
  have hrd : ∀ (e : MapEntry) (q : ByteArray × α), Ent R e q ∧ q.1.size ≤ maxLen → WideElems.rd (H := H) P k (fun _ => some (.nil, [])) e = some (.string q.1.data.toList, .nil) := by
    rintro e q ⟨h1, h2⟩
    unfold WideElems.rd
    rw [h1.1]
    have : keyOf P k (.string q.1) = some (.string q.1.data.toList) := by simp [keyOf, hk, mapKey, h2]
    rw [this]
    rfl
  refine ⟨_, ⟨arr, clock, hb, ⟨by omega, hst, fun x hx => ?_⟩, by omega, rfl⟩, ?_, ?_⟩
  · obtain ⟨q, hq⟩ := All2.left hA2 x hx
    exact ⟨_, hrd x q hq⟩
  · show ((arr.toList.map (WideElems.rg P k _)).foldr DataW.insert []).map (fun p => strOf p.1) |>.Perm _
    refine ((WideShapes.sorted_perm _).map _).trans ?_
    rw [List.map_map]
    have e := All2.map_eq (f := fun x => strOf (WideElems.rg (H := H) P k (fun _ => some (.nil, [])) x).1) (g := fun q : ByteArray × α => q.1.data.toList) (fun a b h => by
      unfold WideElems.rg
      rw [hrd a b h]
      rfl) hA2
    unfold keysB
    rw [← e]
    exact List.Perm.refl _
  · show ((arr.toList.map (WideElems.rg P k _)).foldr DataW.insert []).length = _
    rw [length_sorted]
    simp [hlen]
theorem sorts (m : Nat) : AnyZ.SortsIn Tryz.prog Tryz.sorted61_ren Fence.wide m :=
  ⟨fun blk off cap ss W hH hblk hsz => callsIn_wide.2 (AnyM.slices_Sort_string Tryz.sort80 blk off cap ss W hH hblk hsz),
   fun p cap W => callsIn_wide.2 (AnyM.slices_Sort_string_none Tryz.sort80 p cap W)⟩
theorem c_Keys (mb : Nat) (w : World) : Does Tryz.prog 62 #[.map (some mb)] w fun v w' => v = .func (.func 81) #[] #[.pointer (some ⟨w.heap.size, 0, none⟩)] ∧ w' = w.alloc (.cells #[.map (some mb)] 72) :=
  ⟨Sx.enters_of Tryz.func62 (by kernel_rfl) rfl, (callsIn_wide.1 (AnyZ.keys_in Tryz.keys62 Fence.wide 5 trivial rfl (some mb) w)).mono fun e w' h => ⟨_, h.1, rfl, h.2⟩⟩
set_option maxHeartbeats 1000000 in
theorem c_Sorted {α : Type} (mb : Nat) (R : Value → α → Prop) (es : List (ByteArray × α)) (w : World) (h : MpAt w mb R es) (hs : ∀ p ∈ es, p.1.size ≤ maxLen) (hl : es.length ≤ 1000000) :
    Does Tryz.prog 61 #[.func (.func 81) #[] #[.pointer (some ⟨w.heap.size, 0, none⟩)]] (w.alloc (.cells #[.map (some mb)] 72)) fun v w' =>
      w'.ownsRow (w.alloc (.cells #[.map (some mb)] 72)).heap.size 9 1 v es.length ((keysS es).map encStr) ∧ Below (w.alloc (.cells #[.map (some mb)] 72)).heap.size (w.alloc (.cells #[.map (some mb)] 72)) w' := by
  refine ⟨Sx.enters_of Tryz.func61 (by kernel_rfl) rfl, ?_⟩
  obtain ⟨D, hown, hp, hz⟩ := mp_owns (H := Unit) (k := 9) Tryz.underlying9 h hs (by simp only [maxLen]; omega)
  have hbl := hown.lt
  have hseq : SeqGives Fence.wide 2 Tryz.prog 81 #[.pointer (some ⟨w.heap.size, 0, none⟩)] encStr (fun ss => ss.Perm (strKeys D)) (Maps.size D) (w.alloc (.cells #[.map (some mb)] 72)) :=
    AnyZ.keys_gives (ρ := Tryz.keys62_ren) { Tryz.keys62 with } Fence.wide _ trivial rfl (by omega) w.heap.size mb es.length D _ (by simp) (by simp) (by
      obtain ⟨es, clock, hb, Ft, hs, hD⟩ := hown
      exact ⟨es, clock, (Below.heap_alloc _ _ mb hbl).trans hb, Ft, hs, hD⟩)
  have := AnyZ.sorted_in Tryz.sorted61 Fence.wide 5 trivial trivial trivial trivial rfl (by omega) (sorts _) (Go.Proofs.enters_of Tryz.func80 (by kernel_rfl) rfl) 81 #[.pointer (some ⟨w.heap.size, 0, none⟩)] trivial (Go.Proofs.enters_of Tryz.func81 (by kernel_rfl) rfl) _ _ (by rw [hz]; simp only [maxLen]; omega) (by rw [hz]; omega) _ hseq
  refine (callsIn_wide.1 this).mono ?_
  rintro e w' ⟨v, ss, rfl, hS, hrow, _, hb⟩
  have hS2 := hS.trans hp
  have e1 : ss.length = es.length := by rw [hS2.length_eq]; unfold keysB; simp
  refine ⟨v, rfl, ?_, hb⟩
  rw [e1] at hrow
  unfold keysS
  rw [← mergeSort_of_perm hS2]
  exact hrow
theorem c_KeysN (w : World) : Does Tryz.prog 62 #[.map none] w fun v w' => v = .func (.func 81) #[] #[.pointer (some ⟨w.heap.size, 0, none⟩)] ∧ w' = w.alloc (.cells #[.map none] 72) :=
  ⟨Sx.enters_of Tryz.func62 (by kernel_rfl) rfl, (callsIn_wide.1 (AnyZ.keys_in Tryz.keys62 Fence.wide 5 trivial rfl none w)).mono fun e w' h => ⟨_, h.1, rfl, h.2⟩⟩
/-- No map: no keys. -/
theorem c_SortedN (w : World) :
    Does Tryz.prog 61 #[.func (.func 81) #[] #[.pointer (some ⟨w.heap.size, 0, none⟩)]] (w.alloc (.cells #[.map none] 72)) fun v w' =>
      w'.ownsRow (w.alloc (.cells #[.map none] 72)).heap.size 9 1 v 0 [] ∧ Below (w.alloc (.cells #[.map none] 72)).heap.size (w.alloc (.cells #[.map none] 72)) w' := by
  refine ⟨Sx.enters_of Tryz.func61 (by kernel_rfl) rfl, ?_⟩
  have hseq := AnyZ.keys_gives_nil (ρ := Tryz.keys62_ren) { Tryz.keys62 with } Fence.wide 2 trivial rfl w.heap.size (w.alloc (.cells #[.map none] 72)) (by simp) (by simp)
  have := AnyZ.sorted_in Tryz.sorted61 Fence.wide 5 trivial trivial trivial trivial rfl (by omega) (sorts _) (Go.Proofs.enters_of Tryz.func80 (by kernel_rfl) rfl) 81 #[.pointer (some ⟨w.heap.size, 0, none⟩)] trivial (Go.Proofs.enters_of Tryz.func81 (by kernel_rfl) rfl) _ _ (by simp only [maxLen]; omega) (by omega) _ hseq
  refine (callsIn_wide.1 this).mono ?_
  rintro e w' ⟨v, ss, rfl, hS, hrow, _, hb⟩
  subst hS
  have e : List.map encStr ([].mergeSort (fun x y : List UInt8 => decide (x ≤ y))) = [] := by simp
  rw [e] at hrow
  exact ⟨v, rfl, hrow, hb⟩
end Mk
end Go.Proofs.YtmgipnckojopcaaGreat
