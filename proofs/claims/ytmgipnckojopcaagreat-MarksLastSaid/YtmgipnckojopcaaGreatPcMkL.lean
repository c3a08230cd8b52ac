/- Marks, plainly: what winners tell, by keys; rows in order are one where their keys tell the same. -/
import Derived.Test.YtmgipnckojopcaaGreatPcMkC
import Derived.Test.YtmgipnckojopcaaGreatPcMkD
import Derived.Test.YtmgipnckojopcaaGreatPcMkO
namespace Go.Proofs.YtmgipnckojopcaaGreat
set_option maxRecDepth 100000
namespace Mk
open Go Go.RowKit Sx Tl Sq Val Fl
theorem cmp_lt : ∀ a b : List UInt8, Lib.compareBytes a b < 0 ↔ a < b
  | [], [] => by simp [Lib.compareBytes]
  | [], _ :: _ => by simp [Lib.compareBytes]
  | _ :: _, [] => by simp [Lib.compareBytes]
  | x :: a, y :: b => by
    have ih := cmp_lt a b
    unfold Lib.compareBytes
    rw [List.cons_lt_cons_iff]
    by_cases h : x < y
    · simp [h]
    · by_cases h' : y < x
      · have hn : ¬ x = y := fun e => by subst e; exact UInt8.lt_irrefl _ h'
        simp [h, h', hn]
      · have : x = y := UInt8.le_antisymm (UInt8.not_lt.1 h') (UInt8.not_lt.1 h)
        subst this
        simp [h, ih]
theorem kl_trans {a b c : ByteArray} (h : cmpS a b < 0) (k : cmpS b c < 0) : cmpS a c < 0 := by
  have := cmpB_tr a.data.toList b.data.toList c.data.toList
  unfold Tr at this
  unfold cmpS at *
  have h1 := this (by omega) (by omega)
  by_cases e : Lib.compareBytes a.data.toList c.data.toList = 0
  · have := (h1.2 e).1; omega
  · omega
theorem kl_self (a : ByteArray) : cmpS a a = 0 := by
  have := cmpS_neg a a
  omega
theorem kl_eq {a b : ByteArray} : cmpS a b = 0 ↔ a = b := by
  unfold cmpS
  rw [cmpB_eq]
  constructor
  · intro h
    cases a; cases b
    simp at h
    rw [h]
  · intro h; rw [h]
/-- By keys, each once. -/
def Srt {α : Type} (l : List (ByteArray × α)) : Prop := l.Pairwise fun p q => cmpS p.1 q.1 < 0
theorem look_none {α : Type} {k : ByteArray} : ∀ {l : List (ByteArray × α)}, (∀ p ∈ l, p.1 ≠ k) → Sx.look l k = none
  | [], _ => rfl
  | p :: l, h => by
    unfold Sx.look
    rw [if_neg (h p (List.mem_cons_self ..))]
    exact look_none fun q hq => h q (List.mem_cons_of_mem _ hq)
theorem Srt.look_lt {α : Type} {k : ByteArray} {l : List (ByteArray × α)} (h : ∀ p ∈ l, cmpS k p.1 < 0) : Sx.look l k = none :=
  look_none fun p hp e => by have := h p hp; rw [e, kl_self] at this; omega
def orel {β γ : Type} (R : β → γ → Prop) : Option β → Option γ → Prop
  | none, none => True
  | some a, some b => R a b
  | _, _ => False
theorem look_cons {α : Type} (p : ByteArray × α) (l : List (ByteArray × α)) (k : ByteArray) : Sx.look (p :: l) k = if p.1 = k then some p.2 else Sx.look l k := rfl
theorem srt_all2 {α β : Type} {R : α → β → Prop} : ∀ {l : List (ByteArray × α)} {m : List (ByteArray × β)}, Srt l → Srt m → (∀ k, orel R (Sx.look l k) (Sx.look m k)) → All2 (fun p q => p.1 = q.1 ∧ R p.2 q.2) l m
  | [], [], _, _, _ => trivial
  | [], q :: m, _, _, h => by
    have := h q.1
    rw [look_cons, if_pos rfl] at this
    exact this.elim
  | p :: l, [], _, _, h => by
    have := h p.1
    rw [look_cons, if_pos rfl] at this
    exact this.elim
  | p :: l, q :: m, hl, hm, h => by
    obtain ⟨hl1, hl2⟩ := List.pairwise_cons.1 hl
    obtain ⟨hm1, hm2⟩ := List.pairwise_cons.1 hm
    by_cases e : p.1 = q.1
    · have h0 := h p.1
      rw [look_cons, if_pos rfl, look_cons, if_pos e.symm] at h0
      refine ⟨⟨e, h0⟩, srt_all2 hl2 hm2 fun k => ?_⟩
      by_cases hk : p.1 = k
      · subst hk
        rw [Srt.look_lt hl1, Srt.look_lt (by rw [e]; exact hm1)]
        trivial
      · have h1 := h k
        rw [look_cons, if_neg hk, look_cons, if_neg (by rw [← e]; exact hk)] at h1
        exact h1
    · have hne : cmpS p.1 q.1 ≠ 0 := fun h => e (kl_eq.1 h)
      by_cases hlt : cmpS p.1 q.1 < 0
      · have h1 := h p.1
        rw [look_cons, if_pos rfl, Srt.look_lt (fun r hr => by
          rcases List.mem_cons.1 hr with rfl | hr
          · exact hlt
          · exact kl_trans hlt (hm1 r hr))] at h1
        exact h1.elim
      · have hgt : cmpS q.1 p.1 < 0 := by have := cmpS_neg p.1 q.1; omega
        have h1 := h q.1
        rw [look_cons q, if_pos rfl, Srt.look_lt (fun r hr => by
          rcases List.mem_cons.1 hr with rfl | hr
          · exact hgt
          · exact kl_trans hgt (hl1 r hr))] at h1
        exact h1.elim
theorem all2_same : ∀ {l m : List Mk}, All2 (fun p q => p.1 = q.1 ∧ cmpV p.2 q.2 = 0) l m → sameL l m = true
  | [], [], _ => rfl
  | x :: l, y :: m, h => by
    unfold sameL sameM
    rw [decide_eq_true h.1.1, decide_eq_true h.1.2, all2_same h.2]
    rfl
  | [], _ :: _, h => h.elim
  | _ :: _, [], h => h.elim
/-- Rows in order are alike where all their keys tell alike. -/
theorem same_of_look {l m : List Mk} (hl : Srt l) (hm : Srt m) (h : ∀ k, orel (fun x y => cmpV x y = 0) (Sx.look l k) (Sx.look m k)) : sameL l m = true :=
  all2_same (srt_all2 hl hm h)
theorem look_put {α : Type} (k n : ByteArray) (a : α) : ∀ (l : List (ByteArray × α)), Sx.look (Sx.put l k a) n = if k = n then some a else Sx.look l n
  | [] => rfl
  | q :: l => by
    unfold Sx.put
    by_cases hq : q.1 = k
    · rw [if_pos hq]
      by_cases hk : k = n
      · simp [look_cons, hk]
      · simp [look_cons, hk, hq]
    · rw [if_neg hq, look_cons, look_put k n a l, look_cons]
      by_cases hk : k = n
      · subst hk; simp [hq]
      · simp [hk]
theorem look_some_mem {α : Type} {k : ByteArray} {a : α} : ∀ {l : List (ByteArray × α)}, Sx.look l k = some a → (k, a) ∈ l
  | [], h => by cases h
  | p :: l, h => by
    rw [look_cons] at h
    by_cases e : p.1 = k
    · rw [if_pos e] at h
      injection h with h
      subst h
      subst e
      exact List.mem_cons_self ..
    · rw [if_neg e] at h
      exact List.mem_cons_of_mem _ (look_some_mem h)
theorem mem_keysB {α : Type} {k : ByteArray} {l : List (ByteArray × α)} : k.data.toList ∈ keysB l ↔ ∃ a, Sx.look l k = some a := by
  unfold keysB
  rw [List.mem_map]
  constructor
  · rintro ⟨q, hq, e⟩
    have e : q.1 = k := by
      cases h : q.1; cases k
      rw [h] at e
      simp at e
      rw [e]
    have h := keys_in (m := l) (k := k.data.toList) ((List.mergeSort_perm _ _).mem_iff.2 (List.mem_map.2 ⟨q, hq, by rw [e]⟩))
    simpa using h
  · rintro ⟨a, h⟩
    exact ⟨_, look_some_mem h, rfl⟩
theorem put_keysB {α : Type} {k : ByteArray} {a : α} : ∀ {l : List (ByteArray × α)}, keysB (Sx.put l k a) = keysB l ∨ keysB (Sx.put l k a) = keysB l ++ [k.data.toList] ∧ k.data.toList ∉ keysB l
  | [] => .inr ⟨rfl, by simp [keysB]⟩
  | p :: l => by
    unfold Sx.put
    by_cases e : p.1 = k
    · rw [if_pos e]
      left
      simp [keysB, e]
    · rw [if_neg e]
      rcases put_keysB (k := k) (a := a) (l := l) with h | ⟨h, h'⟩
      · left
        unfold keysB at *
        rw [List.map_cons, h, List.map_cons]
      · right
        unfold keysB at *
        refine ⟨by rw [List.map_cons, h, List.map_cons, List.cons_append], fun hm => ?_⟩
        rw [List.map_cons] at hm
        rcases List.mem_cons.1 hm with hm | hm
        · apply e
          cases hp : p.1; cases k
          rw [hp] at hm
          simp at hm
          rw [hm]
        · exact h' hm
theorem nodup_put {α : Type} {k : ByteArray} {a : α} {l : List (ByteArray × α)} (h : (keysB l).Nodup) : (keysB (Sx.put l k a)).Nodup := by
  rcases put_keysB (k := k) (a := a) (l := l) with e | ⟨e, h'⟩
  · rw [e]; exact h
  · rw [e]
    rw [List.nodup_append]
    refine ⟨h, List.nodup_cons.2 ⟨by simp, List.nodup_nil⟩, fun x hx y hy => ?_⟩
    rw [List.mem_singleton.1 hy]
    exact fun e => h' (e ▸ hx)
theorem nodup_win {m : List (ByteArray × Mo)} (o : Mo) (h : (keysB m).Nodup) : (keysB (winM m o)).Nodup := by
  unfold winM
  split
  · exact nodup_put h
  · split
    · exact nodup_put h
    · exact h
theorem nodup_fold : ∀ {l : List Mo} {m : List (ByteArray × Mo)}, (keysB m).Nodup → (keysB (l.foldl winM m)).Nodup
  | [], _, h => h
  | o :: l, _, h => nodup_fold (l := l) (nodup_win o h)
/-- One key's winner. -/
def wstep (k : ByteArray) (x : Option Mo) (o : Mo) : Option Mo := if o.key = k then (match x with | none => some o | some y => if mless y o then some o else some y) else x
def top (k : ByteArray) (l : List Mo) : Option Mo := l.foldl (wstep k) none
theorem look_win (m : List (ByteArray × Mo)) (o : Mo) (k : ByteArray) : Sx.look (winM m o) k = wstep k (Sx.look m k) o := by
  unfold winM wstep
  by_cases e : o.key = k
  · subst e
    rw [if_pos rfl]
    cases h : Sx.look m o.key with
    | none => rw [look_put, if_pos rfl]
    | some y =>
      dsimp only
      by_cases hy : mless y o = true
      · rw [if_pos hy, if_pos hy, look_put, if_pos rfl]
      · rw [if_neg hy, if_neg hy, h]
  · rw [if_neg e]
    cases h : Sx.look m o.key with
    | none => rw [look_put, if_neg e]
    | some y =>
      dsimp only
      by_cases hy : mless y o = true
      · rw [if_pos hy, look_put, if_neg e]
      · rw [if_neg hy]
theorem look_fold (k : ByteArray) : ∀ (l : List Mo) (m : List (ByteArray × Mo)), Sx.look (l.foldl winM m) k = l.foldl (wstep k) (Sx.look m k)
  | [], _ => rfl
  | o :: l, m => by rw [List.foldl_cons, List.foldl_cons, look_fold k l, look_win]
theorem look_best (t : Fo) (place : Int) (l : List Mo) (k : ByteArray) : Sx.look (bestL t place l) k = top k (l.filter (onV t place)) := look_fold k _ _
/-- What a winner tells. -/
def t1 (o : Mo) : Option Vl := if o.v.k = 0 then none else some (cleanV o.v)
theorem look_append {α : Type} (k : ByteArray) : ∀ (a b : List (ByteArray × α)), Sx.look (a ++ b) k = (Sx.look a k).or (Sx.look b k)
  | [], b => by simp [Sx.look]
  | p :: a, b => by
    rw [List.cons_append, look_cons, look_cons, look_append k a b]
    split
    · rfl
    · rfl
theorem bytes_eq (k : ByteArray) : (⟨k.data.toList.toArray⟩ : ByteArray) = k := by simp
theorem look_flat (m : List (ByteArray × Mo)) (k : ByteArray) : ∀ {ks : List (List UInt8)}, ks.Nodup → Sx.look (ks.flatMap (tell m)) k = if k.data.toList ∈ ks then (Sx.look m k).bind t1 else none
  | [], _ => rfl
  | a :: ks, h => by
    obtain ⟨h1, h2⟩ := List.nodup_cons.1 h
    rw [List.flatMap_cons, look_append, look_flat m k h2]
    by_cases e : a = k.data.toList
    · subst e
      rw [if_neg h1, if_pos (List.mem_cons_self ..), Option.or_none]
      unfold tell
      rw [bytes_eq]
      cases Sx.look m k with
      | none => rfl
      | some o =>
        dsimp only
        show _ = t1 o
        unfold t1
        split
        · rfl
        · rw [look_cons, if_pos rfl]
    · have hn : Sx.look (tell m a) k = none := by
        refine look_none fun p hp => ?_
        unfold tell at hp
        have : p.1 = ⟨a.toArray⟩ := by
          split at hp
          · cases hp
          · split at hp
            · cases hp
            · rw [List.mem_singleton.1 hp]
        rw [this]
        intro e'
        apply e
        rw [← e']
      rw [hn, Option.none_or]
      have : k.data.toList ∈ a :: ks ↔ k.data.toList ∈ ks := ⟨fun hm => by
        rcases List.mem_cons.1 hm with hm | hm
        · exact absurd hm.symm e
        · exact hm, List.mem_cons_of_mem _⟩
      by_cases hk : k.data.toList ∈ ks
      · rw [if_pos hk, if_pos (this.2 hk)]
      · rw [if_neg hk, if_neg (fun h => hk (this.1 h))]
theorem keysS_nodup {m : List (ByteArray × Mo)} (h : (keysB m).Nodup) : (keysS m).Nodup := (List.mergeSort_perm _ _).nodup_iff.2 h
theorem look_told {m : List (ByteArray × Mo)} (h : (keysB m).Nodup) (k : ByteArray) : Sx.look (toldL m) k = (Sx.look m k).bind t1 := by
  unfold toldL
  rw [look_flat m k (keysS_nodup h)]
  have hm : k.data.toList ∈ keysS m ↔ k.data.toList ∈ keysB m := (List.mergeSort_perm _ _).mem_iff
  by_cases hk : k.data.toList ∈ keysS m
  · rw [if_pos hk]
  · rw [if_neg hk]
    cases he : Sx.look m k with
    | none => rfl
    | some a => exact absurd (hm.2 (mem_keysB.2 ⟨a, he⟩)) hk
theorem srt_flat (m : List (ByteArray × Mo)) : ∀ {ks : List (List UInt8)}, ks.Pairwise (fun a b => a < b) → Srt (ks.flatMap (tell m)) ∧ ∀ p ∈ ks.flatMap (tell m), p.1.data.toList ∈ ks
  | [], _ => ⟨List.Pairwise.nil, fun p hp => by cases hp⟩
  | a :: ks, h => by
    obtain ⟨h1, h2⟩ := List.pairwise_cons.1 h
    obtain ⟨ih1, ih2⟩ := srt_flat m h2
    rw [List.flatMap_cons]
    have ht : tell m a = [] ∨ ∃ v, tell m a = [(⟨a.toArray⟩, v)] := by
      unfold tell
      split
      · exact .inl rfl
      · split
        · exact .inl rfl
        · exact .inr ⟨_, rfl⟩
    rcases ht with e | ⟨v, e⟩
    · rw [e, List.nil_append]
      exact ⟨ih1, fun p hp => List.mem_cons_of_mem _ (ih2 p hp)⟩
    · rw [e, List.singleton_append]
      refine ⟨List.pairwise_cons.2 ⟨fun q hq => ?_, ih1⟩, fun p hp => ?_⟩
      · exact (cmp_lt _ _).2 (h1 _ (ih2 q hq))
      · rcases List.mem_cons.1 hp with rfl | hp
        · exact List.mem_cons_self ..
        · exact List.mem_cons_of_mem _ (ih2 p hp)
theorem srt_told {m : List (ByteArray × Mo)} (h : (keysB m).Nodup) : Srt (toldL m) := by
  refine (srt_flat m ?_).1
  have tr : ∀ a b c : List UInt8, leB a b = true → leB b c = true → leB a c = true := fun a b c h1 h2 => by simp only [leB, decide_eq_true_eq] at *; exact List.le_trans h1 h2
  have to : ∀ a b : List UInt8, (leB a b || leB b a) = true := fun a b => by simp only [leB, Bool.or_eq_true, decide_eq_true_eq]; exact List.le_total a b
  have h1 : (keysS m).Pairwise (fun a b => leB a b = true) := List.pairwise_mergeSort tr to _
  refine (h1.and (keysS_nodup h)).imp fun {a b} hab => ?_
  have h2 : a ≤ b := by simpa [leB] using hab.1
  refine Decidable.byContradiction fun h3 => hab.2 ?_
  exact List.le_antisymm h2 (List.not_lt.1 h3)
theorem srt_best (t : Fo) (place : Int) (l : List Mo) : Srt (toldL (bestL t place l)) := srt_told (nodup_fold (by simp [keysB]))
theorem look_tb (t : Fo) (place : Int) (l : List Mo) (k : ByteArray) : Sx.look (toldL (bestL t place l)) k = (top k (l.filter (onV t place))).bind t1 := by
  rw [look_told (m := bestL t place l) (nodup_fold (by simp [keysB])), look_best]
/-! ### The reference: winners kept in order -/
theorem K_clean (f : Nat) : K (nbits f) = K f := by
  unfold nbits
  by_cases h : isNaN f = true
  · rw [if_pos h, K_nan h, K_nan (by decide)]
  · rw [if_neg h]
theorem cmpV_clean (x y : Vl) : cmpV (cleanV x) y = cmpV x y := by
  unfold cmpV cleanV
  dsimp only
  rw [K_clean]
end Mk
end Go.Proofs.YtmgipnckojopcaaGreat
