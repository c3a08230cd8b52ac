/- Plain: entries by clients: a list in the clients' order, and the map that holds it. -/
import Derived.Test.YtoljcnlmockpcaaSoC
namespace Go.Proofs.Ytoljcnlmockpcaa
set_option maxRecDepth 100000
namespace Aw
open Go Go.RowKit Sx
/-- An entry, as it is told: client, clock, state, gone. -/
structure Pr where
  c : Nat
  k : Nat
  s : ByteArray
  g : Bool
/-- An entry, and when it came. -/
structure En where
  p : Pr
  t : Int
def keyd (es : List En) : List (Int × En) := es.map fun e => ((e.p.c : Int), e)
def lk (es : List En) (c : Nat) : Option En := es.find? fun e => e.p.c == c
def Srt (es : List En) : Prop := es.Pairwise fun x y => x.p.c < y.p.c
def ins : List En → En → List En
  | [], e => [e]
  | x :: l, e => if e.p.c < x.p.c then e :: x :: l else if x.p.c = e.p.c then e :: l else x :: ins l e
section plain
variable {α : Type}
theorem look_iff : ∀ {m : List (Int × α)} {k : Int} {a : α}, (m.map (·.1)).Nodup → (SxU.look m k = some a ↔ (k, a) ∈ m)
  | [], _, _, _ => by simp [SxU.look]
  | p :: l, k, a, h => by
    rw [List.map_cons, List.nodup_cons] at h
    unfold SxU.look
    by_cases e : p.1 = k
    · rw [if_pos e, List.mem_cons]
      constructor
      · intro h'; left; cases p; cases h'; cases e; rfl
      · rintro (h' | h')
        · rw [← h']
        · exact absurd (List.mem_map_of_mem (f := (·.1)) h') (by rw [← e]; exact h.1)
    · rw [if_neg e, look_iff h.2, List.mem_cons]
      constructor
      · exact .inr
      · rintro (h' | h')
        · rw [← h'] at e; exact absurd rfl e
        · exact h'
theorem look_perm {m m' : List (Int × α)} (hp : m.Perm m') (hn : (m.map (·.1)).Nodup) (k : Int) : SxU.look m k = SxU.look m' k := by
  have hn' : (m'.map (·.1)).Nodup := (hp.map _).nodup_iff.1 hn
  apply Option.ext
  intro a
  rw [look_iff hn, look_iff hn', hp.mem_iff]
theorem put_perm : ∀ {m : List (Int × α)} (k : Int) (a : α), (m.map (·.1)).Nodup → (SxU.put m k a).Perm ((k, a) :: m.filter fun q => q.1 != k)
  | [], _, _, _ => List.Perm.refl _
  | p :: l, k, a, h => by
    rw [List.map_cons, List.nodup_cons] at h
    unfold SxU.put
    by_cases e : p.1 = k
    · rw [if_pos e, List.filter_cons_of_neg (by simpa using e), List.filter_eq_self.2 (fun q hq => by
        have : q.1 ∈ l.map (·.1) := List.mem_map_of_mem (f := (·.1)) hq
        simp only [bne_iff_ne, ne_eq]
        intro e'
        rw [e', ← e] at this
        exact h.1 this)]
    · rw [if_neg e, List.filter_cons_of_pos (by simpa using e)]
      exact ((put_perm k a h.2).cons p).trans (List.Perm.swap _ _ _)
end plain
theorem lk_cons (y : En) (m : List En) (c : Nat) : lk (y :: m) c = if y.p.c = c then some y else lk m c := by
  unfold lk
  rw [List.find?_cons]
  by_cases h : y.p.c = c
  · rw [if_pos h, beq_iff_eq.2 h]
  · rw [if_neg h, beq_eq_false_iff_ne.2 h]
theorem look_keyd : ∀ (es : List En) (c : Nat), SxU.look (keyd es) (c : Int) = lk es c
  | [], _ => rfl
  | e :: l, c => by
    rw [lk_cons, ← look_keyd l c]
    show (if ((e.p.c : Int)) = (c : Int) then some e else SxU.look (keyd l) c) = _
    by_cases h : e.p.c = c
    · rw [if_pos (by rw [h]), if_pos h]
    · rw [if_neg (by omega), if_neg h]
theorem keyd_nodup {es : List En} (h : Srt es) : ((keyd es).map (·.1)).Nodup := by
  unfold keyd
  rw [List.map_map]
  refine List.Pairwise.map _ ?_ h
  intro a b hab
  show ((a.p.c : Int)) ≠ (b.p.c : Int)
  omega
theorem keyd_filter (es : List En) (c : Nat) : (keyd es).filter (fun q => q.1 != (c : Int)) = keyd (es.filter fun e => e.p.c != c) := by
  unfold keyd
  rw [List.filter_map]
  congr 1
  apply List.filter_congr
  intro e _
  show (((e.p.c : Int)) != (c : Int)) = (e.p.c != c)
  by_cases h : e.p.c = c
  · subst h; simp
  · rw [bne_iff_ne.2 h, bne_iff_ne.2 (by omega)]
theorem filter_all {es : List En} {c : Nat} (h : ∀ e ∈ es, e.p.c ≠ c) : (es.filter fun e => e.p.c != c) = es := List.filter_eq_self.2 fun e he => by simpa using h e he
theorem ins_perm : ∀ {es : List En} (e : En), Srt es → (ins es e).Perm (e :: es.filter fun x => x.p.c != e.p.c)
  | [], _, _ => List.Perm.refl _
  | x :: l, e, h => by
    have h1 := (List.pairwise_cons.1 h).1
    have h2 := (List.pairwise_cons.1 h).2
    unfold ins
    by_cases a : e.p.c < x.p.c
    · rw [if_pos a, filter_all (es := x :: l) (fun y hy => by
        rcases List.mem_cons.1 hy with rfl | hy
        · omega
        · have := h1 y hy; omega)]
    · rw [if_neg a]
      by_cases b : x.p.c = e.p.c
      · rw [if_pos b, List.filter_cons_of_neg (by simpa using b), filter_all (fun y hy => by have := h1 y hy; omega)]
      · rw [if_neg b, List.filter_cons_of_pos (by simpa using b)]
        exact ((ins_perm e h2).cons x).trans (List.Perm.swap _ _ _)
theorem ins_mem : ∀ {es : List En} {e y : En}, y ∈ ins es e → y = e ∨ y ∈ es
  | [], e, y, h => .inl (by simpa [ins] using h)
  | x :: l, e, y, h => by
    unfold ins at h
    split at h
    · rcases List.mem_cons.1 h with h | h
      · exact .inl h
      · exact .inr h
    · split at h
      · rcases List.mem_cons.1 h with h | h
        · exact .inl h
        · exact .inr (List.mem_cons_of_mem _ h)
      · rcases List.mem_cons.1 h with h | h
        · exact .inr (by rw [h]; exact List.mem_cons_self ..)
        · rcases ins_mem h with h | h
          · exact .inl h
          · exact .inr (List.mem_cons_of_mem _ h)
theorem ins_srt : ∀ {es : List En} (e : En), Srt es → Srt (ins es e)
  | [], e, _ => by simp [ins, Srt]
  | x :: l, e, h => by
    have h1 := (List.pairwise_cons.1 h).1
    have h2 := (List.pairwise_cons.1 h).2
    unfold ins
    split
    · rename_i a
      refine List.pairwise_cons.2 ⟨fun y hy => ?_, h⟩
      rcases List.mem_cons.1 hy with rfl | hy
      · exact a
      · have := h1 y hy; omega
    · split
      · rename_i b
        exact List.pairwise_cons.2 ⟨fun y hy => by have := h1 y hy; omega, h2⟩
      · refine List.pairwise_cons.2 ⟨fun y hy => ?_, ins_srt e h2⟩
        rcases ins_mem hy with rfl | hy
        · omega
        · exact h1 y hy
theorem ins_len : ∀ (es : List En) (e : En), (ins es e).length ≤ es.length + 1
  | [], _ => Nat.le_refl _
  | x :: l, e => by
    have := ins_len l e
    unfold ins
    split
    · exact Nat.le_refl _
    · split
      · simp only [List.length_cons]; omega
      · simp only [List.length_cons]; omega
theorem lk_ins : ∀ (es : List En) (e : En) (c : Nat), Srt es → lk (ins es e) c = if e.p.c = c then some e else lk es c
  | [], e, c, _ => by
    unfold ins lk
    rw [List.find?_cons]
    by_cases h : e.p.c = c
    · rw [if_pos h, beq_iff_eq.2 h]
    · rw [if_neg h, beq_eq_false_iff_ne.2 h]
  | x :: l, e, c, h => by
    have h1 := (List.pairwise_cons.1 h).1
    have h2 := (List.pairwise_cons.1 h).2
    have ih := lk_ins l e c h2
    unfold ins
    split
    · rw [lk_cons]
    · split
      · rename_i b
        rw [lk_cons, lk_cons]
        by_cases e' : e.p.c = c
        · rw [if_pos e', if_pos e']
        · rw [if_neg e', if_neg e', if_neg (by omega)]
      · rename_i b
        rw [lk_cons, lk_cons, ih]
        by_cases e' : x.p.c = c
        · rw [if_pos e', if_neg (by omega), if_pos e']
        · rw [if_neg e', if_neg e']
theorem sorted_keyd {m : List (Int × En)} {es : List En} (hp : m.Perm (keyd es)) (h : Srt es) : So.sorted (m.map (·.1)) = es.map fun e => ((e.p.c : Int)) := by
  rw [So.sorted_perm (hp.map _)]
  unfold So.sorted
  have e1 : (keyd es).map (·.1) = es.map fun e => ((e.p.c : Int)) := by unfold keyd; rw [List.map_map]; rfl
  rw [e1]
  refine List.mergeSort_of_pairwise ?_
  refine List.Pairwise.map _ ?_ h
  intro a b hab
  simp only [decide_eq_true_eq]
  omega
end Aw
end Go.Proofs.Ytoljcnlmockpcaa
