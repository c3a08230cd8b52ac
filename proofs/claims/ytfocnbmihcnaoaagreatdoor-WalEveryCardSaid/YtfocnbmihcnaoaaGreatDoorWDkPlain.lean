/- Plain facts on a disk's steps: sizes, names, what a script does. No program. -/
import Derived.Test.YtfocnbmihcnaoaaGreatDoorJPlaceToWDkRead
namespace Go.Proofs.YtfocnbmihcnaoaaGreatDoor
namespace Dk
open Go Go.RowKit Sx
/-- A step of a script; k: how many numbers it holds. -/
structure St where
  what : Int
  n : Int
  name : ByteArray
  to : ByteArray
  b : List UInt8
  k : Nat
def Dsk.step (d : Dsk) (s : St) : Int × Dsk :=
  if s.what = 0 ∨ s.what = 1 ∨ s.what = 2 ∨ s.what = 3 then d.append s.name s.b
  else if s.what = 4 then d.sync s.name else if s.what = 5 then d.rename s.name s.to else if s.what = 6 then d.truncate s.name s.n else if s.what = 7 then d.delete s.name else (1, d)
def playD (d : Dsk) : List St → Dsk
  | [] => d
  | s :: l => playD (d.step s).2 l
def playN (d : Dsk) : List St → Nat
  | [] => 0
  | s :: l => (if (d.step s).1 = 0 then 1 else 0) + playN (d.step s).2 l
def weight : List St → Nat
  | [] => 0
  | s :: l => s.b.length + s.name.size + s.to.size + s.k + weight l
theorem weight_get : ∀ (l : List St) (i : Nat) (h : i < l.length), weight (l.drop i) = l[i].b.length + l[i].name.size + l[i].to.size + l[i].k + weight (l.drop (i + 1))
  | _ :: _, 0, _ => rfl
  | _ :: l, i + 1, h => by simpa using weight_get l i (by simpa using h)
theorem used_put (n : ByteArray) (f : Fl) : ∀ (es : List (ByteArray × Fl)), used (Sx.put es n f) + (((Sx.look es n).getD f0).b.length) = used es + f.b.length
  | [] => by simp [Sx.put, used, Sx.look, f0]
  | p :: l => by
    unfold Sx.put Sx.look
    by_cases h : p.1 = n
    · rw [if_pos h, if_pos h]
      simp only [used, Option.getD_some]
      omega
    · rw [if_neg h, if_neg h]
      have := used_put n f l
      simp only [used]
      omega
theorem used_del (n : ByteArray) : ∀ (es : List (ByteArray × Fl)), used (Sx.del es n) + (((Sx.look es n).getD f0).b.length) = used es
  | [] => by simp [Sx.del, used, Sx.look, f0]
  | p :: l => by
    unfold Sx.del Sx.look
    by_cases h : p.1 = n
    · rw [if_pos h, if_pos h]
      simp only [used, Option.getD_some]
      omega
    · rw [if_neg h, if_neg h]
      have := used_del n l
      simp only [used]
      omega
theorem file_used (d : Dsk) (n : ByteArray) : (d.file n).b.length ≤ used d.es := by
  have := used_del n d.es
  unfold Dsk.file
  omega
theorem done_es (d : Dsk) : d.done.es = d.es := by unfold Dsk.done; split <;> rfl
theorem done_room (d : Dsk) : d.done.room = d.room := by unfold Dsk.done; split <;> rfl
theorem done_cut (d : Dsk) : d.done.cut ≤ d.cut := by unfold Dsk.done; split <;> simp <;> omega
theorem put_mem {n : ByteArray} {f : Fl} : ∀ {es : List (ByteArray × Fl)} {p : ByteArray × Fl}, p ∈ Sx.put es n f → p = (n, f) ∨ p ∈ es
  | [], p, h => by simp [Sx.put] at h; exact .inl h
  | q :: l, p, h => by
    unfold Sx.put at h
    split at h
    · rcases List.mem_cons.1 h with h | h
      · exact .inl h
      · exact .inr (List.mem_cons_of_mem _ h)
    · rcases List.mem_cons.1 h with h | h
      · exact .inr (by rw [h]; simp)
      · rcases put_mem h with h | h
        · exact .inl h
        · exact .inr (List.mem_cons_of_mem _ h)
theorem del_mem {n : ByteArray} : ∀ {es : List (ByteArray × Fl)} {p : ByteArray × Fl}, p ∈ Sx.del es n → p ∈ es
  | [], p, h => by simp [Sx.del] at h
  | q :: l, p, h => by
    unfold Sx.del at h
    split at h
    · exact List.mem_cons_of_mem _ h
    · rcases List.mem_cons.1 h with h | h
      · rw [h]; simp
      · exact List.mem_cons_of_mem _ (del_mem h)
theorem put_len {n : ByteArray} {f : Fl} : ∀ (es : List (ByteArray × Fl)), (Sx.put es n f).length ≤ es.length + 1
  | [] => by simp [Sx.put]
  | q :: l => by
    unfold Sx.put
    split
    · simp
    · have := put_len (n := n) (f := f) l
      simp; omega
theorem del_len {n : ByteArray} : ∀ (es : List (ByteArray × Fl)), (Sx.del es n).length ≤ es.length
  | [] => by simp [Sx.del]
  | q :: l => by
    unfold Sx.del
    split
    · simp
    · have := del_len (n := n) l
      simp; omega
/-- What every script keeps: u bytes at the most, m files at the most, names that may be. -/
structure Fine (d : Dsk) (u m : Nat) : Prop where
  cut : d.cut < 9223372036854775808
  used : used d.es ≤ u
  len : d.es.length ≤ m
  names : ∀ p ∈ d.es, p.1.size ≤ 32
theorem Fine.mono {d : Dsk} {u m u' m' : Nat} (h : Fine d u m) (hu : u ≤ u') (hm : m ≤ m') : Fine d u' m' := ⟨h.cut, Nat.le_trans h.used hu, Nat.le_trans h.len hm, h.names⟩
theorem Fine.done {d : Dsk} {es : List (ByteArray × Fl)} {u m : Nat} (h : d.cut < 9223372036854775808) (hu : Dk.used es ≤ u) (hl : es.length ≤ m) (hn : ∀ p ∈ es, p.1.size ≤ 32) : Fine (Dsk.done { d with es := es }) u m :=
  ⟨Int.lt_of_le_of_lt (done_cut _) h, by rw [done_es]; exact hu, by rw [done_es]; exact hl, by rw [done_es]; exact hn⟩
theorem nameOk_size {n : ByteArray} (h : nameOk n = true) : n.size ≤ 32 := by
  unfold nameOk at h
  simp only [Bool.and_eq_true, decide_eq_true_eq] at h
  exact h.2
theorem isE_name {d : Dsk} {n : ByteArray} (hn : ∀ p ∈ d.es, p.1.size ≤ 32) (h : d.isE n = 0) : n.size ≤ 32 := by
  obtain ⟨_, f, hf, _⟩ := isE_zero h
  have key : ∀ (es : List (ByteArray × Fl)), (∀ p ∈ es, p.1.size ≤ 32) → Sx.look es n = some f → n.size ≤ 32 := by
    intro es
    induction es with
    | nil => intro _ h; cases h
    | cons p es ih =>
      intro hp h
      unfold Sx.look at h
      split at h
      · rename_i e; rw [← e]; exact hp p (by simp)
      · exact ih (fun q hq => hp q (by simp [hq])) h
  exact key d.es hn hf
theorem put_names {es : List (ByteArray × Fl)} {n : ByteArray} {f : Fl} (h : ∀ p ∈ es, p.1.size ≤ 32) (hn : n.size ≤ 32) : ∀ p ∈ Sx.put es n f, p.1.size ≤ 32 := fun p hp => by
  rcases put_mem hp with rfl | hp
  · exact hn
  · exact h p hp
theorem Fine.append {d : Dsk} {u m : Nat} (h : Fine d u m) (n : ByteArray) (b : List UInt8) : Fine (d.append n b).2 (u + b.length) (m + 1) := by
  unfold Dsk.append
  split
  · exact h.mono (by omega) (by omega)
  · split
    · rename_i hn
      split
      · exact h.mono (by omega) (by omega)
      · refine Fine.done h.cut ?_ ?_ (put_names h.names (nameOk_size hn))
        · have h1 := used_put n ⟨(d.file n).b ++ b, (d.file n).safe⟩ d.es
          have h2 := h.used
          have h3 : ((Sx.look d.es n).getD f0).b.length = (d.file n).b.length := rfl
          simp only [List.length_append] at h1
          omega
        · have := put_len (n := n) (f := ⟨(d.file n).b ++ b, (d.file n).safe⟩) d.es
          have := h.len
          omega
    · exact h.mono (by omega) (by omega)
theorem Fine.put1 {d : Dsk} {u m : Nat} (h : Fine d u m) {n : ByteArray} (h0 : d.isE n = 0) {f : Fl} (hf : f.b.length ≤ (d.file n).b.length) : Fine (Dsk.done { d with es := Sx.put d.es n f }) u (m + 1) := by
  refine Fine.done h.cut ?_ ?_ (put_names h.names (isE_name h.names h0))
  · have h1 := used_put n f d.es
    have h2 := h.used
    have h3 : ((Sx.look d.es n).getD f0).b.length = (d.file n).b.length := rfl
    omega
  · have := put_len (n := n) (f := f) d.es
    have := h.len
    omega
theorem Fine.sync {d : Dsk} {u m : Nat} (h : Fine d u m) (n : ByteArray) : Fine (d.sync n).2 u (m + 1) := by
  unfold Dsk.sync
  split
  · rename_i h0; exact h.put1 h0 (Nat.le_refl _)
  · exact h.mono (by omega) (by omega)
theorem Fine.truncate {d : Dsk} {u m : Nat} (h : Fine d u m) (n : ByteArray) (z : Int) : Fine (d.truncate n z).2 u (m + 1) := by
  unfold Dsk.truncate
  split
  · rename_i h0; exact h.put1 h0 (by dsimp only; rw [List.length_take]; omega)
  · exact h.mono (by omega) (by omega)
theorem Fine.delete {d : Dsk} {u m : Nat} (h : Fine d u m) (n : ByteArray) : Fine (d.delete n).2 u (m + 1) := by
  unfold Dsk.delete
  split
  · refine Fine.done h.cut ?_ ?_ (fun p hp => h.names p (del_mem hp))
    · have h1 := used_del n d.es
      have h2 := h.used
      omega
    · have := del_len (n := n) d.es
      have := h.len
      omega
  · exact h.mono (by omega) (by omega)
theorem Fine.rename {d : Dsk} {u m : Nat} (h : Fine d u m) (a b : ByteArray) : Fine (d.rename a b).2 u (m + 1) := by
  unfold Dsk.rename
  split
  · split
    · rename_i hb
      refine Fine.done h.cut ?_ ?_ (put_names (fun p hp => h.names p (del_mem hp)) (nameOk_size hb))
      · have h1 := used_del a d.es
        have h2 := used_put b (d.file a) (Sx.del d.es a)
        have h3 := h.used
        have h4 : ((Sx.look d.es a).getD f0).b.length = (d.file a).b.length := rfl
        omega
      · have h1 := del_len (n := a) d.es
        have h2 := put_len (n := b) (f := d.file a) (Sx.del d.es a)
        have := h.len
        omega
    · exact h.mono (by omega) (by omega)
  · exact h.mono (by omega) (by omega)
theorem Fine.step {d : Dsk} {u m : Nat} (h : Fine d u m) (s : St) : Fine (d.step s).2 (u + s.b.length) (m + 1) := by
  unfold Dsk.step
  split
  · exact h.append _ _
  split
  · exact (h.sync _).mono (by omega) (by omega)
  split
  · exact (h.rename _ _).mono (by omega) (by omega)
  split
  · exact (h.truncate _ _).mono (by omega) (by omega)
  split
  · exact (h.delete _).mono (by omega) (by omega)
  · exact h.mono (by omega) (by omega)
theorem Fine.play : ∀ (l : List St) {d : Dsk} {u m : Nat}, Fine d u m → Fine (playD d l) (u + weight l) (m + l.length)
  | [], d, u, m, h => h
  | s :: l, d, u, m, h => (Fine.play l (h.step s)).mono (by simp only [weight]; omega) (by simp; omega)
theorem playN_le : ∀ (l : List St) (d : Dsk), playN d l ≤ l.length
  | [], _ => Nat.le_refl _
  | s :: l, d => by
    have := playN_le l (d.step s).2
    simp only [playN, List.length_cons]
    split <;> omega
end Dk
end Go.Proofs.YtfocnbmihcnaoaaGreatDoor
