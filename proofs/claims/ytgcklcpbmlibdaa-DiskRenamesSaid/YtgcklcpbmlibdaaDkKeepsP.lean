/- DiskKeeps: the plain law: syncs and a crash keep the names, and of each file a beginning. -/
import Derived.Test.YtgcklcpbmlibdaaDkRead
namespace Go.Proofs.Ytgcklcpbmlibdaa
namespace Dk
open Go Sx
structure Live (d : Dsk) : Prop where
  dead : d.dead = false
  cut : d.cut = -1
theorem done_live {d : Dsk} {es : List (ByteArray × Fl)} (h : d.cut = -1) : Dsk.done { d with es := es } = { d with es := es } := by
  unfold Dsk.done
  rw [if_neg (by show ¬ 0 < d.cut; omega)]
theorem Live.step {d : Dsk} (h : Live d) (s : St) : Live (d.step s).2 := by
  rw [step_core]
  cases (d.core s).2 with
  | none => exact h
  | some es =>
    show Live (Dsk.done { d with es := es })
    rw [done_live h.cut]
    exact ⟨h.dead, h.cut⟩
theorem Live.play : ∀ (l : List St) {d : Dsk}, Live d → Live (playD d l)
  | [], _, h => h
  | s :: l, _, h => Live.play l (h.step s)
def keys (es : List (ByteArray × Fl)) : List ByteArray := es.map (·.1)
theorem look_some {n : ByteArray} : ∀ {es : List (ByteArray × Fl)}, n ∈ keys es → ∃ f, Sx.look es n = some f
  | q :: es, h => by
    unfold Sx.look
    by_cases hq : q.1 = n
    · exact ⟨_, by rw [if_pos hq]⟩
    · rw [if_neg hq]
      rcases List.mem_cons.1 h with h | h
      · exact absurd h.symm hq
      · exact look_some h
theorem put_keys {n : ByteArray} {f : Fl} : ∀ {es : List (ByteArray × Fl)}, n ∈ keys es → keys (Sx.put es n f) = keys es
  | q :: es, h => by
    unfold Sx.put
    by_cases hq : q.1 = n
    · rw [if_pos hq]
      show n :: keys es = q.1 :: keys es
      rw [hq]
    · rw [if_neg hq]
      rcases List.mem_cons.1 h with h | h
      · exact absurd h.symm hq
      · show q.1 :: keys (Sx.put es n f) = q.1 :: keys es
        rw [put_keys h]
theorem keysB_eq (es : List (ByteArray × Fl)) : keysB es = (keys es).map fun k => k.data.toList := by unfold keysB keys; rw [List.map_map]; rfl
theorem keysS_eq {es es' : List (ByteArray × Fl)} (h : keys es' = keys es) : keysS es' = keysS es := by unfold keysS; rw [keysB_eq, keysB_eq, h]
theorem keys_len {es es' : List (ByteArray × Fl)} (h : keys es' = keys es) : es'.length = es.length := by
  have := congrArg List.length h
  simpa [keys] using this
theorem nameAt_mem {es : List (ByteArray × Fl)} {i : Nat} (h : i < (keysS es).length) : nameAt (keysS es) i ∈ keys es := by
  have h1 : (keysS es)[i] ∈ keysS es := List.getElem_mem h
  have h2 : (keysS es)[i] ∈ keysB es := (List.mergeSort_perm (keysB es) leB).mem_iff.1 h1
  rw [keysB_eq] at h2
  obtain ⟨k, hk, he⟩ := List.mem_map.1 h2
  unfold nameAt
  have e : (keysS es).getD i [] = (keysS es)[i] := by simp [List.getD, h]
  rw [e, ← he]
  exact hk
theorem keys_names {es es' : List (ByteArray × Fl)} (h : keys es' = keys es) (hn : ∀ p ∈ es, p.1.size ≤ 32) : ∀ p ∈ es', p.1.size ≤ 32 := by
  intro p hp
  have h1 : p.1 ∈ keys es := by rw [← h]; exact List.mem_map.2 ⟨p, hp, rfl⟩
  obtain ⟨q, hq, he⟩ := List.mem_map.1 h1
  have := hn q hq
  rw [← he]
  exact this
def fileOf (es : List (ByteArray × Fl)) (n : ByteArray) : Fl := (Sx.look es n).getD f0
theorem fileOf_put (es : List (ByteArray × Fl)) (k n : ByteArray) (f : Fl) : fileOf (Sx.put es k f) n = if k = n then f else fileOf es n := by
  unfold fileOf
  rw [look_put]
  split <;> rfl
/-- The disk whose files are synced before place i, where the place is even. -/
structure Synced (D E : Dsk) (i : Nat) : Prop where
  live : Live E
  keys : keys E.es = keys D.es
  bytes : ∀ n, (fileOf E.es n).b = (fileOf D.es n).b
  safe : ∀ j, j < i → j % 2 = 0 → (fileOf E.es (nameAt (keysS D.es) j)).safe = (fileOf E.es (nameAt (keysS D.es) j)).b.length
theorem Synced.start {D : Dsk} (h : Live D) : Synced D D 0 := ⟨h, rfl, fun _ => rfl, fun j hj => absurd hj (by omega)⟩
theorem Synced.step {D E : Dsk} {i : Nat} (h : Synced D E i) (he : i % 2 = 0) (hi : i < (keysS D.es).length) : ∃ E', E.sync (nameAt (keysS D.es) i) = (0, E') ∧ Synced D E' (i + 2) := by
  have hm := nameAt_mem hi
  rw [← h.keys] at hm
  obtain ⟨f, hf⟩ := look_some hm
  have h0 : E.isE (nameAt (keysS D.es) i) = 0 := by
    unfold Dsk.isE
    rw [h.live.dead, hf]
    rfl
  refine ⟨{ E with es := Sx.put E.es (nameAt (keysS D.es) i) ⟨(E.file (nameAt (keysS D.es) i)).b, (E.file (nameAt (keysS D.es) i)).b.length⟩ }, by unfold Dsk.sync; rw [if_pos h0, done_live h.live.cut], ⟨h.live.dead, h.live.cut⟩, ?_, fun n => ?_, fun j hj hj2 => ?_⟩
  · exact (put_keys hm).trans h.keys
  · dsimp only
    rw [fileOf_put]
    split
    · rename_i e
      rw [← h.bytes n, ← e]
      rfl
    · exact h.bytes n
  · dsimp only
    rw [fileOf_put]
    split
    · rfl
    · rename_i e
      refine h.safe j ?_ hj2
      rcases Nat.lt_or_ge j i with h1 | h1
      · exact h1
      · obtain rfl : j = i := by omega
        exact absurd rfl e
/-- What a crash leaves of a file. -/
def Left (f' f : Fl) : Prop := (∃ k, f'.b = f.b.take k) ∧ (f.safe = f.b.length → f' = f)
theorem Left.crF {f' f : Fl} (h : Left f' f) (keep : List Int) (i : Nat) : Left (Dk.crF keep i f') f := by
  obtain ⟨⟨k, hk⟩, h2⟩ := h
  refine ⟨⟨min (crEnd keep i f').toNat k, ?_⟩, fun hs => ?_⟩
  · unfold Dk.crF
    dsimp only
    rw [hk, List.take_take]
  · rw [h2 hs]
    have e : (crEnd keep i f).toNat = f.b.length := by
      unfold crEnd
      rw [hs]
      split <;> omega
    unfold Dk.crF
    rw [e, List.take_length, ← hs]
theorem crN_left (keep : List Int) (ns : List (List UInt8)) (es : List (ByteArray × Fl)) : ∀ i n, Left (fileOf (crN keep ns es i) n) (fileOf es n)
  | 0, n => ⟨⟨(fileOf es n).b.length, by show (fileOf es n).b = _; rw [List.take_length]⟩, fun _ => rfl⟩
  | i + 1, n => by
    unfold crN
    rw [fileOf_put]
    split
    · rename_i e
      have := (crN_left keep ns es i n).crF keep i
      rw [e]
      exact this
    · exact crN_left keep ns es i n
theorem crN_keys (keep : List Int) (es : List (ByteArray × Fl)) : ∀ i, i ≤ (keysS es).length → keys (crN keep (keysS es) es i) = keys es
  | 0, _ => rfl
  | i + 1, h => by
    unfold crN
    have ih := crN_keys keep es i (by omega)
    have hm := nameAt_mem (es := es) (i := i) (by omega)
    rw [← ih] at hm
    rw [put_keys hm, ih]
/-- The disk behind syncs and a crash. -/
theorem crashed {D E : Dsk} {m : Nat} (hLD : Live D) (h : Synced D E m) (hm : (keysS D.es).length ≤ m) (hn : Names D) (keep : List Int) :
    Live (E.crash keep) ∧ Names (E.crash keep) ∧ (E.crash keep).list = keysS D.es ∧ (∀ n, ((E.crash keep).file n).b.length ≤ (D.file n).b.length) ∧
    ∀ i, i < (keysS D.es).length → ∃ Y, (E.crash keep).read (nameAt (keysS D.es) i) = (Y, 0) ∧ D.read (nameAt (keysS D.es) i) = ((D.file (nameAt (keysS D.es) i)).b, 0) ∧ Y = (D.file (nameAt (keysS D.es) i)).b.take Y.length ∧ Y.length ≤ (D.file (nameAt (keysS D.es) i)).b.length ∧ (i % 2 = 0 → Y.length = (D.file (nameAt (keysS D.es) i)).b.length) := by
  have hk0 : keysS E.es = keysS D.es := keysS_eq h.keys
  have hk : keys (E.crash keep).es = keys D.es := (crN_keys keep E.es _ (by rw [keysS_len]; omega)).trans h.keys
  have hL : ∀ n, Left (fileOf (E.crash keep).es n) (fileOf E.es n) := fun n => crN_left keep _ _ _ n
  have hlen : ∀ n, ((E.crash keep).file n).b.length ≤ (D.file n).b.length := fun n => by
    obtain ⟨⟨k, hk⟩, _⟩ := hL n
    have : ((E.crash keep).file n).b = (fileOf E.es n).b.take k := hk
    rw [this, h.bytes n, List.length_take]
    exact Nat.min_le_right _ _
  refine ⟨⟨rfl, rfl⟩, ⟨keys_names hk hn.1, by rw [keys_len hk]; exact hn.2⟩, ?_, hlen, fun i hi => ?_⟩
  · show keysS (E.crash keep).es = _
    exact keysS_eq hk
  · have hm' := nameAt_mem hi
    have hm2 := hm'
    rw [← hk] at hm2
    obtain ⟨f, hf⟩ := look_some hm2
    have h0 : (E.crash keep).isE (nameAt (keysS D.es) i) = 0 := by
      unfold Dsk.isE
      rw [hf]
      rfl
    have hb := h.bytes (nameAt (keysS D.es) i)
    obtain ⟨⟨k, hk⟩, hs⟩ := hL (nameAt (keysS D.es) i)
    have hl := hlen (nameAt (keysS D.es) i)
    refine ⟨((E.crash keep).file (nameAt (keysS D.es) i)).b, ?_, ?_, ?_, hl, fun hi2 => ?_⟩
    · unfold Dsk.read
      rw [if_pos h0]
    · obtain ⟨g, hg⟩ := look_some hm'
      have h1 : D.isE (nameAt (keysS D.es) i) = 0 := by
        unfold Dsk.isE
        rw [hLD.dead, hg]
        rfl
      unfold Dsk.read
      rw [if_pos h1]
    · have e : ((E.crash keep).file (nameAt (keysS D.es) i)).b = (D.file (nameAt (keysS D.es) i)).b.take k := by
        refine Eq.trans hk ?_
        rw [hb]
        rfl
      rw [e, List.length_take, ← List.take_take]
      simp
    · have := hs (h.safe i (by omega) hi2)
      have e : (E.crash keep).file (nameAt (keysS D.es) i) = fileOf E.es (nameAt (keysS D.es) i) := this
      rw [e, hb]
      rfl
end Dk
end Go.Proofs.Ytgcklcpbmlibdaa
