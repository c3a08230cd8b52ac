/- DiskKeeps: the plain law: syncs and a crash keep the names, and of each file a beginning. -/
import Derived.Test.YtfocnbmihcnaoaaGreatDoorWDkPlain
namespace Go.Proofs.YtfocnbmihcnaoaaGreatDoor
namespace Dk
open Go Sx
structure Live (d : Dsk) : Prop where
  dead : d.dead = false
  cut : d.cut = -1
theorem done_live {d : Dsk} {es : List (ByteArray × Fl)} (h : d.cut = -1) : Dsk.done { d with es := es } = { d with es := es } := by
  unfold Dsk.done
  rw [if_neg (by show ¬ 0 < d.cut; omega)]
def keys (es : List (ByteArray × Fl)) : List ByteArray := es.map (·.1)
theorem look_some {n : ByteArray} : ∀ {es : List (ByteArray × Fl)}, n ∈ keys es → ∃ f, Sx.look es n = some f
  | q :: es, h => by
    unfold Sx.look
    by_cases hq : q.1 = n
    · exact ⟨_, by rw [if_pos hq]⟩
    · rw [if_neg hq]
      rcases List.mem_cons.1 h with h | h
      · exact absurd h.symm hq
      · exact look_some h
theorem put_keys {n : ByteArray} {f : Fl} : ∀ {es : List (ByteArray × Fl)}, n ∈ keys es → keys (Sx.put es n f) = keys es
  | q :: es, h => by
    unfold Sx.put
    by_cases hq : q.1 = n
    · rw [if_pos hq]
      show n :: keys es = q.1 :: keys es
      rw [hq]
    · rw [if_neg hq]
      rcases List.mem_cons.1 h with h | h
      · exact absurd h.symm hq
      · show q.1 :: keys (Sx.put es n f) = q.1 :: keys es
        rw [put_keys h]
theorem keysB_eq (es : List (ByteArray × Fl)) : keysB es = (keys es).map fun k => k.data.toList := by unfold keysB keys; rw [List.map_map]; rfl
theorem keysS_eq {es es' : List (ByteArray × Fl)} (h : keys es' = keys es) : keysS es' = keysS es := by unfold keysS; rw [keysB_eq, keysB_eq, h]
theorem keys_len {es es' : List (ByteArray × Fl)} (h : keys es' = keys es) : es'.length = es.length := by
  have := congrArg List.length h
  simpa [keys] using this
theorem nameAt_mem {es : List (ByteArray × Fl)} {i : Nat} (h : i < (keysS es).length) : nameAt (keysS es) i ∈ keys es := by
  have h1 : (keysS es)[i] ∈ keysS es := List.getElem_mem h
  have h2 : (keysS es)[i] ∈ keysB es := (List.mergeSort_perm (keysB es) leB).mem_iff.1 h1
  rw [keysB_eq] at h2
  obtain ⟨k, hk, he⟩ := List.mem_map.1 h2
  unfold nameAt
  have e : (keysS es).getD i [] = (keysS es)[i] := by simp [List.getD, h]
  rw [e, ← he]
  exact hk
theorem keys_names {es es' : List (ByteArray × Fl)} (h : keys es' = keys es) (hn : ∀ p ∈ es, p.1.size ≤ 32) : ∀ p ∈ es', p.1.size ≤ 32 := by
  intro p hp
  have h1 : p.1 ∈ keys es := by rw [← h]; exact List.mem_map.2 ⟨p, hp, rfl⟩
  obtain ⟨q, hq, he⟩ := List.mem_map.1 h1
  have := hn q hq
  rw [← he]
  exact this
def fileOf (es : List (ByteArray × Fl)) (n : ByteArray) : Fl := (Sx.look es n).getD f0
theorem fileOf_put (es : List (ByteArray × Fl)) (k n : ByteArray) (f : Fl) : fileOf (Sx.put es k f) n = if k = n then f else fileOf es n := by
  unfold fileOf
  rw [look_put]
  split <;> rfl
/-- The disk whose files are synced before place i, where the place is even. -/
def Left (f' f : Fl) : Prop := (∃ k, f'.b = f.b.take k) ∧ (f.safe = f.b.length → f' = f)
theorem Left.crF {f' f : Fl} (h : Left f' f) (keep : List Int) (i : Nat) : Left (Dk.crF keep i f') f := by
  obtain ⟨⟨k, hk⟩, h2⟩ := h
  refine ⟨⟨min (crEnd keep i f').toNat k, ?_⟩, fun hs => ?_⟩
  · unfold Dk.crF
    dsimp only
    rw [hk, List.take_take]
  · rw [h2 hs]
    have e : (crEnd keep i f).toNat = f.b.length := by
      unfold crEnd
      rw [hs]
      split <;> omega
    unfold Dk.crF
    rw [e, List.take_length, ← hs]
theorem crN_left (keep : List Int) (ns : List (List UInt8)) (es : List (ByteArray × Fl)) : ∀ i n, Left (fileOf (crN keep ns es i) n) (fileOf es n)
  | 0, n => ⟨⟨(fileOf es n).b.length, by show (fileOf es n).b = _; rw [List.take_length]⟩, fun _ => rfl⟩
  | i + 1, n => by
    unfold crN
    rw [fileOf_put]
    split
    · rename_i e
      have := (crN_left keep ns es i n).crF keep i
      rw [e]
      exact this
    · exact crN_left keep ns es i n
theorem crN_keys (keep : List Int) (es : List (ByteArray × Fl)) : ∀ i, i ≤ (keysS es).length → keys (crN keep (keysS es) es i) = keys es
  | 0, _ => rfl
  | i + 1, h => by
    unfold crN
    have ih := crN_keys keep es i (by omega)
    have hm := nameAt_mem (es := es) (i := i) (by omega)
    rw [← ih] at hm
    rw [put_keys hm, ih]
/-- A crash leaves what was synced, and a beginning of the rest. -/
def Left2 (f' f : Fl) : Prop := f.safe ≤ f'.safe ∧ f'.safe ≤ f'.b.length ∧ ∃ k, f'.b = f.b.take k
theorem Left2.crF {f' f : Fl} (h : Left2 f' f) (keep : List Int) (i : Nat) : Left2 (Dk.crF keep i f') f := by
  obtain ⟨h1, h2, k, hk⟩ := h
  have e1 : f'.safe ≤ (crEnd keep i f').toNat ∧ (crEnd keep i f').toNat ≤ f'.b.length := by
    unfold crEnd
    split <;> omega
  refine ⟨Nat.le_trans h1 e1.1, ?_, min (crEnd keep i f').toNat k, ?_⟩
  · unfold Dk.crF
    dsimp only
    rw [List.length_take]
    omega
  · unfold Dk.crF
    dsimp only
    rw [hk, List.take_take]
theorem crN_left2 (keep : List Int) (ns : List (List UInt8)) (es : List (ByteArray × Fl)) (n : ByteArray) (hs : (fileOf es n).safe ≤ (fileOf es n).b.length) : ∀ i, Left2 (fileOf (crN keep ns es i) n) (fileOf es n)
  | 0 => ⟨Nat.le_refl _, hs, (fileOf es n).b.length, by show (fileOf es n).b = _; rw [List.take_length]⟩
  | i + 1 => by
    unfold crN
    rw [fileOf_put]
    split
    · rename_i e
      have := (crN_left2 keep ns es n hs i).crF keep i
      rw [e]
      exact this
    · exact crN_left2 keep ns es n hs i
end Dk
end Go.Proofs.YtfocnbmihcnaoaaGreatDoor
