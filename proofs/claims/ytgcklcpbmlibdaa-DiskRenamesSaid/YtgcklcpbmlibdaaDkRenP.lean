/- DiskRenames: the plain law: one file goes from name to name, perhaps beside another. -/
import Derived.Test.YtgcklcpbmlibdaaDkKeepsP
import Derived.Test.YtgcklcpbmlibdaaDkTrunc
namespace Go.Proofs.Ytgcklcpbmlibdaa
namespace Dk
open Go Sx
def nZ : ByteArray := ⟨#[122]⟩
def fZ : Fl := ⟨[97, 110, 111, 116, 104, 101, 114], 0⟩
def DR (es : List (ByteArray × Fl)) : Dsk := ⟨es, 1048576, -1, false⟩
def Shape (n : ByteArray) (F Z : Fl) (es : List (ByteArray × Fl)) : Prop := es = [(n, F)] ∨ (n ≠ nZ ∧ (es = [(n, F), (nZ, Z)] ∨ es = [(nZ, Z), (n, F)]))
theorem Shape.look {n : ByteArray} {F Z : Fl} {es : List (ByteArray × Fl)} (h : Shape n F Z es) : Sx.look es n = some F := by
  rcases h with rfl | ⟨hn, rfl | rfl⟩
  · simp [Sx.look]
  · simp [Sx.look]
  · simp [Sx.look, Ne.symm hn]
theorem ren {n t : ByteArray} {F Z : Fl} {es : List (ByteArray × Fl)} (h : Shape n F Z es) (ho : nameOk t = true) : ∃ es', (DR es).rename n t = (0, DR es') ∧ Shape t F Z es' := by
  have hl := h.look
  have h0 : (DR es).isE n = 0 := by
    unfold Dsk.isE DR
    dsimp only
    rw [hl]
    rfl
  have hf : (DR es).file n = F := by
    unfold Dsk.file DR
    dsimp only
    rw [hl]
    rfl
  refine ⟨Sx.put (Sx.del es n) t F, ?_, ?_⟩
  · unfold Dsk.rename
    rw [if_pos h0, if_pos ho, hf]
    rfl
  · rcases h with rfl | ⟨hn, rfl | rfl⟩
    · exact .inl (by simp [Sx.del, Sx.put])
    · have e : Sx.del [(n, F), (nZ, Z)] n = [(nZ, Z)] := by simp [Sx.del]
      rw [e]
      by_cases ht : t = nZ
      · subst ht
        exact .inl (by simp [Sx.put])
      · exact .inr ⟨ht, .inr (by simp [Sx.put, Ne.symm ht])⟩
    · have e : Sx.del [(nZ, Z), (n, F)] n = [(nZ, Z)] := by simp [Sx.del, Ne.symm hn]
      rw [e]
      by_cases ht : t = nZ
      · subst ht
        exact .inl (by simp [Sx.put])
      · exact .inr ⟨ht, .inr (by simp [Sx.put, Ne.symm ht])⟩
theorem start_shape (F : Fl) (h : F.b.length ≤ 3000) : (D1 F).append nZ fZ.b = (0, DR [(nF, F), (nZ, fZ)]) := by
  have e1 : (D1 F).file nZ = f0 := by unfold Dsk.file D1; simp [Sx.look, nF, nZ]
  unfold Dsk.append Dsk.full
  rw [e1, D1_used]
  rw [show (D1 F).dead = false from rfl, show (D1 F).room = 1048576 from rfl, show nameOk nZ = true by decide]
  rw [decide_eq_false (by simp [f0, fZ]), decide_eq_false (by simp [fZ]; omega)]
  simp [D1, DR, Dsk.done, Sx.put, f0, nF, nZ, fZ]
theorem perm2 {α : Type} {x y : α} (hne : x ≠ y) {l : List α} (h : l.Perm [x, y]) : l = [x, y] ∨ l = [y, x] := by
  have hl := h.length_eq
  have hnd : l.Nodup := h.nodup_iff.2 (by simp [hne])
  rcases l with _ | ⟨a, _ | ⟨b, _ | ⟨c, l⟩⟩⟩
  · simp at hl
  · simp at hl
  · have ha : a ∈ [x, y] := h.mem_iff.1 (by simp)
    have hb : b ∈ [x, y] := h.mem_iff.1 (by simp)
    have hab : a ≠ b := by simpa using hnd
    simp only [List.mem_cons, List.not_mem_nil, or_false] at ha hb
    rcases ha with rfl | rfl <;> rcases hb with rfl | rfl
    · exact absurd rfl hab
    · exact .inl rfl
    · exact .inr rfl
    · exact absurd rfl hab
  · simp at hl
theorem ba_list {x y : ByteArray} (h : x.data.toList = y.data.toList) : x = y := by
  obtain ⟨⟨x⟩⟩ := x
  obtain ⟨⟨y⟩⟩ := y
  have : x = y := h
  rw [this]
theorem ba_back (x : ByteArray) : (⟨x.data.toList.toArray⟩ : ByteArray) = x := by
  obtain ⟨⟨x⟩⟩ := x
  rfl
/-- Where the file's name stands among all names. -/
theorem shape_keys {n : ByteArray} {F Z : Fl} {es : List (ByteArray × Fl)} (h : Shape n F Z es) : ∃ m k, (keysS es).length = m ∧ ((m = 1 ∧ k = 0) ∨ (m = 2 ∧ k = 0) ∨ (m = 2 ∧ k = 1)) ∧ ∀ j, j < m → (nameAt (keysS es) j = n ↔ j = k) := by
  have two : n ≠ nZ → ((keysB es).Perm [n.data.toList, nZ.data.toList]) → ∃ m k, (keysS es).length = m ∧ ((m = 1 ∧ k = 0) ∨ (m = 2 ∧ k = 0) ∨ (m = 2 ∧ k = 1)) ∧ ∀ j, j < m → (nameAt (keysS es) j = n ↔ j = k) := by
    intro hn hp
    have hp2 : (keysS es).Perm [n.data.toList, nZ.data.toList] := (List.mergeSort_perm (keysB es) leB).trans hp
    rcases perm2 (fun e => hn (ba_list e)) hp2 with e | e
    · refine ⟨2, 0, by rw [e]; rfl, .inr (.inl ⟨rfl, rfl⟩), fun j hj => ?_⟩
      rw [e]
      rcases j with _ | _ | j
      · exact ⟨fun _ => rfl, fun _ => ba_back n⟩
      · refine ⟨fun e2 => absurd ?_ hn, fun e2 => by omega⟩
        exact e2.symm.trans (ba_back nZ)
      · omega
    · refine ⟨2, 1, by rw [e]; rfl, .inr (.inr ⟨rfl, rfl⟩), fun j hj => ?_⟩
      rw [e]
      rcases j with _ | _ | j
      · refine ⟨fun e2 => absurd ?_ hn, fun e2 => by omega⟩
        exact e2.symm.trans (ba_back nZ)
      · exact ⟨fun _ => rfl, fun _ => ba_back n⟩
      · omega
  rcases h with rfl | ⟨hn, rfl | rfl⟩
  · have e : keysS [(n, F)] = [n.data.toList] := by unfold keysS keysB; simp
    refine ⟨1, 0, by rw [e]; rfl, .inl ⟨rfl, rfl⟩, fun j hj => ?_⟩
    rw [e]
    obtain rfl : j = 0 := by omega
    exact ⟨fun _ => rfl, fun _ => ba_back n⟩
  · exact two hn (List.Perm.refl _)
  · exact two hn (List.Perm.swap _ _ _)
theorem crN_at (keep : List Int) (ns : List (List UInt8)) (es : List (ByteArray × Fl)) (n : ByteArray) (k m : Nat) (hu : ∀ j, j < m → (nameAt ns j = n ↔ j = k)) : ∀ i, i ≤ m → fileOf (crN keep ns es i) n = if k < i then crF keep k (fileOf es n) else fileOf es n
  | 0, _ => by rw [if_neg (Nat.not_lt_zero _)]; rfl
  | i + 1, h => by
    have ih := crN_at keep ns es n k m hu i (by omega)
    unfold crN
    rw [fileOf_put]
    by_cases hi : nameAt ns i = n
    · have hk := (hu i (by omega)).1 hi
      subst hk
      rw [if_pos hi, if_pos (Nat.lt_succ_self _)]
      rw [if_neg (Nat.lt_irrefl _)] at ih
      show crF keep i (fileOf (crN keep ns es i) (nameAt ns i)) = _
      rw [hi, ih]
    · have hk : i ≠ k := fun e => hi ((hu i (by omega)).2 e)
      rw [if_neg hi, ih]
      by_cases hki : k < i
      · rw [if_pos hki, if_pos (by omega)]
      · rw [if_neg hki, if_neg (by omega)]
/-- What is read behind the crash. -/
theorem ren_crash {n : ByteArray} {a b : List UInt8} {Z : Fl} {es : List (ByteArray × Fl)} (h : Shape n ⟨a ++ b, a.length⟩ Z es) (m k : Nat) (hm : (keysS es).length = m) (hkm : k < m) (hu : ∀ j, j < m → (nameAt (keysS es) j = n ↔ j = k)) (keep : List Int) (hkl : keep.length = m) (K : Nat) (hK : keep.getD k 0 = (K : Int)) (hKb : K ≤ b.length) :
    ((DR es).crash keep).read n = (a ++ b.take K, 0) ∧ ((DR es).crash keep).file n = ⟨a ++ b.take K, a.length + K⟩ := by
  have hl := h.look
  have hes : es.length = m := by rw [← hm, keysS_len]
  have hfo : fileOf es n = ⟨a ++ b, a.length⟩ := by unfold fileOf; rw [hl]; rfl
  have h1 := crN_at keep (keysS es) es n k m hu m (Nat.le_refl _)
  rw [if_pos hkm, hfo] at h1
  have hend : (crEnd keep k ⟨a ++ b, a.length⟩).toNat = a.length + K := by
    unfold crEnd
    rw [if_pos (by omega), hK]
    dsimp only
    rw [List.length_append]
    omega
  have hcr : crF keep k ⟨a ++ b, a.length⟩ = ⟨a ++ b.take K, a.length + K⟩ := by
    unfold crF
    rw [hend]
    dsimp only
    rw [List.take_append, List.take_of_length_le (by omega : a.length ≤ a.length + K)]
    simp
  rw [hcr] at h1
  have hfile : ((DR es).crash keep).file n = ⟨a ++ b.take K, a.length + K⟩ := by
    show fileOf (crN keep (keysS es) es es.length) n = _
    rw [hes]
    exact h1
  refine ⟨?_, hfile⟩
  have hmem : n ∈ keys ((DR es).crash keep).es := by
    show n ∈ keys (crN keep (keysS es) es es.length)
    rw [crN_keys keep es _ (by rw [keysS_len]; exact Nat.le_refl _)]
    have := nameAt_mem (es := es) (i := k) (by omega)
    rwa [(hu k hkm).2 rfl] at this
  obtain ⟨f, hf⟩ := look_some hmem
  have h0 : ((DR es).crash keep).isE n = 0 := by
    unfold Dsk.isE
    rw [hf]
    rfl
  unfold Dsk.read
  rw [if_pos h0, hfile]
theorem Shape.small {n : ByteArray} {F Z : Fl} {es : List (ByteArray × Fl)} (h : Shape n F Z es) (hF : F.b.length ≤ 1000000) (hZ : Z.b.length ≤ 1000000) : Small es := by
  refine small1 fun p hp => ?_
  rcases h with rfl | ⟨_, rfl | rfl⟩ <;> simp only [List.mem_cons, List.not_mem_nil, or_false] at hp
  · subst hp; dsimp only; omega
  · rcases hp with rfl | rfl <;> dsimp only <;> omega
  · rcases hp with rfl | rfl <;> dsimp only <;> omega
theorem Shape.names {n : ByteArray} {F Z : Fl} {es : List (ByteArray × Fl)} (h : Shape n F Z es) (hn : nameOk n = true) : Names (DR es) := by
  have h1 := nameOk_size hn
  have h2 : nZ.size ≤ 32 := by decide
  refine ⟨fun p hp => ?_, ?_⟩
  · have hp : p ∈ es := hp
    rcases h with rfl | ⟨_, rfl | rfl⟩ <;> simp only [List.mem_cons, List.not_mem_nil, or_false] at hp
    · subst hp; exact h1
    · rcases hp with rfl | rfl
      · exact h1
      · exact h2
    · rcases hp with rfl | rfl
      · exact h2
      · exact h1
  · show es.length ≤ 1000000
    rcases h with rfl | ⟨_, rfl | rfl⟩ <;> simp
end Dk
end Go.Proofs.Ytgcklcpbmlibdaa
