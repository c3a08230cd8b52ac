/- Plain: one long text, forwards and backwards. -/
import Derived.Test.YtmammcgdjjldbaaSqO
namespace Go.Proofs.Ytmammcgdjjldbaa
set_option maxRecDepth 100000
namespace Sq
/-- The i-th unit (from 0), forwards. -/
def fu (i : Nat) : Un := ⟨(1, i + 1), if i = 0 then (0, 0) else (1, i), (0, 0)⟩
def bu (i : Nat) : Un := ⟨(1, i + 1), (0, 0), if i = 0 then (0, 0) else (1, i)⟩
/-- From the i-th on, so many more. -/
def fw (i : Nat) : Nat → Fo
  | 0 => .nd (fu i) .nil .nil .nil
  | m + 1 => .nd (fu i) .nil (fw (i + 1) m) .nil
def bw (i : Nat) : Nat → Fo
  | 0 => .nd (bu i) .nil .nil .nil
  | m + 1 => .nd (bu i) (bw (i + 1) m) .nil .nil
theorem fw_flat : ∀ (m i : Nat), (fw i m).flat = (List.range (m + 1)).map fun q => fu (i + q)
  | 0, i => rfl
  | m + 1, i => by
    show [] ++ fu i :: (fw (i + 1) m).flat ++ [] = _
    rw [fw_flat m (i + 1), List.range_succ_eq_map (n := m + 1), List.map_cons, List.map_map, List.append_nil, List.nil_append]
    congr 1
    refine List.map_congr_left fun q _ => ?_
    show fu (i + 1 + q) = fu (i + (q + 1))
    congr 1
    omega
theorem mod_nd (k : Id) (f g : Fo → Fo) (u : Un) (l r s : Fo) : Fo.mod k f g (.nd u l r s) = if u.id = k then .nd u (f l) (g r) s else .nd u (Fo.mod k f g l) (Fo.mod k f g r) (Fo.mod k f g s) := rfl
theorem mod_nil (k : Id) (f g : Fo → Fo) : Fo.mod k f g .nil = .nil := rfl
theorem fu_ne {i m : Nat} : (fu i).id ≠ (fu (i + (m + 1))).id := fun e => by
  have h1 : i + 1 = i + (m + 1) + 1 := congrArg Prod.snd e
  omega
theorem bu_ne {i m : Nat} : (bu i).id ≠ (bu (i + (m + 1))).id := fun e => by
  have h1 : i + 1 = i + (m + 1) + 1 := congrArg Prod.snd e
  omega
theorem fw_next : ∀ (m i : Nat) (p : Un → Bool), Fo.mod (fu (i + m)).id id (Fo.insBy p (fu (i + m + 1))) (fw i m) = fw i (m + 1)
  | 0, i, p => by
    show Fo.mod (fu i).id id (Fo.insBy p (fu (i + 1))) (.nd (fu i) .nil .nil .nil) = _
    rw [mod_nd, if_pos rfl]
    rfl
  | m + 1, i, p => by
    show Fo.mod (fu (i + (m + 1))).id id (Fo.insBy p (fu (i + (m + 1) + 1))) (.nd (fu i) .nil (fw (i + 1) m) .nil) = .nd (fu i) .nil (fw (i + 1) (m + 1)) .nil
    rw [mod_nd, if_neg fu_ne, mod_nil]
    have e : i + (m + 1) = i + 1 + m := by omega
    rw [e, fw_next m (i + 1) p]
theorem bw_next : ∀ (m i : Nat) (p : Un → Bool), Fo.mod (bu (i + m)).id (Fo.insBy p (bu (i + m + 1))) id (bw i m) = bw i (m + 1)
  | 0, i, p => by
    show Fo.mod (bu i).id (Fo.insBy p (bu (i + 1))) id (.nd (bu i) .nil .nil .nil) = _
    rw [mod_nd, if_pos rfl]
    rfl
  | m + 1, i, p => by
    show Fo.mod (bu (i + (m + 1))).id (Fo.insBy p (bu (i + (m + 1) + 1))) id (.nd (bu i) (bw (i + 1) m) .nil .nil) = .nd (bu i) (bw (i + 1) (m + 1)) .nil .nil
    rw [mod_nd, if_neg bu_ne, mod_nil]
    have e : i + (m + 1) = i + 1 + m := by omega
    rw [e, bw_next m (i + 1) p]
theorem fw_ids (m : Nat) : (fw 0 m).ids = (List.range (m + 1)).map fun q => (1, q + 1) := by
  unfold Fo.ids
  rw [fw_flat, List.map_map]
  refine List.map_congr_left fun q _ => ?_
  show (fu (0 + q)).id = _
  rw [Nat.zero_add]
  rfl
theorem bw_flat : ∀ (m i : Nat), (bw i m).flat = ((List.range (m + 1)).map fun q => bu (i + q)).reverse
  | 0, i => rfl
  | m + 1, i => by
    show (bw (i + 1) m).flat ++ bu i :: [] ++ [] = _
    rw [bw_flat m (i + 1), List.range_succ_eq_map (n := m + 1), List.map_cons, List.map_map, List.append_nil, List.reverse_cons]
    congr 1
    congr 1
    refine List.map_congr_left fun q _ => ?_
    show bu (i + 1 + q) = bu (i + (q + 1))
    congr 1
    omega
theorem bw_ids (m : Nat) : (bw 0 m).ids = ((List.range (m + 1)).map fun q => ((1, q + 1) : Id)).reverse := by
  unfold Fo.ids
  rw [bw_flat, List.map_reverse, List.map_map]
  congr 1
  refine List.map_congr_left fun q _ => ?_
  show (bu (0 + q)).id = _
  rw [Nat.zero_add]
  rfl
theorem mem_seg {m : Nat} {k : Id} : k ∈ (List.range (m + 1)).map (fun q => ((1, q + 1) : Id)) ↔ k.1 = 1 ∧ 1 ≤ k.2 ∧ k.2 ≤ m + 1 := by
  rw [List.mem_map]
  constructor
  · rintro ⟨q, hq, rfl⟩
    rw [List.mem_range] at hq
    exact ⟨rfl, by show 1 ≤ q + 1; omega, by show q + 1 ≤ m + 1; omega⟩
  · rintro ⟨h1, h2, h3⟩
    exact ⟨k.2 - 1, List.mem_range.2 (by omega), Prod.ext h1.symm (by show k.2 - 1 + 1 = k.2; omega)⟩
theorem fw_put (m : Nat) : Fo.put (fw 0 m) (fu (m + 1)) = fw 0 (m + 1) := by
  have hl : (fu (m + 1)).l ∈ (fw 0 m).ids := by
    rw [fw_ids, mem_seg]
    exact ⟨rfl, by show 1 ≤ m + 1; omega, Nat.le_refl _⟩
  have hr : (fu (m + 1)).r ∉ (fw 0 m).ids := by
    rw [fw_ids, mem_seg]
    rintro ⟨h, _⟩
    cases h
  have hL : Fo.isL (fw 0 m) (fu (m + 1)) = false := by unfold Fo.isL; rw [decide_eq_false hr]; rfl
  unfold Fo.put
  rw [hL, if_neg (by simp), if_pos hl]
  have := fw_next m 0 (fun a => Fo.ahead (fw 0 m) a (fu (m + 1)))
  rw [Nat.zero_add] at this
  exact this
theorem bw_put (m : Nat) : Fo.put (bw 0 m) (bu (m + 1)) = bw 0 (m + 1) := by
  have hr : (bu (m + 1)).r ∈ (bw 0 m).ids := by
    rw [bw_ids, List.mem_reverse, mem_seg]
    exact ⟨rfl, by show 1 ≤ m + 1; omega, Nat.le_refl _⟩
  have hl : (bu (m + 1)).l ∉ (bw 0 m).ids := by
    rw [bw_ids, List.mem_reverse, mem_seg]
    rintro ⟨h, _⟩
    cases h
  have hL : Fo.isL (bw 0 m) (bu (m + 1)) = true := by unfold Fo.isL; rw [decide_eq_true hr, decide_eq_false hl]; rfl
  unfold Fo.put
  rw [if_pos hL]
  have := bw_next m 0 (fun a => Fo.lt a.id (bu (m + 1)).id)
  rw [Nat.zero_add] at this
  exact this
theorem fw_may {m : Nat} (hm : m + 2 ≤ 9007199254740991) : Fo.may (fw 0 m) (fu (m + 1)) = true := by
  refine Fo.may_iff.2 ⟨⟨?_, ?_, .inr ?_, .inl rfl⟩, .inr (.inl rfl)⟩
  · unfold Fo.rightId Fo.num fu
    simp only [Bool.and_eq_true, decide_eq_true_eq]
    omega
  · rw [fw_ids, mem_seg]
    rintro ⟨_, _, h⟩
    have : m + 1 + 1 ≤ m + 1 := h
    omega
  · rw [fw_ids, mem_seg]
    exact ⟨rfl, by show 1 ≤ m + 1; omega, Nat.le_refl _⟩
theorem bw_may {m : Nat} (hm : m + 2 ≤ 9007199254740991) : Fo.may (bw 0 m) (bu (m + 1)) = true := by
  refine Fo.may_iff.2 ⟨⟨?_, ?_, .inl rfl, .inr ?_⟩, .inl rfl⟩
  · unfold Fo.rightId Fo.num bu
    simp only [Bool.and_eq_true, decide_eq_true_eq]
    omega
  · rw [bw_ids, List.mem_reverse, mem_seg]
    rintro ⟨_, _, h⟩
    have : m + 1 + 1 ≤ m + 1 := h
    omega
  · rw [bw_ids, List.mem_reverse, mem_seg]
    exact ⟨rfl, by show 1 ≤ m + 1; omega, Nat.le_refl _⟩
theorem seg_nodup (m : Nat) : ((List.range m).map fun q => ((1, q + 1) : Id)).Nodup := by
  unfold List.Nodup
  rw [List.pairwise_map]
  exact (List.nodup_range (n := m)).imp fun hne h => hne (by have h1 := congrArg Prod.snd h; dsimp only at h1; omega)
theorem fw_pos {m i : Nat} (h : i ≤ m) : (fw 0 m).pos (1, i + 1) = i := by
  unfold Fo.pos
  rw [fw_ids]
  have hl : i < ((List.range (m + 1)).map fun q => ((1, q + 1) : Id)).length := by rw [List.length_map, List.length_range]; omega
  have e : ((List.range (m + 1)).map fun q => ((1, q + 1) : Id))[i] = (1, i + 1) := by rw [List.getElem_map, List.getElem_range]
  rw [← e]
  exact List.Nodup.idxOf_getElem (seg_nodup _) i hl
theorem bw_pos {m i : Nat} (h : i ≤ m) : (bw 0 m).pos (1, i + 1) = m - i := by
  unfold Fo.pos
  rw [bw_ids]
  have hl : m - i < ((List.range (m + 1)).map fun q => ((1, q + 1) : Id)).reverse.length := by rw [List.length_reverse, List.length_map, List.length_range]; omega
  have e : ((List.range (m + 1)).map fun q => ((1, q + 1) : Id)).reverse[m - i] = (1, i + 1) := by
    rw [List.getElem_reverse, List.getElem_map, List.getElem_range, List.length_map, List.length_range]
    have : m + 1 - 1 - (m - i) = i := by omega
    rw [this]
  rw [← e]
  exact List.Nodup.idxOf_getElem ((List.reverse_perm _).nodup_iff.2 (seg_nodup _)) (m - i) hl
theorem fw_sz (m : Nat) : (fw 0 m).sz = m + 1 := by rw [← Fo.ids_len, fw_ids, List.length_map, List.length_range]
theorem bw_sz (m : Nat) : (bw 0 m).sz = m + 1 := by rw [← Fo.ids_len, bw_ids, List.length_reverse, List.length_map, List.length_range]
end Sq
end Go.Proofs.Ytmammcgdjjldbaa
