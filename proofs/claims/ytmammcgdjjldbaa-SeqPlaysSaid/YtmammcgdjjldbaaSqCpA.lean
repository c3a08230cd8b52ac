/- Copy: the twins of a row of nodes. -/
import Derived.Test.YtmammcgdjjldbaaSxMapP
import Derived.Test.YtmammcgdjjldbaaSqAll
namespace Go.Proofs.Ytmammcgdjjldbaa
set_option maxRecDepth 100000
namespace Sq
open Go Go.RowKit Sx Tl
def ptr (b : Nat) : Value := .pointer (some ⟨b, 0, none⟩)
/-- The map of twins, in its box. -/
structure TwAt (w : World) (b mb : Nat) (es : List (Option Nat × Nat)) : Prop where
  box : Blk w b [.map (some mb)] 80
  map : SxG.MpAt SxG.kp w mb RP es
  keys : ∀ q ∈ es, SxG.kpV w q.1
theorem kpV_below {w w' : World} {k : Option Nat} (h : SxG.kpV w k) (hb : Below w.heap.size w w') : SxG.kpV w' k := fun q hq => by
  obtain ⟨l, e, h1⟩ := h q hq
  exact ⟨l, e, h1.below hb h1.lt⟩
theorem TwAt.below {w w' : World} {b mb : Nat} {es : List (Option Nat × Nat)} (h : TwAt w b mb es) (hb : Below w.heap.size w w') : TwAt w' b mb es :=
  ⟨h.box.below hb h.box.lt, h.map.mono (hb.block mb h.map.lt) (fun _ _ h => h), fun q hq => kpV_below (h.keys q hq) hb⟩
theorem twKey (w : World) : SxG.KeyW Try.prog 73 SxG.kp (SxG.kpV w) w := SxG.keyPtr w rfl rfl (by decide)
variable {E : Env} {w : World}
attribute [local irreducible] W Lst Qst Pu seqQ blkQ rndQ cutQ retQ Does Enters IntKind.wrap bits sb World.alloc World.putObj Blk
set_option maxHeartbeats 2000000 in
theorem c_twins {τ : Tag} {v : Value} {l : List Id} {b mb : Nat} {es : List (Option Nat × Nat)} (f : Id → Nat) (hT : TwAt w b mb es) (hr : RowAt w E τ v l) (hk : ∀ j ∈ l, SxG.kpV w (some (E.ad j)) ∧ SxG.look es (some (E.ad j)) = some (f j)) (hlen : l.length ≤ 1000000000) :
    Does Try.prog 39 #[v, .pointer (some ⟨b, 0, none⟩)] w fun u w' => w'.ownsRow w.heap.size 73 1 u l.length (l.map fun j => ptr (f j)) ∧ Below w.heap.size w w' := by
  obtain ⟨a, c, rfl, hc, hcell⟩ := hr.at
  refine Does_of (args := [.slice a l.length c, .pointer (some ⟨b, 0, none⟩)]) Try.func39 (by kernel_rfl) rfl rfl rfl rfl rfl ?_
  (refine Ga ?_)
  refine W_loop (α := Nat × Value) (fun s => [(1, .pointer (some ⟨b, 0, none⟩)), (4, s.2), (7, .slice a l.length c), (8, .int .i64 (l.length : Int)), (9, .int .i64 (s.1 : Int))]) (fun s A => s.1 ≤ l.length ∧ A.ownsRow w.heap.size 73 1 s.2 s.1 ((l.take s.1).map fun j => ptr (f j)) ∧ Below w.heap.size w A) (fun s _ => l.length - s.1) (0, .slice none 0 0) ⟨Nat.zero_le _, ⟨rfl, .inl ⟨rfl, rfl⟩⟩, Below.refl _ _⟩ ⟨rfl, rfl, rfl, rfl, rfl, trivial⟩ ?_
  rintro J ⟨i, o⟩ A ⟨hi, ho, hb⟩
  dsimp only at hi ho hb ⊢
  by_cases hil : i < l.length
  · obtain ⟨g, rfl, hci⟩ := hcell i hil
    have hci := cell_below hb hci
    obtain ⟨hkv, hlk⟩ := hk _ (List.getElem_mem hil)
    have hTA := hT.below hb
    have kB := hTA.box
    have hkp : pv E l[i] = SxG.kp (some (E.ad l[i])) := rfl
    have htk : l.take (i + 1) = l.take i ++ [l[i]] := List.take_succ_eq_append_getElem hil
    generalize l[i] = x at *
    unfold pv at hci
    (refine Ga ?_)
    apply SxG.Lst_mapgetW (hk := twKey A) (k := some (E.ad x)) (hmp := hTA.map)
    focus rfl
    focus rfl
    focus rfl
    focus exact kpV_below hkv hb
    focus rfl
    focus exact hTA.keys
    focus rfl
    rintro u there (⟨h1, _⟩ | ⟨q, h1, h2, _⟩)
    · rw [hlk] at h1
      cases h1
    rw [hlk] at h1
    cases h1
    obtain rfl : u = .pointer (some ⟨f x, 0, none⟩) := h2
    (refine Ga ?_)
    (apply Lst_slit; (focus rfl); (focus rfl); (focus rfl); (focus rfl); (focus rfl); (focus rfl); (focus rfl); (focus rfl); (focus rfl); (focus (repeat (first | apply FillO.nil | (apply FillO.cons; (focus constructor); (focus rfl); (focus rfl); (focus (repeat constructor)))))); (focus ((try simp only [Sx.sizes]); first | done | rfl)); (focus rfl))
    obtain ⟨W7, hW7⟩ : ∃ W7, A.alloc (.cells (.pointer (some ⟨f x, 0, none⟩) :: [].append (List.replicate 0 [Value.pointer none]).flatten).toArray 73) = W7 := ⟨_, rfl⟩
    have hW7' : A.alloc (.cells [.pointer (some ⟨f x, 0, none⟩)].toArray 73) = W7 := hW7
    have hb7 : Below A.heap.size A W7 := by rw [← hW7']; exact Bel
    have k7 : Blk W7 A.heap.size [.pointer (some ⟨f x, 0, none⟩)] 73 := by rw [← hW7']; exact (by (repeat (first | assumption | (apply Blk.below (hb := hb1); rotate_left; (focus ((try simp only [Sx.sizes]); omega)); rotate_right) | (apply Blk.below (hb := hb2); rotate_left; (focus ((try simp only [Sx.sizes]); omega)); rotate_right) | (apply Blk.below (hb := hb3); rotate_left; (focus ((try simp only [Sx.sizes]); omega)); rotate_right) | (apply Blk.below (hb := hb4); rotate_left; (focus ((try simp only [Sx.sizes]); omega)); rotate_right) | (apply Blk.below (hb := hb5); rotate_left; (focus ((try simp only [Sx.sizes]); omega)); rotate_right) | (apply Blk.below (hb := hb6); rotate_left; (focus ((try simp only [Sx.sizes]); omega)); rotate_right) | (apply Blk.below (hb := hb7); rotate_left; (focus ((try simp only [Sx.sizes]); omega)); rotate_right) | (apply Blk.below (hb := hb8); rotate_left; (focus ((try simp only [Sx.sizes]); omega)); rotate_right) | (apply Blk.below (hb := hb9); rotate_left; (focus ((try simp only [Sx.sizes]); omega)); rotate_right) | exact Blk.newE (by first | rfl | ((try simp only [Sx.sizes]); first | done | omega)) _ _ | exact Blk.put_same (by (try simp only [Sx.sizes]); first | done | omega) _ _ | (apply Blk.put_ne; (focus omega)) | apply Blk.alloc | apply Blk.drew)); done)
    rw [hW7]
    clear hW7 hW7'
    have ho7 := own_kept ho fun g hg => hb7.block g (own_ltg ho hg)
    apply Lst_appendAt (hown := ho7) (bytes := 8) (news := [ptr (f x)])
    focus rfl
    focus rfl
    focus rfl
    focus rfl
    focus rfl
    focus rfl
    focus rfl
    focus rfl
    focus rfl
    focus (intro j u hu; rw [add_none, Nat.zero_add, k7.cell]; exact hu)
    focus rfl
    focus (intro u hu; rw [List.mem_singleton.1 hu]; rfl)
    focus omega
    focus omega
    focus exact Nat.le_trans hb.size hb7.size
    focus rfl
    intro v' w9 ho9 hg9 _
    have hb9 : Below w.heap.size w w9 := Below.own (hb.trans (hb7.mono hb.size)) ho7 hg9 (Nat.le_refl _) (Nat.le_trans hb.size hb7.size)
    (refine Ga ?_)
    refine rndQ_n (α := Nat × Value) (i + 1, v') ⟨hil, ?_, hb9⟩ ⟨rfl, rfl, rfl, rfl, ?_, trivial⟩ (by dsimp only; omega)
    · dsimp only
      rw [htk, List.map_append]
      exact ho9
    · exact congrArg (Value.int .i64) (by dsimp only; omega)
  · obtain rfl : i = l.length := by omega
    rw [List.take_length] at ho
    obtain ⟨x1, x2, x3, rfl⟩ := own_slice ho
    (refine Ga ?_)
    (apply retQ1; (focus rfl))
    exact ⟨ho, hb⟩
end Sq
end Go.Proofs.Ytmammcgdjjldbaa
