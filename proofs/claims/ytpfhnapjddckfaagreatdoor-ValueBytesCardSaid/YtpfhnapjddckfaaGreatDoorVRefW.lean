/- The walk of quireref2.Write. -/
import Derived.Test.YtpfhnapjddckfaaGreatDoorVWrite
import Derived.Test.YtpfhnapjddckfaaGreatDoorVal6
import Derived.Test.YtpfhnapjddckfaaGreatDoorApp
namespace Go.Proofs.YtpfhnapjddckfaaGreatDoor
set_option maxRecDepth 100000
namespace Val
open Go Go.RowKit Sx Fl Hex Wire
attribute [local irreducible] W Lst Qst Pu seqQ blkQ rndQ cutQ retQ Does Enters IntKind.wrap bits sb World.alloc World.putObj Blk
theorem r_Write (x : Vl) (hok : okV x = true) (hx : x.Fit) (w : World) : Does Tryz.prog 10 #[.slice none 0 0, x.v] w fun v w' => Ints w' .u8 v (nums (wireV x)) ∧ Below w.heap.size w w' := by
  have hkind := ok_kind hok
  have hn0 := hx.n0
  have hn1 := hx.n1
  have hbool := ok_bool hok
  obtain ⟨k, n, f, s⟩ := x
  dsimp only at hkind hbool hn0 hn1
  have hs4 : k = 4 → s.size ≤ 4096 := by
    rintro rfl
    unfold okV at hok
    simp at hok
    exact hok.2.2.1
  clear hok hx
  have hbx : Blk (w.alloc (.cells [.int .i64 k, .int .i64 n, .float .f64 f, .string s].toArray 24)) w.heap.size [.int .i64 k, .int .i64 n, .float .f64 f, .string s] 24 := Blk.newE rfl _ _
  have hsz : (w.alloc (.cells [.int .i64 k, .int .i64 n, .float .f64 f, .string s].toArray 24)).heap.size = w.heap.size + 1 := by simp only [Sx.sizes]
  have hb0 : Below w.heap.size w (w.alloc (.cells [.int .i64 k, .int .i64 n, .float .f64 f, .string s].toArray 24)) := Bel
  refine Does_of (args := [.slice none 0 0, .agg #[.int .i64 k, .int .i64 n, .float .f64 f, .string s]]) Tryz.func10 (by kernel_rfl) rfl rfl rfl rfl rfl ?_
  have hwk : IntKind.u8.wrap k = k := wu8 (by omega) (by omega)
  have hof : ∀ {A A' : World}, Below (w.heap.size + 1) A A' → Below w.heap.size A A' := fun h => h.mono (by omega)
  (refine Ga ?_)
  generalize w.alloc (.cells [.int .i64 k, .int .i64 n, .float .f64 f, .string s].toArray 24) = W at *
  have hnil : W.ownsRow (w.heap.size + 1) 5 1 (.slice none 0 0) 0 [] := World.ownsRow_nil _ _ _ _
  apply Lst_push (hown := hnil) (bytes := 1)
  ((focus constructor); (focus rfl); (focus rfl); (focus rfl); (focus rfl); (focus rfl); (focus rfl); (focus rfl); (focus rfl); (focus rfl); (focus rfl); (focus simp [Value.oneCell']); (focus rfl); (focus rfl); (focus rfl); (focus rfl); (focus omega); (focus omega); (focus omega))
  intro v' w2 ho' hg _
  have hown := Own8.push (l := []) (m := k.toNat) (by omega) ho'
  have hb2 := Below.own (Below.refl (w.heap.size + 1) W) (Own8.nil (w.heap.size + 1) W) hg (Nat.le_refl _) (by omega)
  have hs2 := hb2.size
  have hbx2 := hbx.below hb2 (by omega)
  rw [List.nil_append] at hown
  obtain ⟨v1, v2, v3, rfl⟩ := own_slice ho'
  clear ho' hg hbx
  have hb02 := hb0.trans (hof hb2)
  rcases hkind with rfl | rfl | rfl | rfl | rfl | rfl
  · (refine Ga ?_)
    (apply retQ1; (focus rfl))
    exact ⟨Own8.ints hown, hb02⟩
  · have hbn := hbool rfl
    have hwn : IntKind.u8.wrap n = n := wu8 (by omega) (by omega)
    (refine Ga ?_)
    have hown1 : w2.ownsRow (w.heap.size + 1) 5 1 (.slice v1 v2 v3) 1 [bc (Int.toNat 1).toUInt8] := hown
    apply Lst_push (hown := hown1) (bytes := 1)
    ((focus constructor); (focus rfl); (focus rfl); (focus rfl); (focus rfl); (focus rfl); (focus rfl); (focus rfl); (focus rfl); (focus rfl); (focus rfl); (focus simp [Value.oneCell']); (focus rfl); (focus rfl); (focus rfl); (focus rfl); (focus omega); (focus omega); (focus omega))
    intro v' w3 ho' hg _
    have hown3 := Own8.push (l := [(Int.toNat 1).toUInt8]) (m := n.toNat) (by omega) ho'
    have hb3 := Below.own (Below.refl (w.heap.size + 1) w2) hown1 hg (Nat.le_refl _) (by omega)
    obtain ⟨u1, u2, u3, rfl⟩ := own_slice ho'
    (refine Ga ?_)
    (apply retQ1; (focus rfl))
    exact ⟨Own8.ints hown3, hb02.trans (hof hb3)⟩
  · (refine Ga ?_)
    (apply Lst_call; (focus rfl); (focus rfl))
    refine (r_Int (w.heap.size + 1) _ _ n hn0 hn1 w2 (by omega) hown (by simp)).mono ?_
    rintro v w3 ⟨ho3, hb3⟩
    obtain ⟨u1, u2, u3, rfl⟩ := own_slice ho3
    (refine Ga ?_)
    (apply retQ1; (focus rfl))
    exact ⟨Own8.ints ho3, hb02.trans (hof hb3)⟩
  · (refine Ga ?_)
    (apply Lst_call; (focus rfl); (focus rfl))
    refine (r_Bits f w2).mono ?_
    rintro v w' ⟨rfl, rfl⟩
    (refine Ga ?_)
    (apply Lst_call; (focus rfl); (focus rfl))
    refine (r_Fixed (w.heap.size + 1) _ _ (nbits f) w2 (by omega) hown (by simp)).mono ?_
    rintro v w3 ⟨ho3, hb3⟩
    obtain ⟨u1, u2, u3, rfl⟩ := own_slice ho3
    (refine Ga ?_)
    (apply retQ1; (focus rfl))
    exact ⟨Own8.ints ho3, hb02.trans (hof hb3)⟩
  · have hs4 := hs4 rfl
    (refine Ga ?_)
    (apply Lst_call; (focus rfl); (focus rfl))
    refine (r_Text1 (w.heap.size + 1) _ _ s (by omega) w2 (by omega) hown (by simp)).mono ?_
    rintro v w3 ⟨ho3, hb3⟩
    obtain ⟨u1, u2, u3, rfl⟩ := own_slice ho3
    (refine Ga ?_)
    (apply retQ1; (focus rfl))
    exact ⟨Own8.ints ho3, hb02.trans (hof hb3)⟩
  · (refine Ga ?_)
    (apply retQ1; (focus rfl))
    exact ⟨Own8.ints hown, hb02⟩
end Val
end Go.Proofs.YtpfhnapjddckfaaGreatDoor
