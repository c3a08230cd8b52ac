/- The laws' known of package view. -/
import Derived.Test.YtglfoofclicfpaaDoorVwV
import Derived.Test.YtglfoofclicfpaaDoorVwL
namespace Go.Proofs.YtglfoofclicfpaaDoor
set_option maxRecDepth 100000
namespace Vw
open Go Go.RowKit Sx Tl Fl Val Mk
open Utf (rs tl Tabs cutS)
def kMk : Mk := (⟨#[98, 111, 108, 100]⟩, ⟨1, 1, 0, ⟨#[]⟩⟩)
def kR (l : Array UInt8) : Rn := ⟨⟨l⟩, false, zeroV, []⟩
def kR1 : Rn := ⟨⟨#[97, 98]⟩, false, zeroV, [kMk]⟩
def kR2 : Rn := ⟨⟨#[]⟩, true, ⟨2, 3, 0, ⟨#[]⟩⟩, []⟩
def kE : Ef := .cons ⟨#[109]⟩ ⟨5, 0, 0, ⟨#[]⟩⟩ (.cons ⟨#[120]⟩ ⟨0, 0, 0, ⟨#[]⟩⟩ .nil .nil) .nil
theorem k_lines : (linesV [kR1, kR2] kE).flatten = [116, 32, 34, 97, 98, 34, 32, 34, 98, 111, 108, 100, 34, 61, 116, 114, 117, 101, 10, 101, 32, 51, 10, 109, 32, 34, 109, 34, 61, 109, 97, 112, 10, 32, 32, 109, 32, 34, 120, 34, 61, 110, 117, 108, 108, 10] := by kernel_rfl
theorem k_plain : plainP [kR1, kR2] = [97, 98, 239, 191, 188] := by kernel_rfl
theorem k_rs1 : rs (tl ⟨#[97, 98]⟩) = [97, 98] := by kernel_rfl
theorem k_us : us [kR1, kR2] = [.ch 97 [clM kMk], .ch 98 [clM kMk], .emb (cleanV ⟨2, 3, 0, ⟨#[]⟩⟩) []] := by
  unfold us
  rw [List.flatMap_cons, List.flatMap_cons, List.flatMap_nil, usR_text rfl, usR_emb rfl, show kR1.tx = ⟨#[97, 98]⟩ from rfl, k_rs1]
  rfl
theorem kR_ok {l : Array UInt8} (h : Lib.validD (tl ⟨l⟩) = true) : OkR (kR l) := ⟨h, fun h => (by cases h), zero_ok, zeroV_fit, fun _ => rfl, fun q hq => absurd hq List.not_mem_nil⟩
theorem kMk_ok : okV kMk.2 = true ∧ kMk.2.Fit := ⟨by decide, by decide, by decide, by decide, by decide, by decide, (show (0 : Nat) < 140737488355328 by decide)⟩
theorem kR1_fit : FitT kR1 := ⟨zeroV_fit, by decide, by decide, fun q hq => by rw [List.mem_singleton.1 hq]; exact ⟨by decide, kMk_ok.2, by decide⟩, by decide⟩
theorem kR2_fit : FitT kR2 := ⟨⟨by decide, by decide, by decide, by decide, by decide, (show (0 : Nat) < 140737488355328 by decide)⟩, by decide, by decide, fun q hq => absurd hq List.not_mem_nil, by decide⟩
theorem kE_fit : kE.Fit := ⟨by decide, ⟨by decide, by decide, by decide, by decide, by decide, (show (0 : Nat) < 140737488355328 by decide)⟩, by decide, ⟨by decide, ⟨by decide, by decide, by decide, by decide, by decide, (show (0 : Nat) < 140737488355328 by decide)⟩, by decide, trivial, trivial⟩, trivial⟩
theorem u1 (l : Array UInt8) {c : List Int} (h : rs (tl ⟨l⟩) = c) : usR (kR l) = c.map fun x => .ch x [] := by
  rw [usR_text rfl, show (kR l).tx = ⟨l⟩ from rfl, h]
  rfl
theorem us1 (l : Array UInt8) {c : List Int} (h : rs (tl ⟨l⟩) = c) : us [kR l] = c.map fun x => .ch x [] := by rw [us_one, u1 l h]
theorem k_abc : us [kR #[97, 98, 99]] = [.ch 97 [], .ch 98 [], .ch 99 []] := us1 _ (c := [97, 98, 99]) (by kernel_rfl)
theorem k_axc : us [kR #[97, 120, 99]] = [.ch 97 [], .ch 120 [], .ch 99 []] := us1 _ (c := [97, 120, 99]) (by kernel_rfl)
theorem k_x : us [kR #[120]] = [.ch 120 []] := us1 _ (c := [120]) (by kernel_rfl)
theorem k_ab : us [kR #[97, 98]] = [.ch 97 [], .ch 98 []] := us1 _ (c := [97, 98]) (by kernel_rfl)
theorem k_ab3 : us [kR #[97], kR #[], kR #[98]] = [.ch 97 [], .ch 98 []] := by
  unfold us
  rw [List.flatMap_cons, List.flatMap_cons, List.flatMap_cons, List.flatMap_nil, u1 #[97] (c := [97]) (by kernel_rfl), u1 #[] (c := []) (by kernel_rfl), u1 #[98] (c := [98]) (by kernel_rfl)]
  rfl
theorem k_ne {l : Array UInt8} {c : Int} {d : List Int} (h : rs (tl ⟨l⟩) = c :: d) : Neat [kR l] := neat_one (.inr (by rw [show (kR l).tx = ⟨l⟩ from rfl, h]; exact List.cons_ne_nil _ _))
/-- One run is what is told. -/
theorem k_one {K : List Rn} {l : Array UInt8} {c : Int} {d : List Int} (hv : Lib.validD (tl ⟨l⟩) = true) (h : rs (tl ⟨l⟩) = c :: d) (hK : Is K (us [kR l])) : ∃ r, K = [r] ∧ r.tx = ⟨l⟩ := by
  have e := hK.cl (M := [kR l]) ⟨fun r hr => by rw [List.mem_singleton.1 hr]; exact kR_ok hv, k_ne h, rfl⟩
  have hl := congrArg List.length e
  rw [List.length_map, List.length_map, List.length_singleton] at hl
  cases K with
  | nil => exact absurd hl (by decide)
  | cons r K =>
    cases K with
    | nil => exact ⟨r, rfl, by
        injection e with e _
        exact congrArg Rn.tx e⟩
    | cons q K => exact absurd hl (by rw [List.length_cons, List.length_cons]; omega)
theorem k_at {n : Nat} (h : IsAt (us [kR #[97, 98, 99]]) (us [kR #[97, 120, 99]]) n) : n = 1 := by
  rw [k_abc, k_axc] at h
  refine h.unique ⟨by decide, by decide, fun i hi => ?_, fun _ _ => ?_⟩
  · obtain rfl : i = 0 := by omega
    rfl
  · intro e
    have e : some (Un.ch 98 []) = some (Un.ch 120 []) := e
    injection e with e
    injection e with e _
    exact absurd e (by decide)
theorem k_end {e : Nat} (h : IsEnd (us [kR #[97, 98, 99]]) (us [kR #[97, 120, 99]]) 1 e) : e = 1 := by
  rw [k_abc, k_axc] at h
  refine h.unique ⟨by decide, by decide, fun i hi => ?_, fun _ _ => ?_⟩
  · obtain rfl : i = 0 := by omega
    rfl
  · intro e
    have e : some (Un.ch 98 []) = some (Un.ch 120 []) := e
    injection e with e
    injection e with e _
    exact absurd e (by decide)
theorem pcs_flat (P : List Rv) : ((P.map pcs).flatten).length = P.length * 7 := by
  induction P with
  | nil => rfl
  | cons p P ih =>
    rw [List.map_cons, List.flatten_cons, List.length_append, ih, List.length_cons]
    show 7 + _ = _
    omega
/-- Runs in a block of one's own. -/
theorem runs_blk {A b : Nat} {w : World} {P : List Rv} {n : Nat} (hn : P.length = n) (h1 : 1 ≤ n ∧ n ≤ 1000) (h : Blk w b (P.map pcs).flatten 40) (hm : ∀ p ∈ P, MkO A w p.2 p.1.ms) : RunS A w (.slice (some ⟨b, 0, none⟩) n n) P := by
  subst hn
  refine ⟨?_, hm⟩
  have e : P.length = (P.map pcs).length := (List.length_map _).symm
  rw [e]
  have fl := pcs_flat P
  refine SRows.of_own (base := 0) (e := 40) (nn := (P.map pcs).length) ⟨by rw [List.length_map]; exact fl, .inr ⟨b, (P.map pcs).length, ((P.map pcs).flatten).toArray, rfl, Nat.zero_le _, h, Nat.le_refl _, ?_, ?_, ?_⟩⟩ (pcs_len P) (by decide)
  · rw [List.length_map]
    simp only [maxLen]
    omega
  · rw [List.length_map]
    show ((P.map pcs).flatten).toArray.size = _
    rw [List.size_toArray]
    exact fl
  · rw [List.length_map]
    refine List.take_of_length_le ?_
    show ((P.map pcs).flatten).toArray.toList.length ≤ _
    rw [List.toList_toArray, fl]
    exact Nat.le_refl _
theorem mk_one {A b : Nat} {w : World} {q : Mk} (h : Blk w b (mcs q) 37) (hA : b < A) : MkO A w (.slice (some ⟨b, 0, none⟩) 1 1) [q] :=
  .inr ⟨List.cons_ne_nil _ _, SRows.of_own (base := 0) (e := 37) (nn := 1) ⟨rfl, .inr ⟨b, 1, (mcs q).toArray, rfl, Nat.zero_le _, h, Nat.le_refl _, by decide, rfl, rfl⟩⟩ (mcs_len [q]) (by decide), b, 0, 1, rfl, h.lt, .inl hA⟩
theorem ent_one {A b c : Nat} {w : World} {key : ByteArray} {v : Vl} {a : Option Addr} {kids : Ef} (h : Blk w b (ecs key v (.slice a kids.len c)) 42) (hA : b < A) (hk : EntAt A w a 0 kids) : EntAt A w (some ⟨b, 0, none⟩) 0 (.cons key v kids .nil) :=
  ⟨⟨b, 0, a, c, rfl, hA, fun j u hu => by
    have := h.cell j
    rw [hu] at this
    rw [Nat.zero_mul, Nat.zero_add]
    exact this, hk⟩, trivial⟩
section
attribute [local irreducible] RnS RnT
attribute [local irreducible] W Lst Qst Pu seqQ blkQ rndQ cutQ retQ Does Enters IntKind.wrap bits sb World.alloc World.putObj Blk
set_option maxHeartbeats 8000000 in
theorem c_known14 (w : World) (hV : VTabs w) (hT : Tabs w) : Does Tryd.prog 4 #[] w fun v w' => v = .bool true ∧ Below w.heap.size w w' := by
  refine Does_of (args := []) Tryd.func4 (by kernel_rfl) rfl rfl rfl rfl rfl ?_
  (refine Ga ?_)
  (apply Lst_slit; (focus rfl); (focus rfl); (focus rfl); (focus rfl); (focus rfl); (focus rfl); (focus rfl); (focus rfl); (focus rfl); (focus (repeat (first | apply FillO.nil | (apply FillO.cons; (focus constructor); (focus rfl); (focus rfl); (focus (repeat constructor)))))); (focus ((try simp only [Sx.sizes]); first | done | rfl)); (focus rfl))
  refine Lst_abs (fun E => Below w.heap.size w E ∧ Blk E w.heap.size (mcs kMk) 37) ⟨Bel, (by (repeat (first | assumption | (apply Blk.below (hb := hb1); rotate_left; (focus ((try simp only [Sx.sizes]); omega)); rotate_right) | (apply Blk.below (hb := hb2); rotate_left; (focus ((try simp only [Sx.sizes]); omega)); rotate_right) | (apply Blk.below (hb := hb3); rotate_left; (focus ((try simp only [Sx.sizes]); omega)); rotate_right) | (apply Blk.below (hb := hb4); rotate_left; (focus ((try simp only [Sx.sizes]); omega)); rotate_right) | (apply Blk.below (hb := hb5); rotate_left; (focus ((try simp only [Sx.sizes]); omega)); rotate_right) | (apply Blk.below (hb := hb6); rotate_left; (focus ((try simp only [Sx.sizes]); omega)); rotate_right) | (apply Blk.below (hb := hb7); rotate_left; (focus ((try simp only [Sx.sizes]); omega)); rotate_right) | (apply Blk.below (hb := hb8); rotate_left; (focus ((try simp only [Sx.sizes]); omega)); rotate_right) | (apply Blk.below (hb := hb9); rotate_left; (focus ((try simp only [Sx.sizes]); omega)); rotate_right) | exact Blk.newE (by first | rfl | ((try simp only [Sx.sizes]); first | done | omega)) _ _ | exact Blk.put_same (by (try simp only [Sx.sizes]); first | done | omega) _ _ | (apply Blk.put_ne; (focus omega)) | apply Blk.alloc | apply Blk.drew)); done)⟩ ?_
  rintro E1 ⟨bE1, k1⟩
  have l1 := k1.lt
  obtain ⟨bM, hbM⟩ : ∃ n, w.heap.size = n := ⟨_, rfl⟩
  rw [hbM] at k1 l1 ⊢
  (refine Ga ?_)
  refine Lst_abs (fun E => Below E1.heap.size E1 E) Bel ?_
  rintro E2 bE2
  (apply Lst_slit; (focus rfl); (focus rfl); (focus rfl); (focus rfl); (focus rfl); (focus rfl); (focus rfl); (focus rfl); (focus rfl); (focus (repeat (first | apply FillO.nil | (apply FillO.cons; (focus constructor); (focus rfl); (focus rfl); (focus (repeat constructor)))))); (focus ((try simp only [Sx.sizes]); first | done | rfl)); (focus rfl))
  refine Lst_abs (fun E => Below E2.heap.size E2 E ∧ Blk E E2.heap.size ([(kR1, .slice (some ⟨bM, 0, none⟩) 1 1), (kR2, .slice none 0 0)].map pcs).flatten 40) ⟨Bel, (by (repeat (first | assumption | (apply Blk.below (hb := hb1); rotate_left; (focus ((try simp only [Sx.sizes]); omega)); rotate_right) | (apply Blk.below (hb := hb2); rotate_left; (focus ((try simp only [Sx.sizes]); omega)); rotate_right) | (apply Blk.below (hb := hb3); rotate_left; (focus ((try simp only [Sx.sizes]); omega)); rotate_right) | (apply Blk.below (hb := hb4); rotate_left; (focus ((try simp only [Sx.sizes]); omega)); rotate_right) | (apply Blk.below (hb := hb5); rotate_left; (focus ((try simp only [Sx.sizes]); omega)); rotate_right) | (apply Blk.below (hb := hb6); rotate_left; (focus ((try simp only [Sx.sizes]); omega)); rotate_right) | (apply Blk.below (hb := hb7); rotate_left; (focus ((try simp only [Sx.sizes]); omega)); rotate_right) | (apply Blk.below (hb := hb8); rotate_left; (focus ((try simp only [Sx.sizes]); omega)); rotate_right) | (apply Blk.below (hb := hb9); rotate_left; (focus ((try simp only [Sx.sizes]); omega)); rotate_right) | exact Blk.newE (by first | rfl | ((try simp only [Sx.sizes]); first | done | omega)) _ _ | exact Blk.put_same (by (try simp only [Sx.sizes]); first | done | omega) _ _ | (apply Blk.put_ne; (focus omega)) | apply Blk.alloc | apply Blk.drew)); done)⟩ ?_
  rintro E3 ⟨bE3, k3⟩
  have l3 := k3.lt
  obtain ⟨bR, hbR⟩ : ∃ n, E2.heap.size = n := ⟨_, rfl⟩
  rw [hbR] at k3 l3 ⊢
  (refine Ga ?_)
  (apply Lst_slit; (focus rfl); (focus rfl); (focus rfl); (focus rfl); (focus rfl); (focus rfl); (focus rfl); (focus rfl); (focus rfl); (focus (repeat (first | apply FillO.nil | (apply FillO.cons; (focus constructor); (focus rfl); (focus rfl); (focus (repeat constructor)))))); (focus ((try simp only [Sx.sizes]); first | done | rfl)); (focus rfl))
  refine Lst_abs (fun E => Below E3.heap.size E3 E ∧ Blk E E3.heap.size (ecs ⟨#[120]⟩ ⟨0, 0, 0, ⟨#[]⟩⟩ (.slice none 0 0)) 42) ⟨Bel, (by (repeat (first | assumption | (apply Blk.below (hb := hb1); rotate_left; (focus ((try simp only [Sx.sizes]); omega)); rotate_right) | (apply Blk.below (hb := hb2); rotate_left; (focus ((try simp only [Sx.sizes]); omega)); rotate_right) | (apply Blk.below (hb := hb3); rotate_left; (focus ((try simp only [Sx.sizes]); omega)); rotate_right) | (apply Blk.below (hb := hb4); rotate_left; (focus ((try simp only [Sx.sizes]); omega)); rotate_right) | (apply Blk.below (hb := hb5); rotate_left; (focus ((try simp only [Sx.sizes]); omega)); rotate_right) | (apply Blk.below (hb := hb6); rotate_left; (focus ((try simp only [Sx.sizes]); omega)); rotate_right) | (apply Blk.below (hb := hb7); rotate_left; (focus ((try simp only [Sx.sizes]); omega)); rotate_right) | (apply Blk.below (hb := hb8); rotate_left; (focus ((try simp only [Sx.sizes]); omega)); rotate_right) | (apply Blk.below (hb := hb9); rotate_left; (focus ((try simp only [Sx.sizes]); omega)); rotate_right) | exact Blk.newE (by first | rfl | ((try simp only [Sx.sizes]); first | done | omega)) _ _ | exact Blk.put_same (by (try simp only [Sx.sizes]); first | done | omega) _ _ | (apply Blk.put_ne; (focus omega)) | apply Blk.alloc | apply Blk.drew)); done)⟩ ?_
  rintro E4 ⟨bE4, k4⟩
  have l4 := k4.lt
  obtain ⟨bX, hbX⟩ : ∃ n, E3.heap.size = n := ⟨_, rfl⟩
  rw [hbX] at k4 l4 ⊢
  (refine Ga ?_)
  (apply Lst_slit; (focus rfl); (focus rfl); (focus rfl); (focus rfl); (focus rfl); (focus rfl); (focus rfl); (focus rfl); (focus rfl); (focus (repeat (first | apply FillO.nil | (apply FillO.cons; (focus constructor); (focus rfl); (focus rfl); (focus (repeat constructor)))))); (focus ((try simp only [Sx.sizes]); first | done | rfl)); (focus rfl))
  refine Lst_abs (fun E => Below E4.heap.size E4 E ∧ Blk E E4.heap.size (ecs ⟨#[109]⟩ ⟨5, 0, 0, ⟨#[]⟩⟩ (.slice (some ⟨bX, 0, none⟩) 1 1)) 42) ⟨Bel, (by (repeat (first | assumption | (apply Blk.below (hb := hb1); rotate_left; (focus ((try simp only [Sx.sizes]); omega)); rotate_right) | (apply Blk.below (hb := hb2); rotate_left; (focus ((try simp only [Sx.sizes]); omega)); rotate_right) | (apply Blk.below (hb := hb3); rotate_left; (focus ((try simp only [Sx.sizes]); omega)); rotate_right) | (apply Blk.below (hb := hb4); rotate_left; (focus ((try simp only [Sx.sizes]); omega)); rotate_right) | (apply Blk.below (hb := hb5); rotate_left; (focus ((try simp only [Sx.sizes]); omega)); rotate_right) | (apply Blk.below (hb := hb6); rotate_left; (focus ((try simp only [Sx.sizes]); omega)); rotate_right) | (apply Blk.below (hb := hb7); rotate_left; (focus ((try simp only [Sx.sizes]); omega)); rotate_right) | (apply Blk.below (hb := hb8); rotate_left; (focus ((try simp only [Sx.sizes]); omega)); rotate_right) | (apply Blk.below (hb := hb9); rotate_left; (focus ((try simp only [Sx.sizes]); omega)); rotate_right) | exact Blk.newE (by first | rfl | ((try simp only [Sx.sizes]); first | done | omega)) _ _ | exact Blk.put_same (by (try simp only [Sx.sizes]); first | done | omega) _ _ | (apply Blk.put_ne; (focus omega)) | apply Blk.alloc | apply Blk.drew)); done)⟩ ?_
  rintro E5 ⟨bE5, k5⟩
  have l5 := k5.lt
  obtain ⟨bE, hbE⟩ : ∃ n, E4.heap.size = n := ⟨_, rfl⟩
  rw [hbE] at k5 l5 ⊢
  (refine Ga ?_)
  refine Lst_abs (fun E => Below E5.heap.size E5 E ∧ Blk E E5.heap.size [.slice (some ⟨bR, 0, none⟩) 2 2, .slice (some ⟨bE, 0, none⟩) 1 1] 25) ⟨Bel, (by (repeat (first | assumption | (apply Blk.below (hb := hb1); rotate_left; (focus ((try simp only [Sx.sizes]); omega)); rotate_right) | (apply Blk.below (hb := hb2); rotate_left; (focus ((try simp only [Sx.sizes]); omega)); rotate_right) | (apply Blk.below (hb := hb3); rotate_left; (focus ((try simp only [Sx.sizes]); omega)); rotate_right) | (apply Blk.below (hb := hb4); rotate_left; (focus ((try simp only [Sx.sizes]); omega)); rotate_right) | (apply Blk.below (hb := hb5); rotate_left; (focus ((try simp only [Sx.sizes]); omega)); rotate_right) | (apply Blk.below (hb := hb6); rotate_left; (focus ((try simp only [Sx.sizes]); omega)); rotate_right) | (apply Blk.below (hb := hb7); rotate_left; (focus ((try simp only [Sx.sizes]); omega)); rotate_right) | (apply Blk.below (hb := hb8); rotate_left; (focus ((try simp only [Sx.sizes]); omega)); rotate_right) | (apply Blk.below (hb := hb9); rotate_left; (focus ((try simp only [Sx.sizes]); omega)); rotate_right) | exact Blk.newE (by first | rfl | ((try simp only [Sx.sizes]); first | done | omega)) _ _ | exact Blk.put_same (by (try simp only [Sx.sizes]); first | done | omega) _ _ | (apply Blk.put_ne; (focus omega)) | apply Blk.alloc | apply Blk.drew)); done)⟩ ?_
  rintro E6 ⟨bE6, k6⟩
  have l6 := k6.lt
  obtain ⟨bV, hbV⟩ : ∃ n, E5.heap.size = n := ⟨_, rfl⟩
  rw [hbV] at k6 l6 ⊢
  have b46 := bE5.trans (bE6.mono bE5.size)
  have b36 := bE4.trans (b46.mono bE4.size)
  have b26 := bE3.trans (b36.mono bE3.size)
  have b16 := bE2.trans (b26.mono bE2.size)
  have b06 := bE1.trans (b16.mono bE1.size)
  have m6 := k1.below b16 l1
  have r6 := k3.below b36 l3
  have x6 := k4.below b46 l4
  have e6 := k5.below bE6 l5
  obtain ⟨A, hA⟩ : ∃ n, E6.heap.size = n := ⟨_, rfl⟩
  have hm : MkO A E6 (.slice (some ⟨bM, 0, none⟩) 1 1) [kMk] := mk_one m6 (by rw [← hA]; exact m6.lt)
  have hR : RunS A E6 (.slice (some ⟨bR, 0, none⟩) 2 2) [(kR1, .slice (some ⟨bM, 0, none⟩) 1 1), (kR2, .slice none 0 0)] := runs_blk (n := 2) rfl (by decide) r6 fun p hp => by
    rcases List.mem_cons.1 hp with rfl | hp
    · exact hm
    · rw [List.mem_singleton.1 hp]
      exact .inl ⟨rfl, .inl rfl⟩
  have hE : EntAt A E6 (some ⟨bE, 0, none⟩) 0 kE := ent_one (a := some ⟨bX, 0, none⟩) (c := 1) e6 (by rw [← hA]; exact e6.lt) (ent_one (a := none) (c := 0) x6 (by rw [← hA]; exact x6.lt) trivial)
  have hAll : ∀ Y, Below A E6 Y → RunS A Y (.slice (some ⟨bR, 0, none⟩) 2 2) [(kR1, .slice (some ⟨bM, 0, none⟩) 1 1), (kR2, .slice none 0 0)] ∧ EntAt A Y (some ⟨bE, 0, none⟩) 0 kE ∧ Blk Y bV [.slice (some ⟨bR, 0, none⟩) 2 2, .slice (some ⟨bE, 0, none⟩) 1 1] 25 ∧ Below w.heap.size w Y ∧ A ≤ Y.heap.size := by
    rw [← hA] at hR hE ⊢
    exact fun Y hY => ⟨hR.below hY, hE.below hY, k6.below hY l6, b06.trans (hY.mono b06.size), hY.size⟩
  clear bE1 bE2 bE3 bE4 bE5 bE6 b46 b36 b26 b16 b06 m6 r6 x6 e6 hm hR hE k1 k3 k4 k5 k6 l1 l3 l4 l5 l6
  have b6 : Below A E6 E6 := Below.refl _ _
  (apply Lst_slit; (focus rfl); (focus rfl); (focus rfl); (focus rfl); (focus rfl); (focus rfl); (focus rfl); (focus rfl); (focus rfl); (focus (repeat (first | apply FillO.nil | (apply FillO.cons; (focus constructor); (focus rfl); (focus rfl); (focus (repeat constructor)))))); (focus ((try simp only [Sx.sizes]); first | done | rfl)); (focus rfl))
  refine Lst_abs (fun E => Below E6.heap.size E6 E ∧ Blk E E6.heap.size ([(kR #[97, 98, 99], .slice none 0 0)].map pcs).flatten 40) ⟨Bel, (by (repeat (first | assumption | (apply Blk.below (hb := hb1); rotate_left; (focus ((try simp only [Sx.sizes]); omega)); rotate_right) | (apply Blk.below (hb := hb2); rotate_left; (focus ((try simp only [Sx.sizes]); omega)); rotate_right) | (apply Blk.below (hb := hb3); rotate_left; (focus ((try simp only [Sx.sizes]); omega)); rotate_right) | (apply Blk.below (hb := hb4); rotate_left; (focus ((try simp only [Sx.sizes]); omega)); rotate_right) | (apply Blk.below (hb := hb5); rotate_left; (focus ((try simp only [Sx.sizes]); omega)); rotate_right) | (apply Blk.below (hb := hb6); rotate_left; (focus ((try simp only [Sx.sizes]); omega)); rotate_right) | (apply Blk.below (hb := hb7); rotate_left; (focus ((try simp only [Sx.sizes]); omega)); rotate_right) | (apply Blk.below (hb := hb8); rotate_left; (focus ((try simp only [Sx.sizes]); omega)); rotate_right) | (apply Blk.below (hb := hb9); rotate_left; (focus ((try simp only [Sx.sizes]); omega)); rotate_right) | exact Blk.newE (by first | rfl | ((try simp only [Sx.sizes]); first | done | omega)) _ _ | exact Blk.put_same (by (try simp only [Sx.sizes]); first | done | omega) _ _ | (apply Blk.put_ne; (focus omega)) | apply Blk.alloc | apply Blk.drew)); done)⟩ ?_
  rintro E7 ⟨bE7, k7⟩
  have l7 := k7.lt
  obtain ⟨c1, hc1⟩ : ∃ n, E6.heap.size = n := ⟨_, rfl⟩
  rw [hc1] at k7 l7 bE7 ⊢
  (refine Ga ?_)
  (apply Lst_slit; (focus rfl); (focus rfl); (focus rfl); (focus rfl); (focus rfl); (focus rfl); (focus rfl); (focus rfl); (focus rfl); (focus (repeat (first | apply FillO.nil | (apply FillO.cons; (focus constructor); (focus rfl); (focus rfl); (focus (repeat constructor)))))); (focus ((try simp only [Sx.sizes]); first | done | rfl)); (focus rfl))
  refine Lst_abs (fun E => Below E7.heap.size E7 E ∧ Blk E E7.heap.size ([(kR #[97, 120, 99], .slice none 0 0)].map pcs).flatten 40) ⟨Bel, (by (repeat (first | assumption | (apply Blk.below (hb := hb1); rotate_left; (focus ((try simp only [Sx.sizes]); omega)); rotate_right) | (apply Blk.below (hb := hb2); rotate_left; (focus ((try simp only [Sx.sizes]); omega)); rotate_right) | (apply Blk.below (hb := hb3); rotate_left; (focus ((try simp only [Sx.sizes]); omega)); rotate_right) | (apply Blk.below (hb := hb4); rotate_left; (focus ((try simp only [Sx.sizes]); omega)); rotate_right) | (apply Blk.below (hb := hb5); rotate_left; (focus ((try simp only [Sx.sizes]); omega)); rotate_right) | (apply Blk.below (hb := hb6); rotate_left; (focus ((try simp only [Sx.sizes]); omega)); rotate_right) | (apply Blk.below (hb := hb7); rotate_left; (focus ((try simp only [Sx.sizes]); omega)); rotate_right) | (apply Blk.below (hb := hb8); rotate_left; (focus ((try simp only [Sx.sizes]); omega)); rotate_right) | (apply Blk.below (hb := hb9); rotate_left; (focus ((try simp only [Sx.sizes]); omega)); rotate_right) | exact Blk.newE (by first | rfl | ((try simp only [Sx.sizes]); first | done | omega)) _ _ | exact Blk.put_same (by (try simp only [Sx.sizes]); first | done | omega) _ _ | (apply Blk.put_ne; (focus omega)) | apply Blk.alloc | apply Blk.drew)); done)⟩ ?_
  rintro E8 ⟨bE8, k8⟩
  obtain ⟨c2, hc2⟩ : ∃ n, E7.heap.size = n := ⟨_, rfl⟩
  have k7' := k7.below bE8 l7
  have b8 : Below A E6 E8 := by
    have := bE7.trans (bE8.mono (by rw [← hc1]; exact bE7.size))
    rw [← hc1, hA] at this
    exact this
  rw [hc2] at k8 ⊢
  have hmn : ∀ p ∈ ([(kR #[97, 98, 99], .slice none 0 0)] : List Rv), MkO 0 E8 p.2 p.1.ms := fun p hp => by rw [List.mem_singleton.1 hp]; exact .inl ⟨rfl, .inl rfl⟩
  have hmn2 : ∀ p ∈ ([(kR #[97, 120, 99], .slice none 0 0)] : List Rv), MkO 0 E8 p.2 p.1.ms := fun p hp => by rw [List.mem_singleton.1 hp]; exact .inl ⟨rfl, .inl rfl⟩
  have R1 := runs_blk (n := 1) rfl (by decide) k7' hmn
  have R2 := runs_blk (n := 1) rfl (by decide) k8 hmn2
  have lA : lenP [(kR #[97, 98, 99], Value.slice none 0 0)] ≤ 100000 := by
    show (us [kR #[97, 98, 99]]).length ≤ _
    rw [k_abc]
    decide
  have lX : lenP [(kR #[97, 120, 99], Value.slice none 0 0)] ≤ 100000 := by
    show (us [kR #[97, 120, 99]]).length ≤ _
    rw [k_axc]
    decide
  (apply Lst_call; (focus rfl); (focus rfl))
  refine (c_Diff [(kR #[97, 98, 99], .slice none 0 0)] [(kR #[97, 120, 99], .slice none 0 0)] 0 (some ⟨c1, 0, none⟩) (some ⟨c2, 0, none⟩) 1 1 E8 (Nat.zero_le _) R1 R2 (fun p hp => by rw [List.mem_singleton.1 hp]; exact kR_ok (by kernel_rfl)) (fun p hp => by rw [List.mem_singleton.1 hp]; exact kR_ok (by kernel_rfl)) (fun p hp => by rw [List.mem_singleton.1 hp]; decide) (fun p hp => by rw [List.mem_singleton.1 hp]; decide) (by decide) (by decide) lA lX).mono ?_
  rintro v F1 ⟨⟨n, e, kv, K, rfl, hn, he, hoK, hK, _⟩, hF1⟩
  have hn : IsAt (us [kR #[97, 98, 99]]) (us [kR #[97, 120, 99]]) n := hn
  have he : IsEnd (us [kR #[97, 98, 99]]) (us [kR #[97, 120, 99]]) n e := he
  obtain rfl := k_at hn
  obtain rfl := k_end he
  have hK : Is (K.map Prod.fst) (((us [kR #[97, 120, 99]]).take ((us [kR #[97, 120, 99]]).length - 1)).drop 1) := hK
  rw [k_axc] at hK
  have hK : Is (K.map Prod.fst) [.ch 120 []] := hK
  rw [← k_x] at hK
  obtain ⟨q, hKq, hqt⟩ := k_one (l := #[120]) (c := 120) (d := []) (by kernel_rfl) (by kernel_rfl) hK
  have hKl : K.length = 1 := by
    have := congrArg List.length hKq
    rw [List.length_map] at this
    exact this
  obtain ⟨kp, rfl⟩ : ∃ kp, K = [kp] := by
    cases K with
    | nil => exact absurd hKl (by decide)
    | cons kp K => cases K with
      | nil => exact ⟨kp, rfl⟩
      | cons _ _ => exact absurd hKl (by rw [List.length_cons, List.length_cons]; omega)
  have hkt : kp.1.tx = ⟨#[120]⟩ := by
    rw [← hqt]
    injection hKq with h _
    rw [h]
  obtain ⟨ka, kc, rfl, _⟩ := hoK.form
  have b9 : Below A E6 F1 := b8.trans (hF1.mono (hAll E8 b8).2.2.2.2)
  have hlen : (us [kR #[97, 98, 99]]).length - 1 - 1 = 1 := by rw [k_abc]; rfl
  have hcnt : ((us (List.map Prod.fst [(kR #[97, 98, 99], Value.slice none 0 0)])).length - 1 - 1 : Nat) = 1 := hlen
  rw [hcnt]
  have hKr : ∀ Y, Below F1.heap.size F1 Y → RunS 0 Y (.slice ka 1 kc) [kp] := fun Y hY => (hoK.below hY).read
  have b1 := b9
  have g1 : Below F1.heap.size F1 F1 := Below.refl _ _
  obtain ⟨hR1, hE1, kV1, bw1, hA1⟩ := hAll F1 b1
  have ok1 : ∀ p ∈ ([(kR1, .slice (some ⟨bM, 0, none⟩) 1 1), (kR2, .slice none 0 0)] : List Rv), FitT p.1 := fun p hp => by
    rcases List.mem_cons.1 hp with rfl | hp
    · exact kR1_fit
    · rw [List.mem_singleton.1 hp]
      exact kR2_fit
  have hfl : (linesV (([(kR1, .slice (some ⟨bM, 0, none⟩) 1 1), (kR2, .slice none 0 0)] : List Rv).map Prod.fst) kE).flatten.length ≤ 1000000 := by
    show (linesV [kR1, kR2] kE).flatten.length ≤ _
    rw [k_lines]
    decide
  have hln : ([(kR1, .slice (some ⟨bM, 0, none⟩) 1 1), (kR2, .slice none 0 0)] : List Rv).length + (linesE [] kE).length ≤ 100000 := by
    show 2 + 2 ≤ 100000
    decide
  have hlines : bs (linesV (([(kR1, .slice (some ⟨bM, 0, none⟩) 1 1), (kR2, .slice none 0 0)] : List Rv).map Prod.fst) kE).flatten = ⟨#[116, 32, 34, 97, 98, 34, 32, 34, 98, 111, 108, 100, 34, 61, 116, 114, 117, 101, 10, 101, 32, 51, 10, 109, 32, 34, 109, 34, 61, 109, 97, 112, 10, 32, 32, 109, 32, 34, 120, 34, 61, 110, 117, 108, 108, 10]⟩ := congrArg bs k_lines
  have hplain : bs (plainP (([(kR1, .slice (some ⟨bM, 0, none⟩) 1 1), (kR2, .slice none 0 0)] : List Rv).map Prod.fst)) = ⟨#[97, 98, 239, 191, 188]⟩ := congrArg bs k_plain
  have hlenp : lenP [(kR1, .slice (some ⟨bM, 0, none⟩) 1 1), (kR2, .slice none 0 0)] = 3 := by
    show (us [kR1, kR2]).length = 3
    rw [k_us]
    rfl
  (refine Ga ?_)
  (apply Lst_call; (focus rfl); (focus rfl))
  refine (c_TextV [(kR1, .slice (some ⟨bM, 0, none⟩) 1 1), (kR2, .slice none 0 0)] kE A (some ⟨bR, 0, none⟩) (some ⟨bE, 0, none⟩) 2 1 F1 hA1 hR1 hE1 ok1 kE_fit hln hfl (hV.below bw1)).mono ?_
  rintro v F2 ⟨rfl, h2⟩
  rw [hlines]
  have b2 : Below A E6 F2 := b1.trans (h2.mono hA1)
  obtain ⟨hR2, hE2, kV2, bw2, hA2⟩ := hAll F2 b2
  have g2 := g1.trans (h2.mono g1.size)
  (refine Ga ?_)
  (apply Lst_call; (focus rfl); (focus rfl))
  refine (c_Plain [(kR1, .slice (some ⟨bM, 0, none⟩) 1 1), (kR2, .slice none 0 0)] A (some ⟨bR, 0, none⟩) (some ⟨bE, 0, none⟩) 2 1 1 F2 hR2 (by show 2 ≤ 1000000; decide) (by show (plainP [kR1, kR2]).length ≤ _; rw [k_plain]; decide)).mono ?_
  rintro v F3 ⟨rfl, h3⟩
  rw [hplain]
  have b3 : Below A E6 F3 := b2.trans (h3.mono hA2)
  obtain ⟨hR3, hE3, kV3, bw3, hA3⟩ := hAll F3 b3
  have g3 := g2.trans (h3.mono g2.size)
  (refine Ga ?_)
  (apply Lst_call; (focus rfl); (focus rfl))
  refine (c_LenV [(kR1, .slice (some ⟨bM, 0, none⟩) 1 1), (kR2, .slice none 0 0)] A (some ⟨bR, 0, none⟩) (some ⟨bE, 0, none⟩) 2 1 1 (by show 2 ≤ 1000000; decide) (fun p hp => by rcases List.mem_cons.1 hp with rfl | hp; (show 2 ≤ 1000000; decide); rw [List.mem_singleton.1 hp]; decide) (by rw [hlenp]; decide) F3 (hT.below bw3) hR3).mono ?_
  rintro v F4 ⟨rfl, h4⟩
  rw [hlenp]
  have b4 : Below A E6 F4 := b3.trans (h4.mono hA3)
  obtain ⟨hR4, hE4, kV4, bw4, hA4⟩ := hAll F4 b4
  have g4 := g3.trans (h4.mono g3.size)
  obtain ⟨g, off, hka, _, hck⟩ := (hKr F4 g4).at (i := 0) (by show 0 < 1; decide)
  have hck0 : F4.cell? ⟨g, off + 0 * 7 + 0, none⟩ = some (.string kp.1.tx) := hck 0 _ rfl
  rw [hkt] at hck0
  subst hka
  have one_len : ([kp] : List Rv).length = 1 := rfl
  rw [one_len]
  (refine Ga ?_)
  apply Lst_pu
  · apply P_idxm (j := 0) (sz := 7)
    focus rfl
    focus rfl
    focus rfl
    focus rfl
    focus rfl
    focus omega
  focus rfl
  (refine Ga ?_)
  (apply Lst_call; (focus rfl); (focus rfl))
  refine (c_SameV [(kR1, .slice (some ⟨bM, 0, none⟩) 1 1), (kR2, .slice none 0 0)] [(kR1, .slice (some ⟨bM, 0, none⟩) 1 1), (kR2, .slice none 0 0)] kE kE A (some ⟨bR, 0, none⟩) (some ⟨bE, 0, none⟩) (some ⟨bR, 0, none⟩) (some ⟨bE, 0, none⟩) 2 1 2 1 F4 hA4 hR4 hE4 ok1 kE_fit hln hfl hR4 hE4 ok1 kE_fit hln hfl (hV.below bw4)).mono ?_
  rintro v F5 ⟨rfl, h5⟩
  rw [decide_eq_true rfl]
  have b5 : Below A E6 F5 := b4.trans (h5.mono hA4)
  obtain ⟨hR5, hE5, kV5, bw5, hA5⟩ := hAll F5 b5
  (refine Ga ?_)
  (apply Lst_call; (focus rfl); (focus rfl))
  refine (c_SameV [(kR1, .slice (some ⟨bM, 0, none⟩) 1 1), (kR2, .slice none 0 0)] [] kE .nil A (some ⟨bR, 0, none⟩) (some ⟨bE, 0, none⟩) none none 2 1 0 0 F5 hA5 hR5 hE5 ok1 kE_fit hln hfl ⟨SRows.nil _ _, fun p hp => absurd hp List.not_mem_nil⟩ trivial (fun p hp => absurd hp List.not_mem_nil) trivial (by decide) (by decide) (hV.below bw5)).mono ?_
  rintro v F6 ⟨rfl, h6⟩
  have hno : ¬ (linesV (([(kR1, .slice (some ⟨bM, 0, none⟩) 1 1), (kR2, .slice none 0 0)] : List Rv).map Prod.fst) kE).flatten = (linesV (([] : List Rv).map Prod.fst) .nil).flatten := by
    show ¬ (linesV [kR1, kR2] kE).flatten = []
    rw [k_lines]
    exact List.cons_ne_nil _ _
  rw [decide_eq_false hno]
  have b6 : Below A E6 F6 := b5.trans (h6.mono hA5)
  obtain ⟨hR6, hE6, kV6, bw6, hA6⟩ := hAll F6 b6
  (refine Ga ?_)
  (apply Lst_slit; (focus rfl); (focus rfl); (focus rfl); (focus rfl); (focus rfl); (focus rfl); (focus rfl); (focus rfl); (focus rfl); (focus (repeat (first | apply FillO.nil | (apply FillO.cons; (focus constructor); (focus rfl); (focus rfl); (focus (repeat constructor)))))); (focus ((try simp only [Sx.sizes]); first | done | rfl)); (focus rfl))
  refine Lst_abs (fun E => Below F6.heap.size F6 E ∧ Blk E F6.heap.size (([(kR #[97], .slice none 0 0), (kR #[], .slice none 0 0), (kR #[98], .slice none 0 0)] : List Rv).map pcs).flatten 40) ⟨Bel, (by (repeat (first | assumption | (apply Blk.below (hb := hb1); rotate_left; (focus ((try simp only [Sx.sizes]); omega)); rotate_right) | (apply Blk.below (hb := hb2); rotate_left; (focus ((try simp only [Sx.sizes]); omega)); rotate_right) | (apply Blk.below (hb := hb3); rotate_left; (focus ((try simp only [Sx.sizes]); omega)); rotate_right) | (apply Blk.below (hb := hb4); rotate_left; (focus ((try simp only [Sx.sizes]); omega)); rotate_right) | (apply Blk.below (hb := hb5); rotate_left; (focus ((try simp only [Sx.sizes]); omega)); rotate_right) | (apply Blk.below (hb := hb6); rotate_left; (focus ((try simp only [Sx.sizes]); omega)); rotate_right) | (apply Blk.below (hb := hb7); rotate_left; (focus ((try simp only [Sx.sizes]); omega)); rotate_right) | (apply Blk.below (hb := hb8); rotate_left; (focus ((try simp only [Sx.sizes]); omega)); rotate_right) | (apply Blk.below (hb := hb9); rotate_left; (focus ((try simp only [Sx.sizes]); omega)); rotate_right) | exact Blk.newE (by first | rfl | ((try simp only [Sx.sizes]); first | done | omega)) _ _ | exact Blk.put_same (by (try simp only [Sx.sizes]); first | done | omega) _ _ | (apply Blk.put_ne; (focus omega)) | apply Blk.alloc | apply Blk.drew)); done)⟩ ?_
  rintro F7 ⟨h7, k7⟩
  have b7 : Below A E6 F7 := b6.trans (h7.mono hA6)
  obtain ⟨hR7, hE7, kV7, bw7, hA7⟩ := hAll F7 b7
  have R7 := runs_blk (A := 0) (n := 3) rfl (by decide) k7 fun p hp => by
    rcases List.mem_cons.1 hp with rfl | hp
    · exact .inl ⟨rfl, .inl rfl⟩
    rcases List.mem_cons.1 hp with rfl | hp
    · exact .inl ⟨rfl, .inl rfl⟩
    · rw [List.mem_singleton.1 hp]
      exact .inl ⟨rfl, .inl rfl⟩
  (refine Ga ?_)
  (apply Lst_call; (focus rfl); (focus rfl))
  refine (c_Clean [(kR #[97], .slice none 0 0), (kR #[], .slice none 0 0), (kR #[98], .slice none 0 0)] 0 (some ⟨F6.heap.size, 0, none⟩) 3 F7 (Nat.zero_le _) R7 (fun p hp => by
    rcases List.mem_cons.1 hp with rfl | hp
    · exact kR_ok (by kernel_rfl)
    rcases List.mem_cons.1 hp with rfl | hp
    · exact kR_ok (by kernel_rfl)
    · rw [List.mem_singleton.1 hp]
      exact kR_ok (by kernel_rfl)) (fun p hp => by
    rcases List.mem_cons.1 hp with rfl | hp
    · decide
    rcases List.mem_cons.1 hp with rfl | hp
    · decide
    · rw [List.mem_singleton.1 hp]
      decide) (by decide)).mono ?_
  rintro v F8 ⟨⟨K, hoK2, hK2, _⟩, h8⟩
  have b8 : Below A E6 F8 := b7.trans (h8.mono hA7)
  obtain ⟨hR8, hE8, kV8, bw8, hA8⟩ := hAll F8 b8
  have hK2 : Is (K.map Prod.fst) (us [kR #[97], kR #[], kR #[98]]) := hK2.is
  rw [k_ab3, ← k_ab] at hK2
  obtain ⟨q2, hKq2, _⟩ := k_one (l := #[97, 98]) (c := 97) (d := [98]) (by kernel_rfl) (by kernel_rfl) hK2
  have hKl2 : K.length = 1 := by
    have := congrArg List.length hKq2
    rw [List.length_map] at this
    exact this
  obtain ⟨ka2, kc2, rfl, _⟩ := hoK2.form
  rw [hKl2]
  (refine Ga ?_)
  (apply retQ1; (focus rfl))
  exact ⟨rfl, hbM ▸ bw8⟩
end
end Vw
end Go.Proofs.YtglfoofclicfpaaDoor
