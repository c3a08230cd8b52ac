/- Package aware in memory: New, Tick, Now, Clock. -/
import Derived.Test.YtoljcnlmockpcaaAwP
import Derived.Test.YtoljcnlmockpcaaSxGo
import Derived.Test.YtoljcnlmockpcaaSxM
namespace Go.Proofs.Ytoljcnlmockpcaa
set_option maxRecDepth 100000
namespace Aw
open Go Go.RowKit Sx
def pcs (p : Pr) : List Value := [.int .u64 (p.c : Int), .int .u64 (p.k : Int), .string p.s, .bool p.g]
def ecs (e : En) : List Value := [.int .u64 (e.p.c : Int), .int .u64 (e.p.k : Int), .string e.p.s, .bool e.p.g, .int .u64 e.t]
def RE (v : Value) (e : En) : Prop := v = .agg (ecs e).toArray
/-- What one knows. -/
structure Awr where
  client : Nat
  last : Int
  now : Int
  own : Nat
  es : List En
def AwAt (w : World) (p mb : Nat) (a : Awr) : Prop :=
  Blk w p [.int .u64 (a.client : Int), .int .u64 a.last, .int .u64 a.now, .int .u64 (a.own : Int), .map (some mb)] 72 ∧ (∃ m, SxU.MpAt w mb RE m ∧ m.Perm (keyd a.es)) ∧ Srt a.es
theorem AwAt.chg {bs : List Nat} {w w' : World} {p mb : Nat} {a : Awr} (h : AwAt w p mb a) (hc : Chg bs w w') (hp : p ∉ bs) (hm : mb ∉ bs) : AwAt w' p mb a := by
  obtain ⟨h1, ⟨m, h2, h3⟩, h4⟩ := h
  exact ⟨hc.blk h1 hp, ⟨m, h2.mono (hc.block mb h2.lt hm) (fun _ _ h => h), h3⟩, h4⟩
theorem AwAt.below {w w' : World} {p mb : Nat} {a : Awr} (h : AwAt w p mb a) (hb : Below w.heap.size w w') : AwAt w' p mb a := h.chg (bs := []) (.of hb) (by simp) (by simp)
theorem AwAt.lt {w : World} {p mb : Nat} {a : Awr} (h : AwAt w p mb a) : p < w.heap.size ∧ mb < w.heap.size := by
  obtain ⟨h1, ⟨m, h2, _⟩, _⟩ := h
  exact ⟨h1.lt, h2.lt⟩
theorem AwAt.ne {w : World} {p mb : Nat} {a : Awr} (h : AwAt w p mb a) : p ≠ mb := by
  obtain ⟨h1, ⟨m, h2, _⟩, _⟩ := h
  rintro rfl
  have := h2.not_cells 0
  rw [h1.cell 0] at this
  simp at this
/-- The cells of the struct turn. -/
theorem AwAt.cells {w w' : World} {p mb : Nat} {a a' : Awr} (h : AwAt w p mb a) (hc : Chg [p] w w') (hb : Blk w' p [.int .u64 (a'.client : Int), .int .u64 a'.last, .int .u64 a'.now, .int .u64 (a'.own : Int), .map (some mb)] 72) (he : a'.es = a.es) : AwAt w' p mb a' := by
  have hne := h.ne
  obtain ⟨h1, ⟨m, h2, h3⟩, h4⟩ := h
  rw [← he] at h3 h4
  exact ⟨hb, ⟨m, h2.mono (hc.block mb h2.lt (by simpa using Ne.symm hne)) (fun _ _ h => h), h3⟩, h4⟩
theorem AwAt.look {w : World} {p mb : Nat} {a : Awr} (h : AwAt w p mb a) : ∃ m, SxU.MpAt w mb RE m ∧ m.Perm (keyd a.es) ∧ m.length = a.es.length ∧ ∀ c : Nat, SxU.look m (c : Int) = lk a.es c := by
  obtain ⟨h1, ⟨m, h2, h3⟩, h4⟩ := h
  refine ⟨m, h2, h3, by rw [h3.length_eq]; unfold keyd; rw [List.length_map], fun c => ?_⟩
  rw [look_perm h3 ((h3.map _).nodup_iff.2 (keyd_nodup h4)), look_keyd]
/-- The map turns. -/
theorem AwAt.put {w w' : World} {p mb : Nat} {a : Awr} {m : List (Int × En)} {e : En} (h : AwAt w p mb a) (hm : m.Perm (keyd a.es)) (h2 : SxU.MpAt w' mb RE (SxU.put m (e.p.c : Int) e)) (hc : Chg [mb] w w') : AwAt w' p mb { a with es := ins a.es e } := by
  have hne := h.ne
  obtain ⟨h1, _, h4⟩ := h
  refine ⟨hc.blk h1 (by simpa using hne), ⟨_, h2, ?_⟩, ins_srt e h4⟩
  refine (put_perm _ _ ((hm.map _).nodup_iff.2 (keyd_nodup h4))).trans ?_
  refine (List.Perm.cons _ (hm.filter _)).trans ?_
  rw [keyd_filter]
  exact ((ins_perm e h4).map fun e => ((e.p.c : Int), e)).symm
def nowhere : Value := .agg #[.int .u64 0, .int .u64 0, .string ⟨#[]⟩, .bool false, .int .u64 0]
theorem nowhere_zero (w : World) : (zeroValue 77).run Try.prog w = .ok nowhere w := by
  have h : (Try.prog.info? 77).map (fun i => i.zero) = some (some nowhere) := by kernel_rfl
  obtain ⟨i, hi, hz⟩ := Option.map_eq_some_iff.1 h
  simp [zeroValue, typeInfo, hi, hz]
section rules
variable {P : Program} {rd : Option Nat} {n : Nat} {ops : Array Oper} {Q : Post} {rest : List Oper} {F : Fr} {ds : List Deferred} {w : World} {ty : TypeId} {pos : String} {after : Array Edge}
theorem Lst_makemap {d : Nat} {t : TypeId} (hd : Nat.blt d n = true) (h : Lst P rd n ops Q rest (upd F d (.map (some w.heap.size))) ds (w.alloc (.map #[] 0))) : Lst P rd n ops Q (⟨some d, .makeMap t none, ty, pos, after, none⟩ :: rest) F ds w :=
  Lst_value rfl (by simp [execOp, Instr.makeMap]) hd h
end rules
/-- The greatest clock that is known of a client. -/
def Awr.clock (a : Awr) (c : Nat) : Nat := if c = a.client then a.own else match lk a.es c with
  | some e => e.p.k
  | none => 0
attribute [local irreducible] W Lst Qst Pu seqQ blkQ rndQ cutQ retQ Does Enters IntKind.wrap bits sb World.alloc World.putObj Blk
theorem c_New (client : Nat) (last : Int) (w : World) : Does Try.prog 11 #[.int .u64 (client : Int), .int .u64 last] w fun v w' =>
    ∃ p mb, v = .pointer (some ⟨p, 0, none⟩) ∧ w.heap.size ≤ p ∧ w.heap.size ≤ mb ∧ AwAt w' p mb ⟨client, max last 1, 0, 0, []⟩ ∧ Below w.heap.size w w' := by
  refine Does_of (args := [.int .u64 (client : Int), .int .u64 last]) Try.func11 (by kernel_rfl) rfl rfl rfl rfl rfl ?_
  (refine Ga ?_)
  apply Lst_makemap
  focus rfl
  (refine Ga ?_)
  (apply retQ1; (focus rfl))
  refine ⟨w.heap.size + 1, w.heap.size, rfl, by omega, Nat.le_refl _, ⟨(by (repeat (first | assumption | (apply Blk.below (hb := hb1); rotate_left; (focus ((try simp only [Sx.sizes]); omega)); rotate_right) | (apply Blk.below (hb := hb2); rotate_left; (focus ((try simp only [Sx.sizes]); omega)); rotate_right) | (apply Blk.below (hb := hb3); rotate_left; (focus ((try simp only [Sx.sizes]); omega)); rotate_right) | (apply Blk.below (hb := hb4); rotate_left; (focus ((try simp only [Sx.sizes]); omega)); rotate_right) | (apply Blk.below (hb := hb5); rotate_left; (focus ((try simp only [Sx.sizes]); omega)); rotate_right) | (apply Blk.below (hb := hb6); rotate_left; (focus ((try simp only [Sx.sizes]); omega)); rotate_right) | (apply Blk.below (hb := hb7); rotate_left; (focus ((try simp only [Sx.sizes]); omega)); rotate_right) | (apply Blk.below (hb := hb8); rotate_left; (focus ((try simp only [Sx.sizes]); omega)); rotate_right) | (apply Blk.below (hb := hb9); rotate_left; (focus ((try simp only [Sx.sizes]); omega)); rotate_right) | exact Blk.newE (by first | rfl | ((try simp only [Sx.sizes]); first | done | omega)) _ _ | exact Blk.put_same (by (try simp only [Sx.sizes]); first | done | omega) _ _ | (apply Blk.put_ne; (focus omega)) | apply Blk.alloc | apply Blk.drew)); done), ⟨[], ?_, List.Perm.refl _⟩, List.Pairwise.nil⟩, Bel⟩
  exact (SxU.MpAt.new w RE).mono ((MapKept.heap_alloc _ _).2 _ (by rw [World.size_alloc]; omega)) (fun v a h => h)
theorem c_Tick (p mb : Nat) (a : Awr) (w : World) (h : AwAt w p mb a) : Does Try.prog 29 #[.pointer (some ⟨p, 0, none⟩)] w fun v w' => v = .tuple #[] ∧ AwAt w' p mb { a with now := IntKind.u64.wrap (a.now + 1) } ∧ Chg [p] w w' := by
  refine Does_of (args := [.pointer (some ⟨p, 0, none⟩)]) Try.func29 (by kernel_rfl) rfl rfl rfl rfl rfl ?_
  have hb := h.1
  have hlt := hb.lt
  (refine Ga ?_)
  (first | apply retQ0n | apply retQ0)
  exact ⟨rfl, AwAt.cells h ((Chg.refl _ _).put (by simp) _) (by (repeat (first | assumption | (apply Blk.below (hb := hb1); rotate_left; (focus ((try simp only [Sx.sizes]); omega)); rotate_right) | (apply Blk.below (hb := hb2); rotate_left; (focus ((try simp only [Sx.sizes]); omega)); rotate_right) | (apply Blk.below (hb := hb3); rotate_left; (focus ((try simp only [Sx.sizes]); omega)); rotate_right) | (apply Blk.below (hb := hb4); rotate_left; (focus ((try simp only [Sx.sizes]); omega)); rotate_right) | (apply Blk.below (hb := hb5); rotate_left; (focus ((try simp only [Sx.sizes]); omega)); rotate_right) | (apply Blk.below (hb := hb6); rotate_left; (focus ((try simp only [Sx.sizes]); omega)); rotate_right) | (apply Blk.below (hb := hb7); rotate_left; (focus ((try simp only [Sx.sizes]); omega)); rotate_right) | (apply Blk.below (hb := hb8); rotate_left; (focus ((try simp only [Sx.sizes]); omega)); rotate_right) | (apply Blk.below (hb := hb9); rotate_left; (focus ((try simp only [Sx.sizes]); omega)); rotate_right) | exact Blk.newE (by first | rfl | ((try simp only [Sx.sizes]); first | done | omega)) _ _ | exact Blk.put_same (by (try simp only [Sx.sizes]); first | done | omega) _ _ | (apply Blk.put_ne; (focus omega)) | apply Blk.alloc | apply Blk.drew)); done) rfl, (Chg.refl _ _).put (by simp) _⟩
theorem c_Now (p mb : Nat) (a : Awr) (w : World) (h : AwAt w p mb a) : Does Try.prog 34 #[.pointer (some ⟨p, 0, none⟩)] w fun v w' => v = .int .u64 a.now ∧ w = w' := by
  refine Does_of (args := [.pointer (some ⟨p, 0, none⟩)]) Try.func34 (by kernel_rfl) rfl rfl rfl rfl rfl ?_
  have hb := h.1
  have hlt := hb.lt
  (refine Ga ?_)
  (apply retQ1; (focus rfl))
  exact ⟨rfl, rfl⟩
theorem c_Clock (p mb c : Nat) (a : Awr) (w : World) (h : AwAt w p mb a) : Does Try.prog 15 #[.pointer (some ⟨p, 0, none⟩), .int .u64 (c : Int)] w fun v w' => v = .int .u64 (a.clock c : Int) ∧ w = w' := by
  refine Does_of (args := [.pointer (some ⟨p, 0, none⟩), .int .u64 (c : Int)]) Try.func15 (by kernel_rfl) rfl rfl rfl rfl rfl ?_
  have hb := h.1
  have hlt := hb.lt
  obtain ⟨m, hm, hp, _, hlk⟩ := h.look
  unfold Awr.clock
  by_cases hc : c = a.client
  · rw [if_pos hc]
    (refine Ga ?_)
    (apply retQ1; (focus rfl))
    exact ⟨rfl, rfl⟩
  · rw [if_neg hc]
    (refine Ga ?_)
    apply SxU.Lst_mapget (hmp := hm) (z := nowhere)
    focus rfl
    focus rfl
    focus rfl
    focus rfl
    focus exact nowhere_zero _
    focus rfl
    rintro v there (⟨h1, rfl, rfl⟩ | ⟨e, h1, rfl, rfl⟩)
    · rw [hlk] at h1
      rw [h1]
      unfold nowhere
      (refine Ga ?_)
      (apply retQ1; (focus rfl))
      exact ⟨rfl, rfl⟩
    · rw [hlk] at h1
      rw [h1]
      unfold ecs
      (refine Ga ?_)
      (apply retQ1; (focus rfl))
      exact ⟨rfl, rfl⟩
end Aw
end Go.Proofs.Ytoljcnlmockpcaa
