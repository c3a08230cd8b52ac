/- How a row of this chapter opens its arguments; what its laid variables and the world's shape give. -/
import Derived.Test.YtfocnbmihcnaoaaGreatDoorWaF
import Derived.Test.YtfocnbmihcnaoaaGreatDoorWaK
import Derived.Test.YtfocnbmihcnaoaaGreatDoorBytesRow
import Derived.Test.YtfocnbmihcnaoaaGreatDoorRows
import Derived.ProofKit
import Derived.OpenShut
import Derived.Carry
import Derived.SizedLaws
import Derived.HandedShaped
import Derived.Handed
import Derived.Shelf.Vars
import Derived.LaidMore
import Derived.Lay
import Derived.Lib.LaidIn
import Derived.Lib.LaidU8T
import Derived.Lib.LaidTab
namespace Go.Proofs.YtfocnbmihcnaoaaGreatDoor
set_option maxRecDepth 100000
namespace Wa
open Go Go.RowKit Go.ChangeShapes Go.WideShapes Sx Wire Dk
theorem tabIs_of_reads {P : Program} {W : World} {name : String} {k : IntKind} {zs : List Int} {g : Nat} {t e : TypeId} {n : Nat}
    (hg : P.globalNamed name = some g) (hty : (P.globals[g]?).map (·.type) = some t) (ht : P.underlying t = some (.array n e)) (he : P.underlying e = some (.int k)) (hce : P.cellsOf e = 1) (hct : P.cellsOf t = n)
    (h : Lib.VarReads P W name (Lib.tabData k zs)) : Lib.TabIs P W name k zs := by
  obtain ⟨g', t', cs, fuel, p, hg', ht', hvar, hd⟩ := h
  obtain rfl := Option.some.inj (hg.symm.trans hg')
  obtain rfl := Option.some.inj (hty.symm.trans ht')
  unfold Lib.TabIs
  rw [hvar, ← Lib.cells_of_tab ht he hce hct hd]
theorem pow_eq : (Rows.laid_internal_strconv_uint64pow10 : DataW Unit) = Lib.tabData .u64 Lib.pow10Tab := by kernel_rfl
theorem env_of {W : World} (hsh : W.ShapedOpen Tryz.prog) (hL : laidMet Tryz.prog [("math/bits.deBruijn32tab", Rows.laid_math_bits_deBruijn32tab), ("math/bits.deBruijn64tab", Rows.laid_math_bits_deBruijn64tab), ("internal/strconv.uint64pow10", Rows.laid_internal_strconv_uint64pow10), ("unicode/utf8.acceptRanges", Rows.laid_unicode_utf8_acceptRanges), ("strconv.ErrRange", Rows.laid_strconv_ErrRange), ("strconv.ErrSyntax", Rows.laid_strconv_ErrSyntax), ("unicode/utf8.first", Rows.laid_unicode_utf8_first)] W) : Env W := by
  refine ⟨?_, ?_⟩
  · have h : Lib.VarReads Tryz.prog W "internal/strconv.uint64pow10" Rows.laid_internal_strconv_uint64pow10 := Lib.laidMet.reads hL (.tail _ (.tail _ (.head _)))
    rw [pow_eq] at h
    exact tabIs_of_reads (g := 2) (t := 148) (e := 50) (n := 20) (by kernel_rfl) (by kernel_rfl) (by kernel_rfl) (by kernel_rfl) (by kernel_rfl) (by kernel_rfl) h
  · exact cell_of_shapedOpen_int (t := 3) (zero := #[.int .i64 0]) hsh (of_decide_eq_true (by kernel_rfl)) (by kernel_rfl) rfl (by kernel_rfl) (by kernel_rfl) (by kernel_rfl)
section
variable {H : Type} {enc : TypeId × Value → H} {P : Program}
/-- The plain wrap, with a condition on the world and the world's shape. -/
theorem returns_shaped {a : Assume} {C : Checked} {os : Os} {f : FuncId} {fn : Func} {s : ChangeSpec} {conds : List PathCond} {apart fresh handsOn again : Bool} {X : World → Array Value → Prop}
    (hX : ∀ (w w' : World) (args : Array Value), w.heap = w'.heap → X w args → X w' args)
    (own : ownKnob C.prog.godebug = none) (started : os.Started) (noInit : C.prog.inits.idxOf? f = none) (hfn : C.prog.funcs[f]? = some fn)
    (witness : ∃ (w : World) (tape : Tape) (i : Input), w.os = os ∧ (w.forCall tape i).Shaped C.prog ∧ i.vars = [] ∧ Input.okWide C.prog (w.forCall tape i) .any w.heap.size f i ∧
      ((s.pre enc C.prog fn conds apart (w.forCall tape i).memory i.args ∧ X (w.forCall tape i).memory i.args) ∧ sizedMet enc C.prog fn (OpenSpec.ofChange s) apart (w.forCall tape i).memory i.args) ∧ a.holds C.prog (lone (Frame.enter C.prog f i.args .normal) [] (w.forCall tape i)))
    (contract : ∀ (W : World) (base : Nat) (args : Array Value) (ds gs : List (DataW H)) (before : List MemPlace),
      (∀ (j : Nat) t v, fn.params[j]? = some t → args[j]? = some v → Value.okWide C.prog W .any base t v) →
      DataW.Whole enc C.prog fn.params.toList s.vars apart W args.toList ds gs before →
      (DataW.weightsEach C.prog (fn.params.toList ++ s.plain.varTypes C.prog) (ds ++ gs)).all (· ≤ reachBytes) = true → X W args → W.ShapedOpen C.prog →
      Calls C.prog f args W fun e W' => ∃ v, e = .returned v ∧ s.post enc C.prog fn apart fresh handsOn again W args v W') :
    ReturnsInHanded a C os f .any (fun w args => (s.pre enc C.prog fn conds apart w args ∧ X w args) ∧ sizedMet enc C.prog fn (OpenSpec.ofChange s) apart w args) (s.post enc C.prog fn apart fresh handsOn again) := by
  refine returnsInHanded_of_calls own started noInit witness ?_
  intro w tape i _ hsh _ hok hpre _
  obtain ⟨_, _, _, fn', hfn', _, _, _, _, hval⟩ := hok
  have e : fn' = fn := Option.some.inj (hfn'.symm.trans hfn)
  subst e
  obtain ⟨⟨⟨ds, gs, before, hw, _⟩, hx⟩, hz⟩ := hpre
  refine (contract (w.forCall tape i) w.heap.size i.args ds gs before hval (DataW.Whole.of_heap (w' := w.forCall tape i) (by rfl) hw) (hz.weights hw) (hX _ _ _ (by rfl) hx) hsh).mono fun e W' ⟨v, he, hp⟩ => ?_
  subst he
  exact ChangeSpec.post_blind hp
/-- Bytes within a row. -/
theorem open_byW {t e : TypeId} {w : World} {fuel : Nat} {cs : List Value} {x : DataW H × List MemPlace} (ht : P.underlying t = some (.slice e)) (he : P.underlying e = some (.int .u8)) (hc : P.cellsOf e = 1)
    (h : DataW.trod enc P w 0 (fun _ => true) true fuel t cs = some x) : ∃ (v : Value) (l : List UInt8), cs = [v] ∧ By w v l := by
  rcases open_ints ht he hc h with ⟨hcs, hx⟩ | ⟨a, len, cap, zs, hcs, _, hl, hm, hz, hx, hcell, hwz⟩
  · exact ⟨_, [], hcs, .inr ⟨rfl, _, _, rfl⟩⟩
  · simp only [if_true] at hz
    have hlen : (zs.take len).length = len := by rw [List.length_take]; omega
    have hnums : nums ((zs.take len).map fun z => z.toNat.toUInt8) = zs.take len := by
      unfold nums
      rw [List.map_map]
      refine (List.map_congr_left fun z hz' => ?_).trans (List.map_id _)
      exact toU8 z (hwz z (List.mem_of_mem_take hz'))
    refine ⟨_, (zs.take len).map fun z => z.toNat.toUInt8, hcs, ?_⟩
    by_cases h0 : len = 0
    · subst h0
      exact .inr ⟨by simp, _, _, rfl⟩
    · refine .inl ?_
      rw [hnums]
      have hsp := World.cell?_spot (hcell 0 (by omega))
      obtain ⟨b, off, sp⟩ := a
      have hsp : sp = none := hsp
      subst hsp
      refine ⟨b, off, cap, .inl (by rw [hlen]), fun _ => ?_, fun j hj => ?_⟩
      · exact cell_lt' (hcell 0 (by omega))
      · have hj' : j < zs.length := by rw [hlen] at hj; omega
        have := hcell j hj'
        rw [add_none] at this
        rw [this]
        simp [List.getD, hj']
theorem open_keepW {t e : TypeId} {w : World} {v : Value} {d : DataW H} {ps : List MemPlace} {b0 : Nat} (ht : P.underlying t = some (.slice e)) (he : P.underlying e = some (.int .i64)) (hc : P.cellsOf e = 1) (hval : Value.okWide P w .any b0 t v)
    (hd : DataW.Trod enc P w 0 (fun _ => true) true t v d ps) : ∃ l : List Int, Ints w .i64 v l ∧ ∀ z ∈ l, -9223372036854775808 ≤ z ∧ z < 9223372036854775808 := by
  obtain ⟨a0, len0, cap0, rfl⟩ := okWide_slice ht hval
  obtain ⟨fuel, hf⟩ := hd
  rcases open_ints ht he hc hf with ⟨hcs, hx⟩ | ⟨a, len, cap, zs, hcs, _, hl, hm, hz, hx, hcell, hwz⟩
  · have hcs : [Value.slice a0 len0 cap0] = [.slice none 0 0] := by simpa [Value.cells] using hcs
    simp only [List.cons.injEq, Value.slice.injEq, and_true] at hcs
    obtain ⟨rfl, rfl, rfl⟩ := hcs
    exact ⟨[], ⟨0, 0, 0, .inr ⟨⟨none, rfl⟩, rfl⟩, fun e => absurd rfl e, fun j hj => by simp at hj⟩, by simp⟩
  · have hcs : [Value.slice a0 len0 cap0] = [.slice (some a) len cap] := by simpa [Value.cells] using hcs
    simp only [List.cons.injEq, Value.slice.injEq, and_true] at hcs
    obtain ⟨rfl, rfl, rfl⟩ := hcs
    have hspot : a.spot = none := by
      simp only [Value.okWide, ht, Cell.okWide, Cell.ok] at hval
      exact hval.2.2.2.1
    obtain ⟨b, off, sp⟩ := a
    dsimp only at hspot
    subst hspot
    simp only [if_true] at hz
    have hlen : (zs.take len0).length = len0 := by rw [List.length_take]; omega
    refine ⟨zs.take len0, ⟨b, off, cap0, .inl (by rw [hlen]), fun hne => ?_, fun j hj => ?_⟩, fun z hz' => ?_⟩
    · have h0 : 0 < zs.length := by
        have : 0 < (zs.take len0).length := List.length_pos_iff.2 hne
        rw [hlen] at this
        omega
      exact cell_lt' (hcell 0 h0)
    · have hj' : j < zs.length := by rw [hlen] at hj; omega
      have := hcell j hj'
      rw [add_none] at this
      rw [this]
      simp [List.getD, hj']
    · have := hwz z (List.mem_of_mem_take hz')
      simp only [Lit.wf, IntKind.min, IntKind.max, IntKind.signed, IntKind.bits] at this
      simp at this
      omega
theorem getD_opt {α : Type} (l : List α) (j : Nat) (h : j < l.length) (z : α) : l.getD j z = l[j] := by simp [List.getD, h]
/-- An argument that is a slice of slices of bytes. -/
theorem open_bss {t e u : TypeId} {w : World} {v : Value} {d : DataW H} {ps : List MemPlace} {b0 : Nat} (ht : P.underlying t = some (.slice e)) (he : P.underlying e = some (.slice u)) (hu : P.underlying u = some (.int .u8)) (hce : P.cellsOf e = 1) (hcu : P.cellsOf u = 1) (hval : Value.okWide P w .any b0 t v)
    (hd : DataW.Trod enc P w 0 (fun _ => true) true t v d ps) : ∃ L : List (List UInt8), BsS w v L ∧ ∀ a c, v = .slice a L.length c → (∃ b off, a = some ⟨b, off, none⟩) ∨ (a = none ∧ L = [] ∧ c = 0) := by
  obtain ⟨a0, len0, cap0, rfl⟩ := okWide_slice ht hval
  obtain ⟨fuel, hf⟩ := hd
  rcases DataW.trod_slice ht hf with ⟨hcs, hx⟩ | ⟨a, len, cap, elems, rest, n, _, hcs, hx, hb, hl, hm, hlen, hel, _⟩
  · have hcs : [Value.slice a0 len0 cap0] = [.slice none 0 0] := by simpa [Value.cells] using hcs
    simp only [List.cons.injEq, Value.slice.injEq, and_true] at hcs
    obtain ⟨rfl, rfl, rfl⟩ := hcs
    exact ⟨[], ⟨none, 0, rfl, fun j hj => absurd hj (Nat.not_lt_zero _)⟩, fun a c e9 => .inr (by cases e9; exact ⟨rfl, rfl, rfl⟩)⟩
  · have hcs : [Value.slice a0 len0 cap0] = [.slice (some a) len cap] := by simpa [Value.cells] using hcs
    simp only [List.cons.injEq, Value.slice.injEq, and_true] at hcs
    obtain ⟨rfl, rfl, rfl⟩ := hcs
    have hspot : a.spot = none := by
      simp only [Value.okWide, ht, Cell.okWide, Cell.ok] at hval
      exact hval.2.2.2.1
    obtain ⟨b, off, sp⟩ := a
    dsimp only at hspot
    subst hspot
    have each : ∀ i, i < len0 → ∃ (v : Value) (l : List UInt8), w.cell? ⟨b, off + i, none⟩ = some v ∧ By w v l := fun i hi => by
      have hE := hel i hi
      rw [hce, Nat.mul_one, add_none, List.getElem?_eq_getElem (by omega)] at hE
      simp only [Option.bind_eq_some_iff] at hE
      obtain ⟨c1, hc1, hy1⟩ := hE
      obtain ⟨v, l, rfl, hby⟩ := open_byW he hu hcu hy1
      refine ⟨v, l, ?_, hby⟩
      unfold World.cells? at hc1
      split at hc1
      · simp only [List.range_succ, List.range_zero, List.nil_append, List.mapM_cons, List.mapM_nil] at hc1
        have e0 : (⟨b, off + i, none⟩ : Addr).add 0 = ⟨b, off + i, none⟩ := rfl
        rw [e0] at hc1
        cases hcc : w.cell? ⟨b, off + i, none⟩ with
        | none => simp [hcc] at hc1
        | some c => simp [hcc] at hc1; rw [hc1]
      · rename_i h9
        exact absurd (Nat.zero_le _) h9
    have key : ∀ k, k ≤ len0 → ∃ L : List (List UInt8), L.length = k ∧ ∀ j (h : j < L.length), ∃ v, w.cell? ⟨b, off + j, none⟩ = some v ∧ By w v L[j] := by
      intro k
      induction k with
      | zero => exact fun _ => ⟨[], rfl, fun j hj => absurd hj (Nat.not_lt_zero _)⟩
      | succ k ih =>
        intro hk
        obtain ⟨L, h1, h2⟩ := ih (by omega)
        obtain ⟨v, l, h3, h4⟩ := each k (by omega)
        refine ⟨L ++ [l], by rw [List.length_append, h1]; rfl, fun j hj => ?_⟩
        rw [List.length_append, List.length_singleton] at hj
        rcases Nat.lt_succ_iff_lt_or_eq.1 hj with h9 | h9
        · rw [List.getElem_append_left h9]
          exact h2 j h9
        · subst h9
          rw [List.getElem_append_right (Nat.le_refl _)]
          simp only [Nat.sub_self, List.getElem_cons_zero]
          exact ⟨v, by rw [h1]; exact h3, h4⟩
    obtain ⟨L, h1, h2⟩ := key len0 (Nat.le_refl _)
    refine ⟨L, ⟨some ⟨b, off, none⟩, cap0, by rw [h1], fun j hj => ?_⟩, fun a c e9 => .inl ?_⟩
    · obtain ⟨v, h3, h4⟩ := h2 j hj
      exact ⟨b, off, v, rfl, h3, cell_lt' h3, h4⟩
    · cases e9
      exact ⟨b, off, rfl⟩
end
end Wa
end Go.Proofs.YtfocnbmihcnaoaaGreatDoor
