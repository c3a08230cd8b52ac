/- A view's runs, plainly: cleaned, cut, put together, differences. -/
import Derived.Test.YtglfoofclicfpaaDoorVwP
namespace Go.Proofs.YtglfoofclicfpaaDoor
set_option maxRecDepth 100000
namespace Vw
open Go Go.RowKit Sx Fl Val Mk
open Utf (rs tl Tabs cutS)
theorem tl_add (a b : ByteArray) : tl (a ++ b) = tl a ++ tl b := by
  show (a ++ b).data.toList = _
  rw [ByteArray.data_append, Array.toList_append]
theorem ok_cl {r : Rn} (h : OkR r) : OkR (cl r) := by
  have hv : ∀ {x : Vl}, okV x = true → okV (cleanV x) = true := fun {x} hx => by
    obtain ⟨k, n, f, s⟩ := x
    unfold okV cleanV at *
    dsimp only at *
    split at hx
    · rename_i hk
      rw [if_pos hk]
      rw [decide_eq_true_eq] at hx
      exact decide_eq_true ⟨hx.1, by rw [hx.2.1]; rfl, hx.2.2⟩
    · rename_i hk
      rw [if_neg hk]
      split at hx
      · rename_i hk
        rw [if_pos hk]
        rw [decide_eq_true_eq] at hx
        exact decide_eq_true ⟨hx.1, by rw [hx.2.1]; rfl, hx.2.2⟩
      · rename_i hk
        rw [if_neg hk]
        split at hx
        · rename_i hk
          rw [if_pos hk]
          rw [decide_eq_true_eq] at hx
          exact decide_eq_true ⟨by rw [hx.1]; rfl, hx.2⟩
        · rename_i hk
          rw [if_neg hk]
          split at hx
          · rename_i hk
            rw [if_pos hk]
            exact hx
          · rename_i hk
            rw [if_neg hk]
            split at hx
            · rename_i hk
              rw [if_pos hk]
              rw [decide_eq_true_eq] at hx
              exact decide_eq_true ⟨hx.1, by rw [hx.2.1]; rfl, hx.2.2⟩
            · cases hx
  have hf : ∀ {x : Vl}, x.Fit → (cleanV x).Fit := fun {x} hx => ⟨hx.k0, hx.k1, hx.n0, hx.n1, by
    show nbits x.f < _
    unfold nbits
    split
    · decide
    · exact hx.f1, hx.s1⟩
  refine ⟨h.val, h.em, hv h.ok, hf h.fit, fun he => ?_, fun q hq => ?_⟩
  · show cleanV r.v = zeroV
    rw [h.nz he]
    rfl
  · obtain ⟨p, hp, rfl⟩ := List.mem_map.1 hq
    exact ⟨hv (h.ms p hp).1, hf (h.ms p hp).2⟩
/-- Nothing in it: such a run is left out. -/
def Mt (r : Rn) : Prop := r.em = false ∧ r.tx = ⟨#[]⟩
theorem rs_mt {t : ByteArray} (h : Lib.validD (tl t) = true) : rs (tl t) = [] ↔ t = ⟨#[]⟩ :=
  ⟨fun e => rs_inj h rfl (by rw [e]; rfl), fun e => by rw [e]; rfl⟩
theorem mt_us {r : Rn} (h : Mt r) : usR r = [] := by
  rw [usR_text h.1, h.2]
  rfl
theorem not_mt {r : Rn} (hr : OkR r) (h : ¬ Mt r) : Ne r := by
  cases he : r.em with
  | true => exact .inl he
  | false => exact .inr fun e => h ⟨he, (rs_mt hr.val).1 e⟩
/-- What Clean has made of some runs. -/
structure Cln (out l : List Rn) : Prop where
  ok : ∀ r ∈ out, OkR r
  neat : Neat out
  us : us out = us l
theorem Cln.nil : Cln [] [] := ⟨fun _ h => absurd h List.not_mem_nil, trivial, rfl⟩
theorem Cln.skip {out l : List Rn} {r : Rn} (h : Cln out l) (hr : Mt r) : Cln out (l ++ [r]) := ⟨h.ok, h.neat, by rw [us_append, us_one, mt_us hr, List.append_nil]; exact h.us⟩
theorem Cln.push {out l : List Rn} {r s : Rn} (h : Cln out l) (hs : OkR s) (hu : usR s = usR r) (hn : Ne s) (hj : ∀ q, out.getLast? = some q → ¬ Joins q s) : Cln (out ++ [s]) (l ++ [r]) :=
  ⟨fun x hx => by
    rcases List.mem_append.1 hx with hx | hx
    · exact h.ok x hx
    · rw [List.mem_singleton.1 hx]; exact hs, neat_snoc h.neat hn hj, by rw [us_append, us_append, us_one, us_one, h.us, hu]⟩
theorem Cln.join {out l : List Rn} {q r : Rn} (h : Cln (out ++ [q]) l) (hr : OkR r) (hj : Joins q r) : Cln (out ++ [{ q with tx := q.tx ++ r.tx }]) (l ++ [r]) := by
  have hq := h.ok q (List.mem_append_right _ List.mem_cons_self)
  obtain ⟨h1, h2⟩ := Utf.rs_append hq.val hr.val
  have hne : rs (tl (q.tx ++ r.tx)) ≠ [] := by
    rw [tl_add, h2]
    rcases neat_last h.neat with hn | hn
    · rw [hj.1] at hn; cases hn
    · exact fun e => hn (List.append_eq_nil_iff.1 e).1
  refine ⟨fun x hx => ?_, neat_grow hj.1 hne h.neat, ?_⟩
  · rcases List.mem_append.1 hx with hx | hx
    · exact h.ok x (List.mem_append_left _ hx)
    · rw [List.mem_singleton.1 hx]
      exact ⟨by show Lib.validD (tl (q.tx ++ r.tx)) = true; rw [tl_add]; exact h1, fun he => (by rw [hj.1] at he; cases he), hq.ok, hq.fit, hq.nz, hq.ms⟩
  · rw [us_append, us_append, ← h.us, us_append, us_one, us_one, us_one, List.append_assoc]
    congr 1
    rw [usR_text (r := { q with tx := q.tx ++ r.tx }) hj.1, usR_text hj.1, usR_text hj.2.1]
    show (rs (tl (q.tx ++ r.tx))).map (fun c => Un.ch c (q.ms.map clM)) = _
    rw [tl_add, h2, List.map_append, hj.2.2]
/-- How long. -/
def lenR (r : Rn) : Nat := if r.em then 1 else (rs (tl r.tx)).length
theorem lenR_us (r : Rn) : (usR r).length = lenR r := by
  unfold usR lenR
  split
  · rfl
  · rw [List.length_map]
/-- A part of a run. -/
def cutR (r : Rn) (i k : Nat) : Rn := if r.em then r else { r with tx := cutS r.tx i k }
theorem cutR_us {r : Rn} {i k : Nat} (hi : i < k) (hk : k ≤ lenR r) : usR (cutR r i k) = ((usR r).take k).drop i := by
  unfold cutR
  cases he : r.em with
  | true =>
    have h1 : lenR r = 1 := by unfold lenR; rw [if_pos he]
    rw [if_pos rfl, usR_emb he, show k = 1 by omega, show i = 0 by omega]
    rfl
  | false =>
    rw [if_neg (by simp), usR_text he, usR_text rfl]
    show (rs (tl (cutS r.tx (i : Int) (k : Int)))).map _ = _
    rw [(Utf.rs_cut r.tx i k).2]
    show (((rs (tl r.tx)).take k).drop i).map _ = _
    rw [List.map_drop, List.map_take]
theorem cutR_ok {r : Rn} (h : OkR r) (i k : Nat) : OkR (cutR r i k) := by
  unfold cutR
  cases he : r.em with
  | true => rw [if_pos rfl]; exact h
  | false =>
    rw [if_neg (by simp)]
    exact ⟨(Utf.rs_cut r.tx i k).1, fun e => (by cases e), h.ok, h.fit, fun _ => h.nz he, h.ms⟩
/-- A part of a list and a part of what stands behind it. -/
theorem part_append {α : Type} (A B : List α) (f t : Nat) : ((A ++ B).take t).drop f = (A.take t).drop f ++ (B.take (t - A.length)).drop (f - A.length) := by
  rw [List.take_append, List.drop_append, List.length_take]
  rcases Nat.le_total t A.length with h | h
  · rw [show t - A.length = 0 by omega, List.take_zero, List.drop_nil, List.drop_nil]
  · rw [Nat.min_eq_right h]
/-- Lists of runs of one unit each. -/
def Uni (X : List Rn) : Prop := ∀ r ∈ X, OkR r ∧ ∃ u, usR r = [u]
theorem uni_len : ∀ {X : List Rn}, Uni X → (us X).length = X.length
  | [], _ => rfl
  | r :: X, h => by
    obtain ⟨_, u, hu⟩ := h r List.mem_cons_self
    show (usR r ++ us X).length = X.length + 1
    rw [hu, List.length_append, uni_len fun x hx => h x (List.mem_cons_of_mem _ hx), List.length_singleton]
    omega
theorem uni_take {X : List Rn} (h : Uni X) (k : Nat) : us (X.take k) = (us X).take k := by
  have hl := uni_len h
  have hl2 := uni_len (X := X.take k) fun r hr => h r (List.mem_of_mem_take hr)
  have e : us (X.take k) ++ us (X.drop k) = us X := by rw [← us_append, List.take_append_drop]
  rw [List.length_take] at hl2
  rcases Nat.le_total k X.length with hk | hk
  · rw [← e]
    exact (List.take_left' (by omega)).symm
  · rw [List.take_of_length_le hk, List.take_of_length_le (by omega)]
theorem uni_drop {X : List Rn} (h : Uni X) (k : Nat) : us (X.drop k) = (us X).drop k := by
  have h1 := uni_take h k
  have hl := uni_len h
  have h2 : us (X.take k) ++ us (X.drop k) = us X := by rw [← us_append, List.take_append_drop]
  have h3 := List.take_append_drop k (us X)
  rw [h1] at h2
  exact List.append_cancel_left (h2.trans h3.symm)
theorem uni_get {X : List Rn} (h : Uni X) {i : Nat} (hi : i < X.length) : usR X[i] = [(us X)[i]'(by rw [uni_len h]; exact hi)] := by
  have h1 := uni_take h (i + 1)
  rw [List.take_succ_eq_append_getElem hi, us_append, us_one, uni_take h i, List.take_succ_eq_append_getElem (by rw [uni_len h]; exact hi)] at h1
  exact List.append_cancel_left h1
theorem neat_one {r : Rn} (h : Ne r) : Neat [r] := h
theorem ne_of_uni {r : Rn} {u : Un} (h : usR r = [u]) : Ne r := by
  cases he : r.em with
  | true => exact .inl he
  | false =>
    refine .inr fun e => ?_
    rw [usR_text he, e] at h
    cases h
/-- Runs of one unit each are alike just where their units are. -/
theorem uni_same {x y : Rn} (hx : OkR x) (hy : OkR y) {u v : Un} (hu : usR x = [u]) (hv : usR y = [v]) : sameR x y = true ↔ u = v := by
  rw [sameR_cl hx hy]
  constructor
  · intro h
    have h1 := usR_cl x
    rw [h, usR_cl y, hu, hv] at h1
    exact (List.cons.inj h1).1.symm
  · intro h
    have h1 := neat_unique (a := [x]) (b := [y]) (fun r hr => by rw [List.mem_singleton.1 hr]; exact hx) (fun r hr => by rw [List.mem_singleton.1 hr]; exact hy) (ne_of_uni hu) (ne_of_uni hv) (by rw [us_one, us_one, hu, hv, h])
    exact (List.cons.inj h1).1
/-- The runes of a text, run by run. -/
def split (r : Rn) : List Rn := if r.em then [r] else (rs (tl r.tx)).map fun c => ⟨runesBytes [c], false, zeroV, r.ms⟩
theorem rs_bytes1 {c : Int} (h : Utf.good c) : Lib.validD (tl (runesBytes [c])) = true ∧ rs (tl (runesBytes [c])) = [c] := by
  have hg : ∀ x ∈ [c], Utf.good x := fun x hx => by rw [List.mem_singleton.1 hx]; exact h
  have e : rs (tl (runesBytes [c])) = [c] := by
    show (Utf.runesL (runesBytes [c]).data.toList).getD [] = [c]
    rw [Utf.runesBytes_eq _ hg, Utf.rs_enc _ hg, Option.getD_some]
  refine ⟨?_, e⟩
  cases hv : Lib.validD (tl (runesBytes [c])) with
  | true => rfl
  | false =>
    rw [Utf.rs_none hv] at e
    cases e
theorem zero_ok : okV zeroV = true := by decide
theorem zeroV_fit : zeroV.Fit := ⟨by decide, by decide, by decide, by decide, by decide, (show (0 : Nat) < 140737488355328 by decide)⟩
theorem chr_ok {c : Int} {ms : List Mk} (h : Utf.good c) (hm : ∀ q ∈ ms, okV q.2 = true ∧ q.2.Fit) : OkR ⟨runesBytes [c], false, zeroV, ms⟩ ∧ usR ⟨runesBytes [c], false, zeroV, ms⟩ = [.ch c (ms.map clM)] := by
  obtain ⟨h1, h2⟩ := rs_bytes1 h
  refine ⟨⟨h1, fun e => (by cases e), zero_ok, zeroV_fit, fun _ => rfl, hm⟩, ?_⟩
  rw [usR_text rfl]
  show (rs (tl (runesBytes [c]))).map _ = _
  rw [h2]
  rfl
theorem split_uni {r : Rn} (h : OkR r) : Uni (split r) ∧ us (split r) = usR r := by
  unfold split
  cases he : r.em with
  | true =>
    rw [if_pos rfl]
    exact ⟨fun x hx => by rw [List.mem_singleton.1 hx]; exact ⟨h, _, usR_emb he⟩, us_one r⟩
  | false =>
    rw [if_neg (by simp), usR_text he]
    have hg := Utf.rs_good (tl r.tx)
    generalize rs (tl r.tx) = R at *
    induction R with
    | nil => exact ⟨fun x hx => absurd hx List.not_mem_nil, rfl⟩
    | cons c R ih =>
      obtain ⟨h1, h2⟩ := ih fun x hx => hg x (List.mem_cons_of_mem _ hx)
      obtain ⟨h3, h4⟩ := chr_ok (hg c List.mem_cons_self) h.ms
      refine ⟨fun x hx => ?_, ?_⟩
      · rcases List.mem_cons.1 hx with rfl | hx
        · exact ⟨h3, _, h4⟩
        · exact h1 x hx
      · rw [List.map_cons, List.map_cons]
        show usR _ ++ us _ = _
        rw [h4, h2]
        rfl
/-- How many units two lists begin with alike. -/
structure IsAt (U V : List Un) (n : Nat) : Prop where
  hU : n ≤ U.length
  hV : n ≤ V.length
  eq : ∀ i, i < n → U[i]? = V[i]?
  stop : n < U.length → n < V.length → U[n]? ≠ V[n]?
/-- How many they end with alike, behind those. -/
structure IsEnd (U V : List Un) (n e : Nat) : Prop where
  hU : n + e ≤ U.length
  hV : n + e ≤ V.length
  eq : ∀ i, i < e → U[U.length - 1 - i]? = V[V.length - 1 - i]?
  stop : n + e < U.length → n + e < V.length → U[U.length - 1 - e]? ≠ V[V.length - 1 - e]?
theorem IsAt.unique {U V : List Un} {m n : Nat} (h : IsAt U V m) (k : IsAt U V n) : m = n := by
  rcases Nat.lt_trichotomy m n with hl | hl | hl
  · exact absurd (k.eq m hl) (h.stop (Nat.lt_of_lt_of_le hl k.hU) (Nat.lt_of_lt_of_le hl k.hV))
  · exact hl
  · exact absurd (h.eq n hl) (k.stop (Nat.lt_of_lt_of_le hl h.hU) (Nat.lt_of_lt_of_le hl h.hV))
theorem IsEnd.unique {U V : List Un} {n e f : Nat} (h : IsEnd U V n e) (k : IsEnd U V n f) : e = f := by
  rcases Nat.lt_trichotomy e f with hl | hl | hl
  · exact absurd (k.eq e hl) (h.stop (by have := k.hU; omega) (by have := k.hV; omega))
  · exact hl
  · exact absurd (h.eq f hl) (k.stop (by have := h.hU; omega) (by have := h.hV; omega))
/-- A difference patches the one into the other. -/
theorem diff_patch {U V : List Un} {n e : Nat} (h : IsAt U V n) (k : IsEnd U V n e) : U.take n ++ ((V.take (V.length - e)).drop n) ++ U.drop (U.length - e) = V := by
  have hU := k.hU
  have hV := k.hV
  have e1 : U.take n = V.take n := by
    refine List.ext_getElem? fun i => ?_
    by_cases hi : i < n
    · rw [List.getElem?_take_of_lt hi, List.getElem?_take_of_lt hi]
      exact h.eq i hi
    · rw [List.getElem?_eq_none (by rw [List.length_take]; omega), List.getElem?_eq_none (by rw [List.length_take]; omega)]
  have e2 : U.drop (U.length - e) = V.drop (V.length - e) := by
    refine List.ext_getElem? fun i => ?_
    rw [List.getElem?_drop, List.getElem?_drop]
    by_cases hi : i < e
    · have := k.eq (e - 1 - i) (by omega)
      rwa [show U.length - 1 - (e - 1 - i) = U.length - e + i by omega, show V.length - 1 - (e - 1 - i) = V.length - e + i by omega] at this
    · rw [List.getElem?_eq_none (by omega), List.getElem?_eq_none (by omega)]
  rw [e1, e2, List.append_assoc]
  have e3 : (V.take (V.length - e)).drop n ++ V.drop (V.length - e) = V.drop n := by
    conv => rhs; rw [← List.take_append_drop (V.length - e) V]
    rw [List.drop_append_of_le_length (by rw [List.length_take]; omega)]
  rw [e3, List.take_append_drop]
/-- Of a list that was patched at one place the difference lies within that place. -/
theorem diff_least {P M L S : List Un} {n e : Nat} (h : IsAt (P ++ M ++ S) (P ++ L ++ S) n) (k : IsEnd (P ++ M ++ S) (P ++ L ++ S) n e) :
    (P ++ M ++ S).length - (n + e) ≤ M.length ∧ (P ++ L ++ S).length - (n + e) ≤ L.length := by
  have hU := k.hU
  have hV := k.hV
  have hn : P.length ≤ n ∨ n = (P ++ M ++ S).length ∨ n = (P ++ L ++ S).length := by
    by_cases h1 : P.length ≤ n
    · exact .inl h1
    · refine .inr ?_
      by_cases h2 : n < (P ++ M ++ S).length
      · by_cases h3 : n < (P ++ L ++ S).length
        · refine absurd ?_ (h.stop h2 h3)
          rw [List.append_assoc, List.append_assoc, List.getElem?_append_left (by omega), List.getElem?_append_left (by omega)]
        · exact .inr (by omega)
      · exact .inl (by omega)
  have he : S.length ≤ e ∨ n + e = (P ++ M ++ S).length ∨ n + e = (P ++ L ++ S).length := by
    by_cases h1 : S.length ≤ e
    · exact .inl h1
    · refine .inr ?_
      by_cases h2 : n + e < (P ++ M ++ S).length
      · by_cases h3 : n + e < (P ++ L ++ S).length
        · refine absurd ?_ (k.stop h2 h3)
          have l1 : (P ++ M ++ S).length = (P ++ M).length + S.length := List.length_append
          have l2 : (P ++ L ++ S).length = (P ++ L).length + S.length := List.length_append
          rw [List.getElem?_append_right (by omega), List.getElem?_append_right (by omega)]
          congr 1
          omega
        · exact .inr (by omega)
      · exact .inl (by omega)
  simp only [List.length_append] at *
  omega
theorem diff_none {U V : List Un} {n e : Nat} (h : IsAt U V n) (k : IsEnd U V n e) (hU : n + e = U.length) (hV : n + e = V.length) : U = V := by
  have := diff_patch h k
  rw [List.drop_of_length_le (by rw [List.length_take]; omega), List.append_nil, show U.length - e = n by omega, List.take_append_drop] at this
  exact this
end Vw
end Go.Proofs.YtglfoofclicfpaaDoor
