/-
  Calls that are handed in, as the evaluator's; a known call. Conditions: none.
-/
import Derived.Test.YtkgjghlklniaeaaRows
import Derived.Test.YtkgjghlklniaeaaJ3
import Derived.Test.YtkgjghlklniaeaaJ1
import Derived.Test.YtkgjghlklniaeaaG1
import Derived.ProofKit
namespace Go.Proofs.Ytkgjghlklniaeaa
open Go.ChangeShapes Go.WideShapes Go.ChangeAt Go.RowKit
open Go.Am (cvt mapW memW Wide SR SlAt BySl AVal)
theorem Try.own : ownKnob Try.prog.godebug = none := by kernel_rfl
theorem Try.laidOut : laidOutB Try.prog = true := by kernel_rfl
theorem cells3 : Try.prog.cellsOf 3 = 1 := by kernel_rfl
theorem cells4 : Try.prog.cellsOf 4 = 1 := by kernel_rfl
theorem cells9 : Try.prog.cellsOf 9 = 1 := by kernel_rfl
theorem cells37 : Try.prog.cellsOf 37 = 1 := by kernel_rfl
theorem cells39 : Try.prog.cellsOf 39 = 7 := by kernel_rfl
theorem i64_of {n : Int} (h : (Lit.int .i64 n).wf = true) : -9223372036854775808 ≤ n ∧ n ≤ 9223372036854775807 := by
  have h : (decide (IntKind.i64.min ≤ n) && decide (n ≤ IntKind.i64.max)) = true := h
  simp only [Bool.and_eq_true, decide_eq_true_eq] at h
  exact h
def AskCell (K : Nat) (W : World) (j : Nat) (v : AVal) : Prop :=
  if j < 5 then ∃ n : Int, (-9223372036854775808 ≤ n ∧ n ≤ 9223372036854775807) ∧ v = .int .i64 n
  else if j = 5 then ∃ b, v = .bool b
  else ∃ n cs mo, SlAt (memW K W) v 1 n cs mo ∧ ∀ k, k < n → ∃ s : List Nat, Am.Bytes s ∧ s.length ≤ 9223372036854775807 ∧ cs[k]? = some (.str s)
theorem str_cells {H : Type} {enc : TypeId × Value → H} {W : World} {K : Nat} {held : Bool} (fuel : Nat) (cs : List Value) (x : DataW H × List MemPlace)
    (hx : DataW.trod enc Try.prog W 0 (fun _ => true) held fuel 9 cs = some x) (j : Nat) (hj : j < Try.prog.cellsOf 9) : ∃ y v, cs[j]? = some y ∧ cvt K W y = some v ∧ ∃ s : List Nat, Am.Bytes s ∧ s.length ≤ 9223372036854775807 ∧ v = .str s := by
  rw [cells9] at hj
  obtain ⟨s, rfl, _, hs⟩ := DataW.trod_string Try.underlying9 hx
  obtain rfl : j = 0 := by omega
  refine ⟨_, _, rfl, rfl, _, fun c hc => ?_, ?_, rfl⟩
  · obtain ⟨b, _, rfl⟩ := List.mem_map.1 hc
    exact b.toNat_lt
  · rw [List.length_map]
    have : s.data.toList.length = s.size := Array.length_toList
    have h2 : maxLen = 9223372036854775807 := by kernel_rfl
    omega
theorem ask_cells {H : Type} {enc : TypeId × Value → H} {W : World} {K : Nat} (hw : Wide K W) {held : Bool} (fuel : Nat) (cs : List Value) (hz : ∀ ad len cap, cs[6]? = some (.slice (some ad) len cap) → 0 < W.heap.size) (x : DataW H × List MemPlace)
    (hx : DataW.trod enc Try.prog W 0 (fun _ => true) held fuel 39 cs = some x) (j : Nat) (hj : j < Try.prog.cellsOf 39) : ∃ y v, cs[j]? = some y ∧ cvt K W y = some v ∧ AskCell K W j v := by
  rw [cells39] at hj
  obtain ⟨xs, n, _, _, hl, hxl, hf⟩ := DataW.trod_struct Try.underlying39 hx
  have hxl : xs.length = 7 := hxl
  have hint : ∀ (i : Nat) (f : Field), i < 5 → (#[{ name := "Kind", type := 3, offset := 0, embedded := false, tag := "", pkgPath := "", byteOffset := 0 },
        { name := "I", type := 3, offset := 1, embedded := false, tag := "", pkgPath := "", byteOffset := 8 },
        { name := "N", type := 3, offset := 2, embedded := false, tag := "", pkgPath := "", byteOffset := 16 },
        { name := "Keep", type := 3, offset := 3, embedded := false, tag := "", pkgPath := "", byteOffset := 24 },
        { name := "Torn", type := 3, offset := 4, embedded := false, tag := "", pkgPath := "", byteOffset := 32 },
        { name := "Raw", type := 4, offset := 5, embedded := false, tag := "", pkgPath := "", byteOffset := 40 },
        { name := "Recs", type := 37, offset := 6, embedded := false, tag := "", pkgPath := "", byteOffset := 48 }] : Array Field)[i]? = some f → f.type = 3 → f.offset = i → ∃ y v, cs[i]? = some y ∧ cvt K W y = some v ∧ AskCell K W i v := by
    intro i f hi hfi ht ho
    have := hf i f hfi
    rw [ht, ho, cells3, List.getElem?_eq_getElem (by omega)] at this
    obtain ⟨m, h1, _, h2⟩ := DataW.trod_int Try.underlying3 this
    refine ⟨_, _, cell_of_cut h1, rfl, ?_⟩
    unfold AskCell
    rw [if_pos hi]
    exact ⟨m, i64_of h2, rfl⟩
  match j, hj with
  | 0, _ => exact hint 0 _ (by omega) rfl rfl rfl
  | 1, _ => exact hint 1 _ (by omega) rfl rfl rfl
  | 2, _ => exact hint 2 _ (by omega) rfl rfl rfl
  | 3, _ => exact hint 3 _ (by omega) rfl rfl rfl
  | 4, _ => exact hint 4 _ (by omega) rfl rfl rfl
  | 5, _ =>
    have : DataW.trod enc Try.prog W 0 (fun _ => true) held n 4 ((cs.drop 5).take (Try.prog.cellsOf 4)) = xs[5]? := hf 5 _ rfl
    rw [cells4, List.getElem?_eq_getElem (by omega)] at this
    obtain ⟨b, h1, _⟩ := DataW.trod_bool Try.underlying4 this
    exact ⟨_, _, cell_of_cut h1, rfl, b, rfl⟩
  | 6, _ =>
    have : DataW.trod enc Try.prog W 0 (fun _ => true) held n 37 ((cs.drop 6).take (Try.prog.cellsOf 37)) = xs[6]? := hf 6 _ rfl
    rw [cells37, List.getElem?_eq_getElem (by omega)] at this
    obtain ⟨X, v, n', cs', mo, h1, _, h3, h4, h5, _⟩ := Am.sl_trod (R := fun _ v => ∃ s : List Nat, Am.Bytes s ∧ s.length ≤ 9223372036854775807 ∧ v = .str s) hw Try.underlying37 (by rw [cells9]; omega) (fun ad len cap h _ => hz ad len cap (cell_of_cut h)) this (fun _ fuel cs x _ hx => str_cells fuel cs x hx)
    rw [cells9] at h3 h4 h5
    refine ⟨X, v, cell_of_cut h1, h4 rfl, n', cs', mo, h3, fun k hk => ?_⟩
    obtain ⟨u, hu, s, g1, g2, rfl⟩ := h5 k hk 0 (by omega)
    exact ⟨s, g1, g2, by simpa using hu⟩
  | n + 7, h => omega
theorem strs_of {n : Nat} : ∀ {cs : List AVal}, cs.length = n → (∀ k, k < n → ∃ s : List Nat, Am.Bytes s ∧ s.length ≤ 9223372036854775807 ∧ cs[k]? = some (.str s)) → ∃ rs : List (List Nat), Am.strs rs = cs ∧ rs.length = n ∧ ∀ r ∈ rs, Am.Bytes r := by
  induction n with
  | zero => intro cs h _; exact ⟨[], by rw [List.length_eq_zero_iff.1 h]; rfl, rfl, fun r hr => by cases hr⟩
  | succ n ih =>
    intro cs h hk
    cases cs with
    | nil => simp at h
    | cons c cs =>
      obtain ⟨s, h1, _, h2⟩ := hk 0 (by omega)
      obtain ⟨rs, g1, g2, g3⟩ := ih (cs := cs) (by simpa using h) fun k hk' => by
        obtain ⟨s, h1, h2, h3⟩ := hk (k + 1) (by omega)
        exact ⟨s, h1, h2, by simpa using h3⟩
      refine ⟨s :: rs, ?_, by simp [g2], fun r hr => ?_⟩
      · simp at h2
        rw [h2, ← g1]; rfl
      · rcases List.mem_cons.1 hr with rfl | hr
        · exact h1
        · exact g3 r hr
theorem ask_of {K : Nat} {W : World} {cs : List AVal} (hl : cs.length = 7) (h : ∀ j, j < 7 → ∃ u, cs[j]? = some u ∧ AskCell K W j u) : ∃ (ak : Am.Ak) (w : AVal), cs = ak.cells w ∧ Am.AkAt (memW K W) w ak := by
  obtain ⟨u0, g0, n0, i0, rfl⟩ := h 0 (by omega)
  obtain ⟨u1, g1, n1, i1, rfl⟩ := h 1 (by omega)
  obtain ⟨u2, g2, n2, i2, rfl⟩ := h 2 (by omega)
  obtain ⟨u3, g3, n3, i3, rfl⟩ := h 3 (by omega)
  obtain ⟨u4, g4, n4, i4, rfl⟩ := h 4 (by omega)
  obtain ⟨u5, g5, b, rfl⟩ := h 5 (by omega)
  obtain ⟨w, g6, m, xs, mo, s1, s2⟩ := h 6 (by omega)
  have hxl : xs.length = m := by have := s1.1; omega
  obtain ⟨rs, e1, e2, e3⟩ := strs_of hxl s2
  subst e1
  subst e2
  refine ⟨⟨n0, n1, n2, n3, n4, b, rs⟩, w, ?_, ⟨mo, s1⟩, ⟨i0, i1, i2, i3, i4⟩, e3⟩
  match cs, hl with
  | [a, b, c, d, e, f, g], _ =>
    simp at g0 g1 g2 g3 g4 g5 g6
    subst g0 g1 g2 g3 g4 g5 g6
    rfl
theorem call13 : ∀ (σ1 : Am.S) (Q1 : AVal → Am.S → Prop), (∀ σ2, Q1 (.bool true) σ2) → Am.WF tabH 13 [] σ1 Q1 := fun σ1 Q1 hQ =>
  ⟨.bool true, σ1, hQ σ1, 1, fun m hm => by
    obtain ⟨m, rfl⟩ : ∃ k, m = k + 1 := ⟨m - 1, by omega⟩
    rw [Am.evalF_succ, tab13]
    exact Am.trueFn_run _ _ _⟩
end Go.Proofs.Ytkgjghlklniaeaa
