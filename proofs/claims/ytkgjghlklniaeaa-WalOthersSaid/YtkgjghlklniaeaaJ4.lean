/-
  draylaw22.WalOthers answers true, whatever is asked of it. Conditions: none.
-/
import Derived.Test.YtkgjghlklniaeaaRows
import Derived.Test.YtkgjghlklniaeaaJ3
import Derived.Test.YtkgjghlklniaeaaJ1
import Derived.Test.YtkgjghlklniaeaaC3
import Derived.ProofKit
import Derived.SizedLaws
namespace Go.Proofs.Ytkgjghlklniaeaa
open Go.ChangeShapes Go.WideShapes Go.ChangeAt Go.RowKit
open Go.Am (cvt mapW memW Wide SR SlAt BySl AVal)
theorem Try.own : ownKnob Try.prog.godebug = none := by kernel_rfl
theorem Try.laidOut : laidOutB Try.prog = true := by kernel_rfl
theorem cells3 : Try.prog.cellsOf 3 = 1 := by kernel_rfl
theorem cells4 : Try.prog.cellsOf 4 = 1 := by kernel_rfl
theorem cells5 : Try.prog.cellsOf 5 = 1 := by kernel_rfl
theorem cells9 : Try.prog.cellsOf 9 = 1 := by kernel_rfl
theorem cells37 : Try.prog.cellsOf 37 = 1 := by kernel_rfl
theorem cells39 : Try.prog.cellsOf 39 = 7 := by kernel_rfl
theorem i64_of {n : Int} (h : (Lit.int .i64 n).wf = true) : -9223372036854775808 ≤ n ∧ n ≤ 9223372036854775807 := by
  have h : (decide (IntKind.i64.min ≤ n) && decide (n ≤ IntKind.i64.max)) = true := h
  simp only [Bool.and_eq_true, decide_eq_true_eq] at h
  exact h
/-- What an Ask's cells are. -/
def AskCell (K : Nat) (W : World) (j : Nat) (v : AVal) : Prop :=
  if j < 5 then ∃ n : Int, (-9223372036854775808 ≤ n ∧ n ≤ 9223372036854775807) ∧ v = .int .i64 n
  else if j = 5 then ∃ b, v = .bool b
  else ∃ n cs mo, SlAt (memW K W) v 1 n cs mo ∧ ∀ k, k < n → ∃ s : List Nat, Am.Bytes s ∧ s.length ≤ 9223372036854775807 ∧ cs[k]? = some (.str s)
theorem ask_cells {H : Type} {enc : TypeId × Value → H} {W : World} {K : Nat} (hw : Wide K W) {held : Bool} (h0 : 0 < W.heap.size) (fuel : Nat) (cs : List Value) (x : DataW H × List MemPlace)
    (hx : DataW.trod enc Try.prog W 0 (fun _ => true) held fuel 39 cs = some x) (j : Nat) (hj : j < Try.prog.cellsOf 39) : ∃ y v, cs[j]? = some y ∧ cvt K W y = some v ∧ AskCell K W j v := by
  rw [cells39] at hj
  obtain ⟨xs, n, _, _, hl, hxl, hf⟩ := DataW.trod_struct Try.underlying39 hx
  have hxl : xs.length = 7 := hxl
  have hint : ∀ (i : Nat) (f : Field), i < 5 → (#[{ name := "Kind", type := 3, offset := 0, embedded := false, tag := "", pkgPath := "", byteOffset := 0 },
        { name := "I", type := 3, offset := 1, embedded := false, tag := "", pkgPath := "", byteOffset := 8 },
        { name := "N", type := 3, offset := 2, embedded := false, tag := "", pkgPath := "", byteOffset := 16 },
        { name := "Keep", type := 3, offset := 3, embedded := false, tag := "", pkgPath := "", byteOffset := 24 },
        { name := "Torn", type := 3, offset := 4, embedded := false, tag := "", pkgPath := "", byteOffset := 32 },
        { name := "Raw", type := 4, offset := 5, embedded := false, tag := "", pkgPath := "", byteOffset := 40 },
        { name := "Recs", type := 37, offset := 6, embedded := false, tag := "", pkgPath := "", byteOffset := 48 }] : Array Field)[i]? = some f → f.type = 3 → f.offset = i → ∃ y v, cs[i]? = some y ∧ cvt K W y = some v ∧ AskCell K W i v := by
    intro i f hi hfi ht ho
    have := hf i f hfi
    rw [ht, ho, cells3, List.getElem?_eq_getElem (by omega)] at this
    obtain ⟨m, h1, _, h2⟩ := DataW.trod_int Try.underlying3 this
    refine ⟨_, _, cell_of_cut h1, rfl, ?_⟩
    unfold AskCell
    rw [if_pos hi]
    exact ⟨m, i64_of h2, rfl⟩
  match j, hj with
  | 0, _ => exact hint 0 _ (by omega) rfl rfl rfl
  | 1, _ => exact hint 1 _ (by omega) rfl rfl rfl
  | 2, _ => exact hint 2 _ (by omega) rfl rfl rfl
  | 3, _ => exact hint 3 _ (by omega) rfl rfl rfl
  | 4, _ => exact hint 4 _ (by omega) rfl rfl rfl
  | 5, _ =>
    have : DataW.trod enc Try.prog W 0 (fun _ => true) held n 4 ((cs.drop 5).take (Try.prog.cellsOf 4)) = xs[5]? := hf 5 _ rfl
    rw [cells4, List.getElem?_eq_getElem (by omega)] at this
    obtain ⟨b, h1, _⟩ := DataW.trod_bool Try.underlying4 this
    exact ⟨_, _, cell_of_cut h1, rfl, b, rfl⟩
  | 6, _ =>
    have : DataW.trod enc Try.prog W 0 (fun _ => true) held n 37 ((cs.drop 6).take (Try.prog.cellsOf 37)) = xs[6]? := hf 6 _ rfl
    rw [cells37, List.getElem?_eq_getElem (by omega)] at this
    obtain ⟨X, v, n', cs', mo, h1, _, h3, h4, h5, _⟩ := Am.sl_trod (R := fun _ v => ∃ s : List Nat, Am.Bytes s ∧ s.length ≤ 9223372036854775807 ∧ v = .str s) hw Try.underlying37 (by rw [cells9]; omega) (fun _ _ _ _ _ => h0) this (fun _ fuel cs x hl hx j hj => by
      rw [cells9] at hj
      obtain ⟨s, rfl, _, hs⟩ := DataW.trod_string Try.underlying9 hx
      obtain rfl : j = 0 := by omega
      refine ⟨_, _, rfl, rfl, _, fun c hc => ?_, ?_, rfl⟩
      · obtain ⟨b, _, rfl⟩ := List.mem_map.1 hc
        exact b.toNat_lt
      · rw [List.length_map]
        have : s.data.toList.length = s.size := Array.length_toList
        have h2 : maxLen = 9223372036854775807 := by kernel_rfl
        omega)
    rw [cells9] at h3 h4 h5
    refine ⟨X, v, cell_of_cut h1, h4 rfl, n', cs', mo, h3, fun k hk => ?_⟩
    obtain ⟨u, hu, s, g1, g2, rfl⟩ := h5 k hk 0 (by omega)
    exact ⟨s, g1, g2, by simpa using hu⟩
  | n + 7, h => omega
set_option maxRecDepth 100000 in
/-- What a call of the law comes to. -/
theorem others_run {H : Type} {enc : TypeId × Value → H} {W : World} {base : Nat} {file at_ : Int} {v2 v3 : Value} {d2 d3 : DataW H} {p2 p3 : List MemPlace}
    (hv2 : Value.okWide Try.prog W .any base 22 v2) (hv3 : Value.okWide Try.prog W .any base 23 v3)
    (h2 : DataW.Trod enc Try.prog W 0 (fun _ => true) true 22 v2 d2 p2) (h3 : DataW.Trod enc Try.prog W 0 (fun _ => true) true 23 v3 d3 p3)
    (hsz : ∀ es sp, d2 = .slice es sp → (es.length + sp.length) * Try.prog.bytesOf 5 ≤ reachBytes) :
    Calls Try.prog 3 #[.int .i64 file, .int .i64 at_, v2, v3] W fun | .returned x, W' => x = .bool true ∧ Below W.heap.size W W' | _, _ => False := by
  obtain ⟨K, hw⟩ := Am.wide_ex W
  have hw : Wide (K + 1) W := fun b c h => by have := hw b c h; omega
  obtain ⟨pv, p, mp, r2, hp, hpb, hd⟩ := Am.by_arg hw Try.underlying22 Try.underlying5 cells5 hv2 h2
  obtain ⟨lv, n, cs, ml, r3, hl, hc, _⟩ := Am.sl_arg (R := AskCell (K + 1) W) hw Try.underlying23 (by rw [cells39]; omega) hv3 h3 (fun h0 fuel cs x _ hx => ask_cells hw h0 fuel cs x hx)
  rw [cells39] at hl hc
  have hpl : p.length ≤ 4611686018427387904 := by
    rcases hd with ⟨_, h⟩ | ⟨es, sp, h, he⟩
    · omega
    · have := hsz es sp h
      have hb : Try.prog.bytesOf 5 = 1 := by kernel_rfl
      rw [hb] at this
      unfold reachBytes at this
      omega
  have hok := Am.memW_ok (K := K + 1) (w := W) (by omega)
  have h13 : ∀ (σ1 : Am.S) (Q1 : AVal → Am.S → Prop), Am.Ok σ1 → (∀ σ2, Q1 (.bool true) σ2) → Am.WF tabH 13 [] σ1 Q1 := fun σ1 Q1 _ hQ =>
    ⟨.bool true, σ1, hQ σ1, 1, fun m hm => by
      obtain ⟨m, rfl⟩ : ∃ k, m = k + 1 := ⟨m - 1, by omega⟩
      rw [Am.evalF_succ, tab13]
      exact Am.trueFn_run _ _ _⟩
  obtain ⟨v, σ', hv, N, hN⟩ := Am.others_c (Q := fun v _ => v = .bool true) tabs hok hl (fun k hk => by
    obtain ⟨u, hu, hu'⟩ := hc k hk 1 (by omega)
    obtain ⟨i, hi, rfl⟩ := hu'
    exact ⟨i, hi, hu⟩) hp hpb hpl (file := file) (at_ := at_) h13 (fun _ => rfl)
  subst hv
  obtain ⟨_, hcalls⟩ := Am.sound (w0 := W) mixed tabH_ok N 3 _ _ _ σ' W _ _ (hN N (Nat.le_refl _)) (Am.memW_rel (by omega)) (.cons _ _ _ _ (SR.int _ _).vr (.cons _ _ _ _ (SR.int _ _).vr (.cons _ _ _ _ r2.vr (.cons _ _ _ _ r3.vr .nil))))
  refine hcalls.mono fun e w' he => ?_
  cases e with
  | returned x =>
    obtain ⟨m', g1, _, g3⟩ := he
    exact ⟨g1.bool, g3.below⟩
  | panicked c => exact he.elim
  | outgrown => exact he.elim
set_option maxRecDepth 100000 in
theorem walOthers_lifted (os : Os) (started : os.Started) (H : Type) (enc : TypeId × Value → H) :
    ReturnsInHanded {} Try.checked os 3 .any (Rows.walOthersSpec.pre6 enc Try.prog Try.f3 Rows.walOthersRow.domain false) (Rows.walOthersSpec.post enc Try.prog Try.f3 false true false false) := by
  refine returnsInHanded_of_change_sized (C := Try.checked) Try.own started (by kernel_rfl) Try.func3
    (ChangeSpec.witness6 (enc := enc) (C := Try.checked) false ⟨#[], #[.int .i64 0, .int .i64 0, .slice none 0 0, .slice none 0 0], []⟩ 8 (by kernel_rfl) (by kernel_rfl) (by kernel_rfl) (by kernel_rfl)) ?_
  intro W base args ds gs before hval0 hW hcnd hsz _
  have hval : ∀ (j : Nat) t v, Try.f3.params[j]? = some t → args[j]? = some v → Value.okWide Try.prog W .any base t v := hval0
  have hW' := hW
  obtain ⟨p, q, hA0, hV, rfl, hfz, hnd⟩ := hW
  have hA : DataW.TrodAll enc Try.prog W 0 (fun _ => true) true Try.f3.params.toList args.toList ds p := hA0
  rw [Try.params3] at hA hval
  obtain ⟨v0, v1, v2, v3, d0, d1, d2, d3, p0, p1, p2, p3, rfl, rfl, rfl, h0, h1, h2, h3⟩ := trodAll_four hA
  obtain ⟨rfl, rfl⟩ := trodVars_none hV
  have hv2 := hval 2 22 v2 rfl rfl
  have hv3 := hval 3 23 v3 rfl rfl
  obtain ⟨a, rfl, rfl, rfl, wa⟩ := open_int Try.underlying3 (hval 0 3 v0 rfl rfl) h0
  obtain ⟨b, rfl, rfl, rfl, wb⟩ := open_int Try.underlying3 (hval 1 3 v1 rfl rfl) h1
  have hsz : (DataW.weightsEach Try.prog [3, 3, 22, 23] [.lit (.int .i64 a), .lit (.int .i64 b), d2, d3]).all (· ≤ reachBytes) = true := by
    have hsz : (DataW.weightsEach Try.prog (Try.f3.params.toList ++ []) ([.lit (.int .i64 a), .lit (.int .i64 b), d2, d3] ++ [])).all (· ≤ reachBytes) = true := hsz
    rw [Try.params3] at hsz
    exact hsz
  clear hA0 hval0
  simp only [List.append_nil] at hW'
  have hlt2 : ∀ x ∈ p2, x.block < W.heap.size := fun x hx => hW'.lt x (by simp [hx])
  have hlt3 : ∀ x ∈ p3, x.block < W.heap.size := fun x hx => hW'.lt x (by simp [hx])
  refine (others_run hv2 hv3 h2 h3 (fun es sp hd => sized_slice hsz (j := 2) rfl (by rw [hd]; rfl) Try.underlying22)).mono fun e W' he => ?_
  cases e with
  | panicked c => exact he.elim
  | outgrown => exact he.elim
  | returned x =>
    obtain ⟨rfl, hB⟩ := he
    refine ⟨_, rfl, Am.post_of_below (pa := p2 ++ p3) (pv := []) hW' (fun _ _ _ => trodAll_mk1 (shut_bool Try.underlying4 true)) (fun sp hsp => ?_) (fun _ _ => rfl) (by simp) hB (ok_one (by kernel_rfl) rfl (okWide_bool_mk Try.underlying4 true))⟩
    refine trodAll_mk4 (p := []) (p' := []) (shut_int Try.underlying3 wa) (shut_int Try.underlying3 wb) ?_ ?_
    · exact WideElems.Trod_stays Try.laidOut (by kernel_rfl) (of_decide_eq_true (by kernel_rfl)) h2 (fun x hx => hB.same (hlt2 x hx)) (fun x hx => hsp x (by simp [hx]))
    · exact WideElems.Trod_stays Try.laidOut (by kernel_rfl) (of_decide_eq_true (by kernel_rfl)) h3 (fun x hx => hB.same (hlt3 x hx)) (fun x hx => hsp x (by simp [hx]))
theorem and_b {a b : Bool} (h : a = true) (k : b = true) : (a && b) = true := by rw [h, k]; rfl
theorem walOthers_holds : Rows.WalOthersSaid :=
  OpenClaim.holds_of_wide 3 Try.f3 rfl rfl rfl rfl rfl rfl rfl ⟨rfl, rfl, rfl, rfl, rfl⟩ rfl rfl rfl rfl rfl (by kernel_rfl) Try.func3 (by kernel_rfl)
    (of_decide_eq_true (by kernel_rfl)) (by unfold Func.isWrapper; first | (rw [if_pos (by decide +kernel)]; kernel_rfl) | (rw [if_neg (by decide +kernel)]; exact ⟨rfl, rfl⟩))
    (fun os started H enc _ => walOthers_lifted os started H enc)
end Go.Proofs.Ytkgjghlklniaeaa
