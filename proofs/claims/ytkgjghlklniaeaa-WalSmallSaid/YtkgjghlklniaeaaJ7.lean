/-
  draylaw22.WalSmall answers true, whatever is asked of it, at any quota. Conditions: none.
-/
import Derived.Test.YtkgjghlklniaeaaRows
import Derived.Test.YtkgjghlklniaeaaJ3
import Derived.Test.YtkgjghlklniaeaaJ6
import Derived.ProofKit
import Derived.SizedLaws
namespace Go.Proofs.Ytkgjghlklniaeaa
open Go.ChangeShapes Go.WideShapes Go.ChangeAt Go.RowKit
open Go.Am (cvt mapW memW Wide SR SlAt BySl AVal)
set_option maxRecDepth 100000 in
theorem small_run {H : Type} {enc : TypeId × Value → H} {W : World} {base : Nat} {quota : Int} {v0 : Value} {d0 : DataW H} {p0 : List MemPlace} (hv : Value.okWide Try.prog W .any base 23 v0) (h0 : DataW.Trod enc Try.prog W 0 (fun _ => true) true 23 v0 d0 p0) :
    Calls Try.prog 5 #[.int .i64 quota, v0] W fun | .returned x, W' => x = .bool true ∧ Below W.heap.size W W' | _, _ => False := by
  obtain ⟨K, hK, lv, n, r3, hl⟩ := asks_arg hv h0
  obtain ⟨v, σ', hv, N, hN⟩ := Am.small_c (Q := fun v _ => v = .bool true) (quota := quota) tabs (Am.memW_ok hK) hl (fun σ1 Q1 _ => call13 σ1 Q1) (fun _ => rfl)
  subst hv
  obtain ⟨_, hcalls⟩ := Am.sound (w0 := W) mixed tabH_ok N 5 _ _ _ σ' W _ _ (hN N (Nat.le_refl _)) (Am.memW_rel hK) (.cons _ _ _ _ (SR.int _ _).vr (.cons _ _ _ _ r3.vr .nil))
  refine hcalls.mono fun e w' he => ?_
  cases e with
  | returned x =>
    obtain ⟨m', g1, _, g3⟩ := he
    exact ⟨g1.bool, g3.below⟩
  | panicked c => exact he.elim
  | outgrown => exact he.elim
set_option maxRecDepth 100000 in
theorem walSmall_lifted (os : Os) (started : os.Started) (H : Type) (enc : TypeId × Value → H) :
    ReturnsInHanded {} Try.checked os 5 .any (Rows.walSmallSpec.pre6 enc Try.prog Try.f5 Rows.walSmallRow.domain false) (Rows.walSmallSpec.post enc Try.prog Try.f5 false true false false) := by
  refine returnsInHanded_of_change_sized (C := Try.checked) Try.own started (by kernel_rfl) Try.func5
    (ChangeSpec.witness6 (enc := enc) (C := Try.checked) false ⟨#[], #[.int .i64 0, .slice none 0 0], []⟩ 8 (by kernel_rfl) (by kernel_rfl) (by kernel_rfl) (by kernel_rfl)) ?_
  intro W base args ds gs before hval0 hW hcnd _ _
  have hval : ∀ (j : Nat) t v, Try.f5.params[j]? = some t → args[j]? = some v → Value.okWide Try.prog W .any base t v := hval0
  have hW' := hW
  obtain ⟨p, q, hA0, hV, rfl, hfz, hnd⟩ := hW
  have hA : DataW.TrodAll enc Try.prog W 0 (fun _ => true) true Try.f5.params.toList args.toList ds p := hA0
  rw [Try.params5] at hA hval
  obtain ⟨v0, v1, d0, d1, p0, p1, rfl, rfl, rfl, h0, h1⟩ := trodAll_two hA
  obtain ⟨rfl, rfl⟩ := trodVars_none hV
  have hv1 := hval 1 23 v1 rfl rfl
  obtain ⟨a, rfl, rfl, rfl, wa⟩ := open_int Try.underlying3 (hval 0 3 v0 rfl rfl) h0
  clear hA0 hval0
  simp only [List.append_nil] at hW'
  have hlt1 : ∀ x ∈ p1, x.block < W.heap.size := fun x hx => hW'.lt x (by simp [hx])
  refine (small_run hv1 h1).mono fun e W' he => ?_
  cases e with
  | panicked c => exact he.elim
  | outgrown => exact he.elim
  | returned x =>
    obtain ⟨rfl, hB⟩ := he
    refine ⟨_, rfl, Am.post_of_below (pa := p1) (pv := []) hW' (fun _ _ _ => trodAll_mk1 (shut_bool Try.underlying4 true)) (fun sp hsp => ?_) (fun _ _ => rfl) (by simp) hB (ok_one (by kernel_rfl) rfl (okWide_bool_mk Try.underlying4 true))⟩
    refine trodAll_mk2 (p := []) (shut_int Try.underlying3 wa) ?_
    exact WideElems.Trod_stays Try.laidOut (by kernel_rfl) (of_decide_eq_true (by kernel_rfl)) h1 (fun x hx => hB.same (hlt1 x hx)) (fun x hx => hsp x (by simp [hx]))
theorem walSmall_holds : Rows.WalSmallSaid :=
  OpenClaim.holds_of_wide 5 Try.f5 rfl rfl rfl rfl rfl rfl rfl ⟨rfl, rfl, rfl, rfl, rfl⟩ rfl rfl rfl rfl rfl (by kernel_rfl) Try.func5 (by kernel_rfl)
    (of_decide_eq_true (by kernel_rfl)) (by unfold Func.isWrapper; first | (rw [if_pos (by decide +kernel)]; kernel_rfl) | (rw [if_neg (by decide +kernel)]; exact ⟨rfl, rfl⟩))
    (fun os started H enc _ => walSmall_lifted os started H enc)
end Go.Proofs.Ytkgjghlklniaeaa
