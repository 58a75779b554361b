/-
  draylaw22.WalPlays answers true, whatever is asked of it. Conditions: none.
-/
import Derived.Test.YtkgjghlklniaeaaRows
import Derived.Test.YtkgjghlklniaeaaJ3
import Derived.Test.YtkgjghlklniaeaaJ6
import Derived.ProofKit
import Derived.SizedLaws
namespace Go.Proofs.Ytkgjghlklniaeaa
open Go.ChangeShapes Go.WideShapes Go.ChangeAt Go.RowKit
open Go.Am (cvt mapW memW Wide SR SlAt BySl AVal)
set_option maxRecDepth 100000 in
theorem plays_run {H : Type} {enc : TypeId × Value → H} {W : World} {base : Nat} {v0 : Value} {d0 : DataW H} {p0 : List MemPlace} (hv : Value.okWide Try.prog W .any base 23 v0) (h0 : DataW.Trod enc Try.prog W 0 (fun _ => true) true 23 v0 d0 p0) :
    Calls Try.prog 4 #[v0] W fun | .returned x, W' => x = .bool true ∧ Below W.heap.size W W' | _, _ => False := by
  obtain ⟨K, hK, lv, n, r3, hl⟩ := asks_arg hv h0
  obtain ⟨v, σ', hv, N, hN⟩ := Am.plays_c (Q := fun v _ => v = .bool true) tabs (Am.memW_ok hK) hl call13 (fun _ => rfl)
  subst hv
  obtain ⟨_, hcalls⟩ := Am.sound (w0 := W) mixed tabH_ok N 4 _ _ _ σ' W _ _ (hN N (Nat.le_refl _)) (Am.memW_rel hK) (.cons _ _ _ _ r3.vr .nil)
  refine hcalls.mono fun e w' he => ?_
  cases e with
  | returned x =>
    obtain ⟨m', g1, _, g3⟩ := he
    exact ⟨g1.bool, g3.below⟩
  | panicked c => exact he.elim
  | outgrown => exact he.elim
set_option maxRecDepth 100000 in
theorem walPlays_lifted (os : Os) (started : os.Started) (H : Type) (enc : TypeId × Value → H) :
    ReturnsInHanded {} Try.checked os 4 .any (Rows.walPlaysSpec.pre6 enc Try.prog Try.f4 Rows.walPlaysRow.domain false) (Rows.walPlaysSpec.post enc Try.prog Try.f4 false true false false) := by
  refine returnsInHanded_of_change_sized (C := Try.checked) Try.own started (by kernel_rfl) Try.func4
    (ChangeSpec.witness6 (enc := enc) (C := Try.checked) false ⟨#[], #[.slice none 0 0], []⟩ 8 (by kernel_rfl) (by kernel_rfl) (by kernel_rfl) (by kernel_rfl)) ?_
  intro W base args ds gs before hval0 hW hcnd _ _
  have hval : ∀ (j : Nat) t v, Try.f4.params[j]? = some t → args[j]? = some v → Value.okWide Try.prog W .any base t v := hval0
  have hW' := hW
  obtain ⟨p, q, hA0, hV, rfl, hfz, hnd⟩ := hW
  have hA : DataW.TrodAll enc Try.prog W 0 (fun _ => true) true Try.f4.params.toList args.toList ds p := hA0
  rw [Try.params4] at hA hval
  obtain ⟨v0, d0, rfl, rfl, h0⟩ := trodAll_one hA
  obtain ⟨rfl, rfl⟩ := trodVars_none hV
  clear hA0 hval0
  simp only [List.append_nil] at hW'
  have hlt : ∀ x ∈ p, x.block < W.heap.size := fun x hx => hW'.lt x hx
  refine (plays_run (hval 0 23 v0 rfl rfl) h0).mono fun e W' he => ?_
  cases e with
  | panicked c => exact he.elim
  | outgrown => exact he.elim
  | returned x =>
    obtain ⟨rfl, hB⟩ := he
    refine ⟨_, rfl, Am.post_of_below (pa := p) (pv := []) hW' (fun _ _ _ => trodAll_mk1 (shut_bool Try.underlying4 true)) (fun sp hsp => ?_) (fun _ _ => rfl) (by simp) hB (ok_one (by kernel_rfl) rfl (okWide_bool_mk Try.underlying4 true))⟩
    exact trodAll_mk1 (WideElems.Trod_stays Try.laidOut (by kernel_rfl) (of_decide_eq_true (by kernel_rfl)) h0 (fun x hx => hB.same (hlt x hx)) (fun x hx => hsp x hx))
theorem walPlays_holds : Rows.WalPlaysSaid :=
  OpenClaim.holds_of_wide 4 Try.f4 rfl rfl rfl rfl rfl rfl rfl ⟨rfl, rfl, rfl, rfl, rfl⟩ rfl rfl rfl rfl rfl (by kernel_rfl) Try.func4 (by kernel_rfl)
    (of_decide_eq_true (by kernel_rfl)) (by unfold Func.isWrapper; first | (rw [if_pos (by decide +kernel)]; kernel_rfl) | (rw [if_neg (by decide +kernel)]; exact ⟨rfl, rfl⟩))
    (fun os started H enc _ => walPlays_lifted os started H enc)
end Go.Proofs.Ytkgjghlklniaeaa
