/-
  draylaw22.WalMany answers true, whatever is asked of it. Conditions: none.
-/
import Derived.Test.YtkgjghlklniaeaaRows
import Derived.Test.YtkgjghlklniaeaaJ3
import Derived.Test.YtkgjghlklniaeaaJ6
import Derived.Test.YtkgjghlklniaeaaG2
import Derived.ProofKit
import Derived.SizedLaws
namespace Go.Proofs.Ytkgjghlklniaeaa
open Go.ChangeShapes Go.WideShapes Go.ChangeAt Go.RowKit
open Go.Am (cvt mapW memW Wide SR SRs V1 VR SlAt AVal)
set_option maxRecDepth 100000 in
theorem many_run {W : World} {n every size keep torn : Int} :
    Calls Try.prog 7 #[.int .i64 n, .int .i64 every, .int .i64 size, .int .i64 keep, .int .i64 torn] W fun | .returned x, W' => x = .bool true ∧ Below W.heap.size W W' | _, _ => False := by
  obtain ⟨K, hw⟩ := Am.wide_ex W
  have hw : Wide (K + 1) W := fun b c h => by have := hw b c h; omega
  have hK : 0 < K + 1 := by omega
  obtain ⟨v, σ', hv, N, hN⟩ := Am.many_c (Q := fun v _ => v = .bool true) (n := n) (every := every) (size := size) (keep := keep) (torn := torn) tabs (Am.memW_ok (w := W) hK) (fun σ1 Q1 hQ => call13 σ1 Q1 hQ) (fun _ => rfl)
  subst hv
  obtain ⟨_, hcalls⟩ := Am.sound (w0 := W) mixed tabH_ok N 7 _ _ _ σ' W _ _ (hN N (Nat.le_refl _)) (Am.memW_rel hK) (.cons _ _ _ _ (SR.int _ _).vr (.cons _ _ _ _ (SR.int _ _).vr (.cons _ _ _ _ (SR.int _ _).vr (.cons _ _ _ _ (SR.int _ _).vr (.cons _ _ _ _ (SR.int _ _).vr .nil)))))
  refine hcalls.mono fun e w' he => ?_
  cases e with
  | returned x =>
    obtain ⟨m', g1, _, g3⟩ := he
    exact ⟨g1.bool, g3.below⟩
  | panicked c => exact he.elim
  | outgrown => exact he.elim
set_option maxRecDepth 100000 in
theorem walMany_lifted (os : Os) (started : os.Started) (H : Type) (enc : TypeId × Value → H) :
    ReturnsInHanded {} Try.checked os 7 .any (Rows.walManySpec.pre6 enc Try.prog Try.f7 Rows.walManyRow.domain false) (Rows.walManySpec.post enc Try.prog Try.f7 false true false false) := by
  refine returnsInHanded_of_change_sized (C := Try.checked) Try.own started (by kernel_rfl) Try.func7
    (ChangeSpec.witness6 (enc := enc) (C := Try.checked) false ⟨#[], #[.int .i64 0, .int .i64 0, .int .i64 0, .int .i64 0, .int .i64 0], []⟩ 8 (by kernel_rfl) (by kernel_rfl) (by kernel_rfl) (by kernel_rfl)) ?_
  intro W base args ds gs before hval0 hW hcnd _ _
  have hval : ∀ (j : Nat) t v, Try.f7.params[j]? = some t → args[j]? = some v → Value.okWide Try.prog W .any base t v := hval0
  have hW' := hW
  obtain ⟨p, q, hA0, hV, rfl, hfz, hnd⟩ := hW
  have hA : DataW.TrodAll enc Try.prog W 0 (fun _ => true) true Try.f7.params.toList args.toList ds p := hA0
  rw [Try.params7] at hA hval
  obtain ⟨v0, vs0, d0, dr0, p0, q0, ha, rfl, rfl, h0, hA⟩ := trodAll_cons hA
  obtain ⟨v1, vs1, d1, dr1, p1, q1, rfl, rfl, rfl, h1, hA⟩ := trodAll_cons hA
  obtain ⟨v2, vs2, d2, dr2, p2, q2, rfl, rfl, rfl, h2, hA⟩ := trodAll_cons hA
  obtain ⟨v3, vs3, d3, dr3, p3, q3, rfl, rfl, rfl, h3, hA⟩ := trodAll_cons hA
  obtain ⟨v4, vs4, d4, dr4, p4, q4, rfl, rfl, rfl, h4, hA⟩ := trodAll_cons hA
  obtain ⟨rfl, rfl, rfl⟩ := trodAll_nil hA
  obtain rfl : args = #[v0, v1, v2, v3, v4] := by cases args; simp_all
  obtain ⟨rfl, rfl⟩ := trodVars_none hV
  obtain ⟨x0, rfl, rfl, rfl, w0⟩ := open_int Try.underlying3 (hval 0 3 v0 rfl rfl) h0
  obtain ⟨x1, rfl, rfl, rfl, w1⟩ := open_int Try.underlying3 (hval 1 3 v1 rfl rfl) h1
  obtain ⟨x2, rfl, rfl, rfl, w2⟩ := open_int Try.underlying3 (hval 2 3 v2 rfl rfl) h2
  obtain ⟨x3, rfl, rfl, rfl, w3⟩ := open_int Try.underlying3 (hval 3 3 v3 rfl rfl) h3
  obtain ⟨x4, rfl, rfl, rfl, w4⟩ := open_int Try.underlying3 (hval 4 3 v4 rfl rfl) h4
  clear hA0 hval0
  refine many_run.mono fun e W' he => ?_
  cases e with
  | panicked c => exact he.elim
  | outgrown => exact he.elim
  | returned x =>
    obtain ⟨rfl, hB⟩ := he
    refine ⟨_, rfl, Am.post_of_below (pa := []) (pv := []) hW' (fun _ _ _ => trodAll_mk1 (shut_bool Try.underlying4 true)) (fun sp hsp => ?_) (fun _ _ => rfl) (by simp) hB (ok_one (by kernel_rfl) rfl (okWide_bool_mk Try.underlying4 true))⟩
    exact ⟨[], [], shut_int Try.underlying3 w0, trodAll_mk4 (p := []) (p' := []) (p'' := []) (p3 := []) (shut_int Try.underlying3 w1) (shut_int Try.underlying3 w2) (shut_int Try.underlying3 w3) (shut_int Try.underlying3 w4), rfl⟩
theorem walMany_holds : Rows.WalManySaid :=
  OpenClaim.holds_of_wide 7 Try.f7 rfl rfl rfl rfl rfl rfl rfl ⟨rfl, rfl, rfl, rfl, rfl⟩ rfl rfl rfl rfl rfl (by kernel_rfl) Try.func7 (by kernel_rfl)
    (of_decide_eq_true (by kernel_rfl)) (by unfold Func.isWrapper; first | (rw [if_pos (by decide +kernel)]; kernel_rfl) | (rw [if_neg (by decide +kernel)]; exact ⟨rfl, rfl⟩))
    (fun os started H enc _ => walMany_lifted os started H enc)
end Go.Proofs.Ytkgjghlklniaeaa
