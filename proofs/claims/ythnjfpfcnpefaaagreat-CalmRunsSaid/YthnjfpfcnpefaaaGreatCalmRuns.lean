/-
  CalmRuns answers true, whatever the tapes hold. Conditions: none.
-/
import Derived.Test.YthnjfpfcnpefaaaGreatRows
import Derived.Test.YthnjfpfcnpefaaaGreatK
import Derived.ProofKit
namespace Go.Proofs.YthnjfpfcnpefaaaGreat
open Go.ChangeShapes Go.WideShapes Go.ChangeAt Go.RowKit
theorem Tryz.own : ownKnob Tryz.prog.godebug = none := by kernel_rfl
theorem Tryz.laidOut : laidOutB Tryz.prog = true := by kernel_rfl
set_option maxRecDepth 100000 in
theorem calmRuns_lifted (os : Os) (started : os.Started) (H : Type) (enc : TypeId × Value → H) :
    ReturnsInHanded {} Tryz.checked os 3 .any (Rows.calmRunsSpec.pre6 enc Tryz.prog Tryz.f3 Rows.calmRunsRow.domain false) (Rows.calmRunsSpec.post enc Tryz.prog Tryz.f3 false true false false) := by
  refine returnsInHanded_of_change (C := Tryz.checked) Tryz.own started (by kernel_rfl) Tryz.func3
    (ChangeSpec.witness6 (enc := enc) (C := Tryz.checked) false ⟨#[], #[], []⟩ 8 (by kernel_rfl) (by kernel_rfl) (by kernel_rfl) (by kernel_rfl)) ?_
  intro W base args ds gs before hval0 hW hcnd _
  have hW' := hW
  obtain ⟨p, q, hA0, hV, rfl, hfz, hnd⟩ := hW
  have hA : DataW.TrodAll enc Tryz.prog W 0 (fun _ => true) true Tryz.f3.params.toList args.toList ds p := hA0
  rw [Tryz.params3] at hA
  obtain ⟨rfl, rfl, rfl⟩ := trodAll_none hA
  obtain ⟨rfl, rfl⟩ := trodVars_none hV
  clear hA0 hval0
  simp only [List.append_nil] at hW'
  refine (runs W).mono fun e W' h => ?_
  cases e with
  | panicked c => exact h.elim
  | outgrown => exact h.elim
  | returned x =>
    obtain ⟨rfl, hB⟩ := h
    exact ⟨_, rfl, Am.post_of_below (pa := []) (pv := []) hW' (fun _ _ _ => trodAll_mk1 (shut_bool Tryz.underlying4 true)) (fun _ _ => trodAll_mk0) (fun _ _ => rfl) rfl hB (ok_one (by kernel_rfl) rfl (okWide_bool_mk Tryz.underlying4 true))⟩
theorem and_b {a b : Bool} (h : a = true) (k : b = true) : (a && b) = true := by rw [h, k]; rfl
theorem rowed : mapsRowed Tryz.prog = true := by kernel_rfl
theorem inPlace_fact : (Rows.calmRunsRow.inPlace == Tryz.prog.inPlace 3) = true := by kernel_rfl
theorem unfollowed_fact : (Rows.calmRunsRow.unfollowed == Tryz.prog.unfollowed 3) = true := by kernel_rfl
theorem recurses_fact : (Rows.calmRunsRow.recurses == Tryz.prog.recurses 3) = true := by kernel_rfl
theorem named_fact : (Rows.calmRunsRow.named == Tryz.prog.varsNamed 3) = true := by kernel_rfl
theorem facts : joinedFacts Tryz.prog 3 Tryz.f3 Rows.calmRunsSpec Rows.calmRunsRow = true := by
  unfold joinedFacts
  repeat' (with_reducible refine and_b ?_ ?_)
  all_goals first
    | with_reducible exact Tryz.laidOut
    | with_reducible exact rowed
    | with_reducible exact inPlace_fact
    | with_reducible exact unfollowed_fact
    | with_reducible exact recurses_fact
    | with_reducible exact named_fact
    | as_aux_lemma => kernel_rfl
theorem calmRuns_holds : Rows.CalmRunsSaid :=
  OpenClaim.holds_of_wide 3 Tryz.f3 rfl rfl rfl rfl rfl rfl rfl ⟨rfl, rfl, rfl, rfl, rfl⟩ rfl rfl rfl rfl rfl (by as_aux_lemma => kernel_rfl) Tryz.func3 facts
    (of_decide_eq_true (by as_aux_lemma => kernel_rfl)) (by unfold Func.isWrapper; first | (rw [if_pos (by decide +kernel)]; kernel_rfl) | (rw [if_neg (by decide +kernel)]; exact ⟨rfl, rfl⟩))
    (fun os started H enc _ => calmRuns_lifted os started H enc)
end Go.Proofs.YthnjfpfcnpefaaaGreat
