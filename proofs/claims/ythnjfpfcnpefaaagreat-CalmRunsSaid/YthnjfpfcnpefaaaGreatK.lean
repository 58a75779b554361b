/-
  CalmRuns answers true from any world. Conditions: none.
-/
import Derived.Test.YthnjfpfcnpefaaaGreatJ
import Derived.Test.YthnjfpfcnpefaaaGreatW
import Derived.Test.YthnjfpfcnpefaaaGreatR0
import Derived.Test.YthnjfpfcnpefaaaGreatR1
import Derived.Test.YthnjfpfcnpefaaaGreatR2
import Derived.Test.YthnjfpfcnpefaaaGreatR3
import Derived.Test.YthnjfpfcnpefaaaGreatR4a
import Derived.Test.YthnjfpfcnpefaaaGreatR4b
import Derived.Test.YthnjfpfcnpefaaaGreatR4c
import Derived.Test.YthnjfpfcnpefaaaGreatR4d
import Derived.Test.YthnjfpfcnpefaaaGreatR5a
import Derived.Test.YthnjfpfcnpefaaaGreatR5b
import Derived.Test.YthnjfpfcnpefaaaGreatR5c
import Derived.Test.YthnjfpfcnpefaaaGreatR5d
namespace Go.Proofs.YthnjfpfcnpefaaaGreat
open Go.Am
open Go.RowKit (Below)
set_option maxRecDepth 100000
theorem mixed : Tryz.prog.follows .mixedOrders = true := by kernel_rfl
theorem noHooks (P : Program) : ∀ (f : Nat) (p : PFn), (f, p) ∈ ([] : List (Nat × PFn)) → HookOk P f p := fun f p h => by cases h
theorem sorts : SortNil ∧ SortRow := by
  obtain ⟨t, ht, h⟩ := layTab_ok (noHooks _) sorts_ok
  simp only [sortsTest, Bool.and_eq_true] at h
  obtain ⟨h0, h1, h2, h12, h21⟩ := h
  refine ⟨fun w => sort_nil mixed ht h0 w, ?_⟩
  intro ss w0 w g cap cur hn h12' hne hB hg hb hc hs htk
  have e1 : ([1] : List Int).mergeSort (fun x y => decide (x ≤ y)) = [1] := sort_eq (.refl _) (by simp)
  have e2 : ([2] : List Int).mergeSort (fun x y => decide (x ≤ y)) = [2] := sort_eq (.refl _) (by simp)
  have e12 : ([1, 2] : List Int).mergeSort (fun x y => decide (x ≤ y)) = [1, 2] := sort_eq (.refl _) (by simp)
  have e21 : ([2, 1] : List Int).mergeSort (fun x y => decide (x ≤ y)) = [1, 2] := sort_eq (.swap 2 1 []) (by simp)
  rcases small_cases hn h12' with rfl | rfl | rfl | rfl | rfl
  · exact absurd rfl hne
  · rw [e1]; exact sort_row (ss := [1]) (ts := [1]) mixed ht rfl (by simp) h1 hB hg hb hc hs htk
  · rw [e2]; exact sort_row (ss := [2]) (ts := [2]) mixed ht rfl (by simp) h2 hB hg hb hc hs htk
  · rw [e12]; exact sort_row (ss := [1, 2]) (ts := [1, 2]) mixed ht rfl (by simp) h12 hB hg hb hc hs htk
  · rw [e21]; exact sort_row (ss := [2, 1]) (ts := [1, 2]) mixed ht rfl (by simp) h21 hB hg hb hc hs htk
theorem hooks : ∀ (f : Nat) (p : PFn), (f, p) ∈ [(149, PFn.keys 0)] → HookOk Tryz.prog f p := fun f p h => by
  cases List.mem_singleton.1 h
  exact hook_keys (keys_call sorts.1 sorts.2)
theorem k0 : Known Tryz.prog 6 [vp 7 0, vi 20] (mkS a0h a0m a0n) (.tup [.nsl, vt]) (mkS b0h b0m b0n) := known_run mixed hooks r0_ok
theorem k1 : Known Tryz.prog 7 [vp 7 0, vi 1, .agg [vi 7, vi 0, vi 0, vi 0, vi 0, vi 0, vi 0, vi 0, vi 0, vi 0, vi 0, vi 0, vi 0, vi 0, vi 0, vi 0, vf, vi 5, vi 0]] (mkS a1h a1m a1n) (.tup [.agg [vi 8, vi 0, vi 0, vi 0], vt]) (mkS b1h b1m b1n) := known_run mixed hooks r1_ok
theorem k2 : Known Tryz.prog 7 [vp 7 0, vi 2, .agg [vi 7, vi 0, vi 0, vi 0, vi 0, vi 0, vi 0, vi 0, vi 0, vi 0, vi 0, vi 0, vi 0, vi 0, vi 0, vi 0, vf, vi 5, vi 0]] (mkS a2h a2m a2n) (.tup [.agg [vi 8, vi 0, vi 0, vi 0], vt]) (mkS b2h b2m b2n) := known_run mixed hooks r2_ok
theorem k3 : Known Tryz.prog 10 [vp 7 0] (mkS a3h a3m a3n) (.nsl) (mkS b3h b3m b3n) := known_run mixed hooks r3_ok
theorem k4 : Known Tryz.prog 6 [vp 7 0, vi 100] (mkS a4h a4m a4n) (.tup [.nsl, vt]) (mkS b4h b4m b4n) := known_loop mixed f4_ok fun _ hp _ => ⟨_, rounds_run mixed hooks r4_0_ok hp (rounds_run mixed hooks r4_1_ok hp (rounds_run mixed hooks r4_2_ok hp (loop_run mixed hooks r4_3_ok hp)))⟩
theorem k5 : Known Tryz.prog 7 [vp 7 0, vi 0, .agg [vi 7, vi 0, vi 0, vi 0, vi 0, vi 0, vi 0, vi 0, vi 0, vi 0, vi 0, vi 0, vi 0, vi 0, vi 0, vi 0, vf, vi 5, vi 0]] (mkS a5h a5m a5n) (.tup [.agg [vi 0, vi 0, vi 0, vi 0], vf]) (mkS b5h b5m b5n) := known_loop mixed f5_ok fun _ hp _ => ⟨_, rounds_run mixed hooks r5_0_ok hp (rounds_run mixed hooks r5_1_ok hp (rounds_run mixed hooks r5_2_ok hp (loop_run mixed hooks r5_3_ok hp)))⟩
theorem knowns_ok : ∀ c ∈ knowns, c.Ok Tryz.prog := by
  intro c hc
  simp only [knowns, List.mem_cons, List.not_mem_nil, or_false] at hc
  rcases hc with rfl | rfl | rfl | rfl | rfl | rfl
  · exact k0
  · exact k1
  · exact k2
  · exact k3
  · exact k4
  · exact k5
theorem runs (w : World) : Calls Tryz.prog 3 #[] w fun | .returned x, w' => x = .bool true ∧ Below w.heap.size w w' | _, _ => False := closed_known mixed hooks knowns_ok law_ok w
end Go.Proofs.YthnjfpfcnpefaaaGreat
