/-
  draylaw31.ShellBack: the row and its tied card. Conditions: none.
-/
import Derived.Test.YtdolmkdbpnlegaaGreatDoorTie
import Derived.Test.YtdolmkdbpnlegaaGreatDoorCards
import Derived.Test.YtdolmkdbpnlegaaGreatDoorJ6
import Derived.SevenTiedAt
namespace Go.Proofs.YtdolmkdbpnlegaaGreatDoor
open Go.ChangeShapes Go.WideShapes Go.ChangeAt Go.RowKit Go.ChangeMaps
theorem and_b {a b : Bool} (h : a = true) (k : b = true) : (a && b) = true := by rw [h, k]; rfl
theorem rowed : mapsRowed Tryz.prog = true := by kernel_rfl
theorem inPlace_fact : (Rows.shellBackRow.inPlace == Tryz.prog.inPlace 5) = true := by kernel_rfl
theorem unfollowed_fact : (Rows.shellBackRow.unfollowed == Tryz.prog.unfollowed 5) = true := by kernel_rfl
theorem recurses_fact : (Rows.shellBackRow.recurses == Tryz.prog.recurses 5) = true := by kernel_rfl
theorem named_fact : (Rows.shellBackRow.named == Tryz.prog.varsNamed 5) = true := by kernel_rfl
set_option maxHeartbeats 1000000 in
theorem facts : joinedFacts Tryz.prog 5 Tryz.f5 Rows.shellBackSpec Rows.shellBackRow = true := by
  unfold joinedFacts
  repeat' (with_reducible refine and_b ?_ ?_)
  all_goals first
    | with_reducible exact Tryz.laidOut
    | with_reducible exact rowed
    | with_reducible exact inPlace_fact
    | with_reducible exact unfollowed_fact
    | with_reducible exact recurses_fact
    | with_reducible exact named_fact
    | as_aux_lemma => kernel_rfl
theorem shellBack_row : Rows.ShellBackSaid :=
  OpenClaim.holds_of_wide 5 Tryz.f5 rfl rfl rfl rfl rfl rfl rfl ⟨rfl, rfl, rfl, rfl, rfl⟩ rfl rfl rfl rfl rfl (by as_aux_lemma => kernel_rfl) Tryz.func5 facts
    (of_decide_eq_true (by as_aux_lemma => kernel_rfl)) (by unfold Func.isWrapper; first | (rw [if_pos (by decide +kernel)]; kernel_rfl) | (rw [if_neg (by decide +kernel)]; exact ⟨rfl, rfl⟩))
    (fun os started H enc _ => shellBack_lifted os started H enc)
theorem wfText_fact : Rows.shellBackRow.wfByText (OpenSpec.ofChange Rows.shellBackSpec) = true := by kernel_rfl
theorem mainIs_fact : Tryz.prog.mainIs = some ((true, "e235de07547c42cface13bec8e2db12f1e3b09f27b9b0e00dccd165d7d599057").1, (true, "e235de07547c42cface13bec8e2db12f1e3b09f27b9b0e00dccd165d7d599057").2.toList) := by kernel_rfl
theorem looks_fact : true = Tryz.prog.looks [] := by kernel_rfl
theorem noGo : (Tryz.prog.funcs.toList.all fun fn => !fn.goes) = true := by kernel_rfl
theorem goes_fact : false = Rows.shellBackRow.goesBy Tryz.prog := by
  have hall : ∀ g : Nat, (Tryz.prog.funcs[g]?).any Func.goes = false := fun g => by
    cases h : Tryz.prog.funcs[g]? with
    | none => rfl
    | some fn =>
      have hm : fn ∈ Tryz.prog.funcs.toList := by
        rw [← Array.getElem?_toList] at h; exact List.mem_of_getElem? h
      have := List.all_eq_true.1 noGo fn hm
      simpa using this
  have hany : Tryz.prog.funcs.any Func.goes = false := by
    rw [← Array.any_toList]
    refine List.any_eq_false.2 fun fn hm => ?_
    have := List.all_eq_true.1 noGo fn hm
    simpa using this
  have hf : ∀ f : Nat, Tryz.prog.goes f = false := fun f => by
    unfold Program.goes
    rw [hany, Bool.and_false, Bool.or_false]
    refine List.any_eq_false.2 fun g _ => ?_
    rw [hall g]; simp
  show false = (Tryz.prog.goesFrom Rows.shellBackRow.func || false)
  unfold Program.goesFrom
  generalize Tryz.prog.funcNamed Rows.shellBackRow.func = o
  cases o with
  | none => rfl
  | some f => rw [Option.any_some, hf f]; rfl
theorem wants_fact : (Tryz.f5.params.toList.all fun t => !Tryz.prog.wantsStandIn t) = true := by kernel_rfl
theorem name_fact : Tryz.prog.funcNamed "dray/draylaw31.ShellBack" = some 5 := by kernel_rfl
theorem shellBack_holds : Rows.ShellBackCardSaid :=
  Claim7.holds_tied_plain_at .later [] [.data, .data, .data, .data, .sentinel, .sentinel, .pinned] true (true, "e235de07547c42cface13bec8e2db12f1e3b09f27b9b0e00dccd165d7d599057") true
    shellBack_row (fun _ h => by cases h) wfText_fact (fun _ h => by cases h) shellBack_row_tie rfl ⟨rfl, rfl⟩ mainIs_fact rfl
    (fun f fn hf hfn => by
      obtain rfl : f = 5 := Option.some.inj (name_fact.symm.trans hf) |>.symm
      obtain rfl : fn = Tryz.f5 := (Option.some.inj (Tryz.func5.symm.trans hfn)).symm
      refine ⟨looks_fact, fun j t ht => ?_⟩
      have hm : t ∈ Tryz.f5.params.toList := by rw [← Array.getElem?_toList] at ht; exact List.mem_of_getElem? ht
      have hw := List.all_eq_true.1 wants_fact t hm
      exact (by simpa using hw : Tryz.prog.wantsStandIn t = false))
    goes_fact
end Go.Proofs.YtdolmkdbpnlegaaGreatDoor
