/-
  draylaw31.ShellParses answers true, whatever the line, whatever the tapes hold, where the listed variables hold what the program's text lays. Conditions: none.
-/
import Derived.Test.YtdolmkdbpnlegaaGreatDoorTie
import Derived.Test.YtdolmkdbpnlegaaGreatDoorCards
import Derived.Test.YtdolmkdbpnlegaaGreatDoorJ3
import Derived.Test.YtdolmkdbpnlegaaGreatDoorS1
import Derived.ProofKit
import Derived.LaidMore
import Derived.Lay
import Derived.SevenTiedAt
import Derived.ChangeMaps5
import Derived.SizedLaws
namespace Go.Proofs.YtdolmkdbpnlegaaGreatDoor
open Go.ChangeShapes Go.WideShapes Go.ChangeAt Go.RowKit Go.ChangeMaps
theorem Tryz.own : ownKnob Tryz.prog.godebug = none := by kernel_rfl
theorem Tryz.laidOut : laidOutB Tryz.prog = true := by kernel_rfl
theorem shellParses_run {W : World} (hG : Am.GL W) (s : ByteArray) : Calls Tryz.prog 3 #[.string s] W fun | .returned x, W' => x = .bool true ∧ Below W.heap.size W W' | _, _ => False := by
  obtain ⟨v, σ', hv, N, hN⟩ := Am.parses_c (Q := fun v _ => v = .bool true) hs runs8 Am.ok_start (s := s.data.toList.map (·.toNat)) (fun _ => rfl)
  subst hv
  obtain ⟨_, hcalls⟩ := Am.sound (w0 := W) mixed tabH_ok N 3 _ _ _ σ' W _ _ (hN N (Nat.le_refl _)) (Am.WR.start W hG) (.cons _ _ _ _ (Am.SR.str _ _ rfl).vr .nil)
  refine hcalls.mono fun e w' he => ?_
  cases e with
  | returned x =>
    obtain ⟨m', g1, _, g3⟩ := he
    exact ⟨g1.bool, g3.below⟩
  | panicked c => exact he.elim
  | outgrown => exact he.elim
set_option maxRecDepth 100000 in
theorem shellParses_lifted (os : Os) (started : os.Started) (H : Type) (enc : TypeId × Value → H) :
    ReturnsInHanded {} Tryz.checked os 3 .any (fun w args => (Rows.shellParsesSpec.pre enc Tryz.prog Tryz.f3 [] false w args ∧ laidMetH Tryz.prog Rows.shellParsesRow.laid w) ∧ sizedMet enc Tryz.prog Tryz.f3 (OpenSpec.ofChange Rows.shellParsesSpec) false w args)
      (Rows.shellParsesSpec.post enc Tryz.prog Tryz.f3 false true false false) := by
  refine returnsInHanded_of_change_and (C := Tryz.checked) (X := fun w _ => laidMetH Tryz.prog Rows.shellParsesRow.laid w) (fun _ _ _ hh h => h.of_heap hh) Tryz.own started (by kernel_rfl) Tryz.func3
    (ChangeSpec.witness_shaped (enc := enc) (C := Tryz.checked) (os := os) (X := fun w _ => laidMetH Tryz.prog Rows.shellParsesRow.laid w) false (World.laidAll Tryz.prog os Rows.shellParsesRow.laid) #[.string .empty] 8 (World.laidAll_os _ _ _)
      (World.shaped_of_ZipB (by kernel_rfl) (by kernel_rfl)) (by kernel_rfl) (by kernel_rfl) (by kernel_rfl)
      (by rw [MakeChecks.laidMetH_plain _ _ _ (by kernel_rfl)]; exact laidMet_laidAll _ (by kernel_rfl) (by kernel_rfl))) ?_
  intro W base args ds gs before hval0 hW _ _ hL _
  have hval : ∀ (j : Nat) t v, Tryz.f3.params[j]? = some t → args[j]? = some v → Value.okWide Tryz.prog W .any base t v := hval0
  rw [MakeChecks.laidMetH_plain _ _ _ (by kernel_rfl)] at hL
  have hG : Am.GL W := gl_laid hL.tail.tail hL.tail.tail.tail.tail hL.tail.tail.tail.tail.tail
  have hW' := hW
  obtain ⟨p, q, hA0, hV, rfl, hfz, hnd⟩ := hW
  have hA : DataW.TrodAll enc Tryz.prog W 0 (fun _ => true) true Tryz.f3.params.toList args.toList ds p := hA0
  rw [Tryz.params3] at hA hval
  obtain ⟨v0, d0, rfl, rfl, h0⟩ := trodAll_one hA
  obtain ⟨rfl, rfl⟩ := trodVars_none hV
  obtain ⟨s, rfl, rfl, rfl, ws⟩ := open_string Tryz.underlying9 (hval 0 9 v0 rfl rfl) h0
  clear hA0 hval0
  simp only [List.append_nil] at hW'
  refine (shellParses_run hG s).mono fun e W' h => ?_
  cases e with
  | panicked c => exact h.elim
  | outgrown => exact h.elim
  | returned x =>
    obtain ⟨rfl, hB⟩ := h
    exact ⟨_, rfl, Am.post_of_below (pa := []) (pv := []) hW' (fun _ _ _ => trodAll_mk1 (shut_bool Tryz.underlying4 true)) (fun _ _ => trodAll_mk1 (shut_string Tryz.underlying9 ws)) (fun _ _ => rfl) rfl hB (ok_one (by kernel_rfl) rfl (okWide_bool_mk Tryz.underlying4 true))⟩
theorem and_b {a b : Bool} (h : a = true) (k : b = true) : (a && b) = true := by rw [h, k]; rfl
theorem rowed : mapsRowed Tryz.prog = true := by kernel_rfl
theorem inPlace_fact : (Rows.shellParsesRow.inPlace == Tryz.prog.inPlace 3) = true := by kernel_rfl
theorem unfollowed_fact : (Rows.shellParsesRow.unfollowed == Tryz.prog.unfollowed 3) = true := by kernel_rfl
theorem recurses_fact : (Rows.shellParsesRow.recurses == Tryz.prog.recurses 3) = true := by kernel_rfl
theorem named_fact : (Rows.shellParsesRow.named == Tryz.prog.varsNamed 3) = true := by kernel_rfl
theorem facts : joinedFacts Tryz.prog 3 Tryz.f3 Rows.shellParsesSpec Rows.shellParsesRow = true := by
  unfold joinedFacts
  repeat' (with_reducible refine and_b ?_ ?_)
  all_goals first
    | with_reducible exact Tryz.laidOut
    | with_reducible exact rowed
    | with_reducible exact inPlace_fact
    | with_reducible exact unfollowed_fact
    | with_reducible exact recurses_fact
    | with_reducible exact named_fact
    | as_aux_lemma => kernel_rfl
theorem shellParses_row : Rows.ShellParsesSaid :=
  OpenClaim.holds_of_wide 3 Tryz.f3 rfl rfl rfl rfl rfl rfl rfl ⟨rfl, rfl, rfl, rfl, rfl⟩ rfl rfl rfl rfl rfl (by as_aux_lemma => kernel_rfl) Tryz.func3 facts
    (of_decide_eq_true (by as_aux_lemma => kernel_rfl)) (by unfold Func.isWrapper; first | (rw [if_pos (by decide +kernel)]; kernel_rfl) | (rw [if_neg (by decide +kernel)]; exact ⟨rfl, rfl⟩))
    (fun os started H enc _ => shellParses_lifted os started H enc)
theorem wfText_fact : Rows.shellParsesRow.wfByText (OpenSpec.ofChange Rows.shellParsesSpec) = true := by kernel_rfl
theorem mainIs_fact : Tryz.prog.mainIs = some ((true, "e235de07547c42cface13bec8e2db12f1e3b09f27b9b0e00dccd165d7d599057").1, (true, "e235de07547c42cface13bec8e2db12f1e3b09f27b9b0e00dccd165d7d599057").2.toList) := by kernel_rfl
theorem looks_fact : true = Tryz.prog.looks [] := by kernel_rfl
theorem noGo : (Tryz.prog.funcs.toList.all fun fn => !fn.goes) = true := by kernel_rfl
theorem goes_fact : false = Rows.shellParsesRow.goesBy Tryz.prog := by
  have hall : ∀ g : Nat, (Tryz.prog.funcs[g]?).any Func.goes = false := fun g => by
    cases h : Tryz.prog.funcs[g]? with
    | none => rfl
    | some fn =>
      have hm : fn ∈ Tryz.prog.funcs.toList := by
        rw [← Array.getElem?_toList] at h; exact List.mem_of_getElem? h
      have := List.all_eq_true.1 noGo fn hm
      simpa using this
  have hany : Tryz.prog.funcs.any Func.goes = false := by
    rw [← Array.any_toList]
    refine List.any_eq_false.2 fun fn hm => ?_
    have := List.all_eq_true.1 noGo fn hm
    simpa using this
  have hf : ∀ f : Nat, Tryz.prog.goes f = false := fun f => by
    unfold Program.goes
    rw [hany, Bool.and_false, Bool.or_false]
    refine List.any_eq_false.2 fun g _ => ?_
    rw [hall g]; simp
  show false = (Tryz.prog.goesFrom Rows.shellParsesRow.func || false)
  unfold Program.goesFrom
  generalize Tryz.prog.funcNamed Rows.shellParsesRow.func = o
  cases o with
  | none => rfl
  | some f => rw [Option.any_some, hf f]; rfl
theorem wants_fact : (Tryz.f3.params.toList.all fun t => !Tryz.prog.wantsStandIn t) = true := by kernel_rfl
theorem name_fact : Tryz.prog.funcNamed "dray/draylaw31.ShellParses" = some 3 := by kernel_rfl
theorem shellParses_holds : Rows.ShellParsesCardSaid :=
  Claim7.holds_tied_plain_at .later [] [.data, .data, .data, .data, .sentinel, .sentinel, .pinned] true (true, "e235de07547c42cface13bec8e2db12f1e3b09f27b9b0e00dccd165d7d599057") true
    shellParses_row (fun _ h => by cases h) wfText_fact (fun _ h => by cases h) shellParses_row_tie rfl ⟨rfl, rfl⟩ mainIs_fact rfl
    (fun f fn hf hfn => by
      obtain rfl : f = 3 := Option.some.inj (name_fact.symm.trans hf) |>.symm
      obtain rfl : fn = Tryz.f3 := (Option.some.inj (Tryz.func3.symm.trans hfn)).symm
      refine ⟨looks_fact, fun j t ht => ?_⟩
      have hm : t ∈ Tryz.f3.params.toList := by rw [← Array.getElem?_toList] at ht; exact List.mem_of_getElem? ht
      have hw := List.all_eq_true.1 wants_fact t hm
      exact (by simpa using hw : Tryz.prog.wantsStandIn t = false))
    goes_fact
end Go.Proofs.YtdolmkdbpnlegaaGreatDoor
