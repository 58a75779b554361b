/-
  draylaw31.ShellRuns answers true, whatever the tapes hold, where the listed variables hold what the program's text lays. Conditions: none.
-/
import Derived.Test.YtoinccnpbdefnaaGreatDoorTie
import Derived.Test.YtoinccnpbdefnaaGreatDoorCards
import Derived.Test.YtoinccnpbdefnaaGreatDoorShellRunsA
import Derived.ProofKit
import Derived.LaidMore
import Derived.Lay
import Derived.Lib.LaidTab
import Derived.Stop.LaidErr
import Derived.SevenTiedAt
namespace Go.Am
/-! What the laid variables give. -/
theorem u64s_eq (l : List Nat) : u64s l = l.map fun n => AVal.int .u64 (.ofNat n) := by
  induction l with
  | nil => rfl
  | cons n l ih => unfold u64s; rw [ih]; rfl
/-- The powers of ten. -/
abbrev pows : List Nat := [1, 10, 100, 1000, 10000, 100000, 1000000, 10000000, 100000000, 1000000000, 10000000000, 100000000000, 1000000000000, 10000000000000, 100000000000000, 1000000000000000, 10000000000000000, 100000000000000000, 1000000000000000000, 10000000000000000000]
theorem beqF {a b : Nat} (h : a ≠ b) : Nat.beq a b = false := by
  cases e : Nat.beq a b with
  | false => rfl
  | true => exact absurd (Nat.eq_of_beq_eq_true e) h
theorem gl_of {w : World} {t : TypeId} {v : Value} {zs : List Nat} (hz : gdata 5 = some (u64s zs)) (h1 : ∃ ty frz, w.heap[1]? = some (.cells #[.iface t v] ty frz))
    (h5 : ∃ ty frz, w.heap[5]? = some (.cells (zs.map fun n => Value.int .u64 (Int.ofNat n)).toArray ty frz)) : GL w := by
  intro g cs h
  by_cases e1 : g = 1
  · subst e1
    have : gdata 1 = some [.top] := rfl
    rw [this] at h; cases h
    obtain ⟨ty, frz, h1⟩ := h1
    refine ⟨_, ty, frz, h1, fun i u hu => ?_⟩
    cases i with
    | zero => cases hu; exact ⟨_, rfl, .top t v⟩
    | succ i => cases hu
  · by_cases e5 : g = 5
    · subst e5
      rw [hz] at h; cases h
      obtain ⟨ty, frz, h5⟩ := h5
      refine ⟨_, ty, frz, h5, fun i u hu => ?_⟩
      rw [u64s_eq, List.getElem?_map] at hu
      cases hn : zs[i]? with
      | none => rw [hn] at hu; cases hu
      | some n =>
        rw [hn] at hu; cases hu
        exact ⟨.int .u64 (.ofNat n), by rw [← Array.getElem?_toList, List.getElem?_map, hn]; rfl, .int _ _⟩
    · unfold gdata at h
      rw [beqF e1] at h
      simp only at h
      rw [beqF e5] at h
      cases h
theorem heap_of_var {P : Program} {w : World} {n : String} {g : Nat} {cs : Array Value} (hg : P.globalNamed n = some g) (h : w.var? P n = some cs) : ∃ ty frz, w.heap[g]? = some (.cells cs ty frz) := by
  unfold World.var? at h
  rw [hg] at h
  simp only [Option.bind_some] at h
  split at h
  · rename_i c t f hc
    cases h
    exact ⟨t, f, hc⟩
  · cases h
end Go.Am
namespace Go.Proofs.YtoinccnpbdefnaaGreatDoor
open Go.ChangeShapes Go.WideShapes Go.ChangeAt Go.RowKit
theorem Tryz.own : ownKnob Tryz.prog.godebug = none := by kernel_rfl
theorem Tryz.laidOut : laidOutB Tryz.prog = true := by kernel_rfl
theorem mixed : Tryz.prog.follows .mixedOrders = true := by kernel_rfl
theorem gErr : Tryz.prog.globalNamed "strconv.ErrSyntax" = some 1 := by kernel_rfl
theorem gPow : Tryz.prog.globalNamed "internal/strconv.uint64pow10" = some 5 := by kernel_rfl
theorem star : "*" ++ "errors.errorString" = "*errors.errorString" := by decide
theorem errType : (Tryz.prog.globals[1]?).map (·.type) = some 82 := by kernel_rfl
theorem row259 (u : TypeId) (h : Tryz.prog.typeName? 3 u = some "*errors.errorString") : u = 259 :=
  typeName_ptr_named (nm := "errors.errorString") (by rw [star]; kernel_rfl) (by kernel_rfl) (by decide) u (by rw [star]; exact h)
theorem cells261 : Tryz.prog.cellsOf 261 = 1 := by kernel_rfl
theorem powType : (Tryz.prog.globals[5]?).map (·.type) = some 263 := by kernel_rfl
theorem cells191 : Tryz.prog.cellsOf 191 = 1 := by kernel_rfl
theorem cells263 : Tryz.prog.cellsOf 263 = 20 := by kernel_rfl
theorem cells9 : Tryz.prog.cellsOf 9 = 1 := by kernel_rfl
/-- The two variables that the run reads. -/
theorem gl_laid {W : World} (hL : laidMet Tryz.prog Rows.shellRunsRow.laid W) : Am.GL W := by
  have h3 := hL.tail.tail
  have h6 := h3.tail.tail.tail
  obtain ⟨a, s, hv, _⟩ := laid_sentinel h6 gErr errType Tryz.underlying82 row259 Tryz.underlying259 Tryz.underlying261 rfl rfl Tryz.underlying9 cells261 cells9
  have ht := Lib.tabIs_of_head (k := .u64) (zs := Am.pows.map Int.ofNat) gPow powType Tryz.underlying263 Tryz.underlying191 cells191 cells263 h3
  refine Am.gl_of (zs := Am.pows) rfl (Am.heap_of_var gErr hv) ?_
  have := Am.heap_of_var gPow ht
  rwa [List.map_map] at this
set_option maxRecDepth 100000 in
theorem shellRuns_lifted (os : Os) (started : os.Started) (H : Type) (enc : TypeId × Value → H) :
    ReturnsInHanded {} Tryz.checked os 3 .any (fun w args => (Rows.shellRunsSpec.pre enc Tryz.prog Tryz.f3 [] false w args ∧ laidMetH Tryz.prog Rows.shellRunsRow.laid w) ∧ sizedMet enc Tryz.prog Tryz.f3 (OpenSpec.ofChange Rows.shellRunsSpec) false w args)
      (Rows.shellRunsSpec.post enc Tryz.prog Tryz.f3 false true false false) := by
  refine returnsInHanded_of_change_and (C := Tryz.checked) (X := fun w _ => laidMetH Tryz.prog Rows.shellRunsRow.laid w) (fun _ _ _ hh h => h.of_heap hh) Tryz.own started (by kernel_rfl) Tryz.func3
    (ChangeSpec.witness_shaped (enc := enc) (C := Tryz.checked) (os := os) (X := fun w _ => laidMetH Tryz.prog Rows.shellRunsRow.laid w) false (World.laidAll Tryz.prog os Rows.shellRunsRow.laid) #[] 8 (World.laidAll_os _ _ _)
      (World.shaped_of_ZipB (by kernel_rfl) (by kernel_rfl)) (by kernel_rfl) (by kernel_rfl) (by kernel_rfl)
      (by rw [MakeChecks.laidMetH_plain _ _ _ (by kernel_rfl)]; exact laidMet_laidAll _ (by kernel_rfl) (by kernel_rfl))) ?_
  intro W base args ds gs before hval0 hW _ _ hL _
  rw [MakeChecks.laidMetH_plain _ _ _ (by kernel_rfl)] at hL
  have hG := gl_laid hL
  have hW' := hW
  obtain ⟨p, q, hA0, hV, rfl, hfz, hnd⟩ := hW
  have hA : DataW.TrodAll enc Tryz.prog W 0 (fun _ => true) true Tryz.f3.params.toList args.toList ds p := hA0
  rw [Tryz.params3] at hA
  obtain ⟨rfl, rfl, rfl⟩ := trodAll_none hA
  obtain ⟨rfl, rfl⟩ := trodVars_none hV
  clear hA0 hval0
  simp only [List.append_nil] at hW'
  refine (Am.closed mixed (fun f p h => (by cases h)) shellRuns_ok W hG).mono fun e W' h => ?_
  cases e with
  | panicked c => exact h.elim
  | outgrown => exact h.elim
  | returned x =>
    obtain ⟨rfl, hB⟩ := h
    exact ⟨_, rfl, Am.post_of_below (pa := []) (pv := []) hW' (fun _ _ _ => trodAll_mk1 (shut_bool Tryz.underlying4 true)) (fun _ _ => trodAll_mk0) (fun _ _ => rfl) rfl hB (ok_one (by kernel_rfl) rfl (okWide_bool_mk Tryz.underlying4 true))⟩
theorem and_b {a b : Bool} (h : a = true) (k : b = true) : (a && b) = true := by rw [h, k]; rfl
theorem rowed : mapsRowed Tryz.prog = true := by kernel_rfl
theorem inPlace_fact : (Rows.shellRunsRow.inPlace == Tryz.prog.inPlace 3) = true := by kernel_rfl
theorem unfollowed_fact : (Rows.shellRunsRow.unfollowed == Tryz.prog.unfollowed 3) = true := by kernel_rfl
theorem recurses_fact : (Rows.shellRunsRow.recurses == Tryz.prog.recurses 3) = true := by kernel_rfl
theorem named_fact : (Rows.shellRunsRow.named == Tryz.prog.varsNamed 3) = true := by kernel_rfl
theorem facts : joinedFacts Tryz.prog 3 Tryz.f3 Rows.shellRunsSpec Rows.shellRunsRow = true := by
  unfold joinedFacts
  repeat' (with_reducible refine and_b ?_ ?_)
  all_goals first
    | with_reducible exact Tryz.laidOut
    | with_reducible exact rowed
    | with_reducible exact inPlace_fact
    | with_reducible exact unfollowed_fact
    | with_reducible exact recurses_fact
    | with_reducible exact named_fact
    | as_aux_lemma => kernel_rfl
theorem shellRuns_row : Rows.ShellRunsSaid :=
  OpenClaim.holds_of_wide 3 Tryz.f3 rfl rfl rfl rfl rfl rfl rfl ⟨rfl, rfl, rfl, rfl, rfl⟩ rfl rfl rfl rfl rfl (by as_aux_lemma => kernel_rfl) Tryz.func3 facts
    (of_decide_eq_true (by as_aux_lemma => kernel_rfl)) (by unfold Func.isWrapper; first | (rw [if_pos (by decide +kernel)]; kernel_rfl) | (rw [if_neg (by decide +kernel)]; exact ⟨rfl, rfl⟩))
    (fun os started H enc _ => shellRuns_lifted os started H enc)
theorem wfText_fact : Rows.shellRunsRow.wfByText (OpenSpec.ofChange Rows.shellRunsSpec) = true := by kernel_rfl
theorem mainIs_fact : Tryz.prog.mainIs = some ((true, "6df695a671bad413235fe51145b09ab9908435660f8cba066a9e4116e54c5645").1, (true, "6df695a671bad413235fe51145b09ab9908435660f8cba066a9e4116e54c5645").2.toList) := by kernel_rfl
theorem looks_fact : true = Tryz.prog.looks [] := by kernel_rfl
theorem noGo : (Tryz.prog.funcs.toList.all fun fn => !fn.goes) = true := by kernel_rfl
theorem goes_fact : false = Rows.shellRunsRow.goesBy Tryz.prog := by
  have hall : ∀ g : Nat, (Tryz.prog.funcs[g]?).any Func.goes = false := fun g => by
    cases h : Tryz.prog.funcs[g]? with
    | none => rfl
    | some fn =>
      have hm : fn ∈ Tryz.prog.funcs.toList := by
        rw [← Array.getElem?_toList] at h; exact List.mem_of_getElem? h
      have := List.all_eq_true.1 noGo fn hm
      simpa using this
  have hany : Tryz.prog.funcs.any Func.goes = false := by
    rw [← Array.any_toList]
    refine List.any_eq_false.2 fun fn hm => ?_
    have := List.all_eq_true.1 noGo fn hm
    simpa using this
  have hf : ∀ f : Nat, Tryz.prog.goes f = false := fun f => by
    unfold Program.goes
    rw [hany, Bool.and_false, Bool.or_false]
    refine List.any_eq_false.2 fun g _ => ?_
    rw [hall g]; simp
  show false = (Tryz.prog.goesFrom Rows.shellRunsRow.func || false)
  unfold Program.goesFrom
  generalize Tryz.prog.funcNamed Rows.shellRunsRow.func = o
  cases o with
  | none => rfl
  | some f => rw [Option.any_some, hf f]; rfl
theorem name_fact : Tryz.prog.funcNamed "dray/draylaw31.ShellRuns" = some 3 := by kernel_rfl
/-- The tied card. -/
theorem shellRuns_holds : Rows.ShellRunsCardSaid :=
  Claim7.holds_tied_plain_at .later [] [.data, .data, .data, .data, .sentinel, .sentinel, .pinned] true (true, "6df695a671bad413235fe51145b09ab9908435660f8cba066a9e4116e54c5645") true
    shellRuns_row (fun _ h => by cases h) wfText_fact (fun _ h => by cases h) shellRuns_row_tie rfl ⟨rfl, rfl⟩ mainIs_fact rfl
    (fun f fn hf hfn => by
      obtain rfl : f = 3 := Option.some.inj (name_fact.symm.trans hf) |>.symm
      obtain rfl : fn = Tryz.f3 := (Option.some.inj (Tryz.func3.symm.trans hfn)).symm
      exact ⟨looks_fact, fun j t ht => by
        rw [Tryz.params3] at ht
        simp at ht⟩)
    goes_fact
end Go.Proofs.YtoinccnpbdefnaaGreatDoor
