/-
  A closed call inside a greater one. Conditions: none.
-/
import Derived.Test.YtkgjghlklniaeaaK31
namespace Go.Am
open Go.RowKit (Below)
theorem WR.later {w0 w w' : World} {m : Mp} {σ : S} (h : WR w0 m σ w) (hb : Below w.heap.size w w') : WR w0 m σ w' := by
  have hold : ∀ {c : Nat} {o : Obj}, w.heap[c]? = some o → w'.heap[c]? = some o := fun {c o} hc => by
    have : c < w.heap.size := (Array.getElem?_eq_some_iff.1 hc).1
    rw [hb.block c this]; exact hc
  refine ⟨h.below.trans (hb.mono h.below.size), fun b mi hm => ⟨(h.dom b mi hm).1, Nat.lt_of_lt_of_le (h.dom b mi hm).2 hb.size⟩, fun b blk hB => ?_, h.alias, h.fam, h.tidy, fun b mb hB => ?_, h.mpi⟩
  · obtain ⟨mi, h1, ⟨cells, ty, frz, g1, g2, g3, g4⟩⟩ := h.blk b blk hB
    exact ⟨mi, h1, ⟨cells, ty, frz, hold g1, g2, g3, g4⟩⟩
  · obtain ⟨mi, h1, h2, o, g1, g2⟩ := h.mp b mb hB
    exact ⟨mi, h1, h2, o, hold g1, g2⟩
noncomputable def trueFn : PFn := .code [] (.ops [⟨some (sn 0), none, .q (.mov (.val (.bool true)))⟩]) [.tmp (sn 0)]
theorem trueFn_run (call : Caller) (fuel : Nat) (σ : S) : runF call fuel trueFn [] σ = some (.bool true, σ) := by kernel_rfl
section
variable {P : Program}
def TrueCall (P : Program) (f : Nat) : Prop := ∀ w : World, (callFunc f #[]).run P w = .ok (.enter f #[]) w ∧ Calls P f #[] w fun | .returned x, w' => x = .bool true ∧ Below w.heap.size w w' | _, _ => False
theorem hook_true {f : Nat} (h : TrueCall P f) : HookOk P f trueFn := by
  intro w0 call fuel args σ v σ' w m xs hv hW hx
  cases args with
  | cons a l => exact absurd hv (by show ¬ none = _; exact fun e => by cases e)
  | nil =>
    rw [trueFn_run] at hv
    cases hv
    have hxs : xs = #[] := by
      have := hx.length
      simpa using this
    subst hxs
    obtain ⟨h1, h2⟩ := h w
    refine ⟨h1, Calls.mono h2 fun e w' he => ?_⟩
    cases e with
    | returned x =>
      obtain ⟨g1, g2⟩ := he
      subst g1
      exact ⟨m, (SR.bool true).vr, ⟨Mp.le_refl m, fun _ _ => rfl, Nat.le_refl _⟩, hW.later g2⟩
    | panicked c => exact he.elim
    | outgrown => exact he.elim
theorem closed_true {hk : List (Nat × PFn)} {need n f : Nat} (hm : P.follows .mixedOrders = true) (hh : ∀ f p, (f, p) ∈ hk → HookOk P f p) (h : layTab P hk need (fun t => isTrue (evalF (tabT t) n f [] S.start)) = true) : TrueCall P f := by
  intro w
  obtain ⟨t, ht, h⟩ := layTab_ok hh h
  obtain ⟨σ', h⟩ := isTrue_iff h
  obtain ⟨h1, h2⟩ := sound (w0 := w) hm ht n f [] S.start (.bool true) σ' w (fun _ => none) #[] h (WR.start w) .nil
  refine ⟨h1, Calls.mono h2 fun e w' he => ?_⟩
  cases e with
  | returned x =>
    obtain ⟨m', g1, _, g3⟩ := he
    exact ⟨g1.bool, g3.below⟩
  | panicked c => exact he.elim
  | outgrown => exact he.elim
end
end Go.Am
