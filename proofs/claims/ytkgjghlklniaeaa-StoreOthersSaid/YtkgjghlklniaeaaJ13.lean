/-
  The table of the functions that StoreOthers reaches, with StoreRuns as a call known. Conditions: none.
-/
import Derived.Test.YtkgjghlklniaeaaJ12
import Derived.Test.YtkgjghlklniaeaaFT
namespace Go.Proofs.Ytkgjghlklniaeaa
open Go.Am
noncomputable def tabH (f : Nat) : Option PFn := @Bool.rec (fun _ => Option PFn) (tabOf Try.prog f) (some trueFn) (Nat.beq f 30)
theorem tabH_ok (f : Nat) (p : PFn) (h : tabH f = some p) : tabOf Try.prog f = some p ∨ HookOk Try.prog f p := by
  unfold tabH at h
  cases hb : Nat.beq f 30 with
  | false => rw [hb] at h; exact .inl h
  | true =>
    rw [hb] at h
    have := Nat.eq_of_beq_eq_true hb
    subst this
    cases h
    exact .inr (hook_true runs)
theorem tab30 : tabH 30 = some trueFn := rfl
theorem tabs : Tab tabH := by constructor <;> kernel_rfl
end Go.Proofs.Ytkgjghlklniaeaa
