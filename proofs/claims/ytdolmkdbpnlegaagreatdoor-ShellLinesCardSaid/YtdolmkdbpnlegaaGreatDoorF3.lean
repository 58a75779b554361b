/-
  Functions of the program as conditions. Conditions: none.
-/
import Derived.Test.YtdolmkdbpnlegaaGreatDoorF2
import Derived.KernelRfl
namespace Go.Am
noncomputable def f85.res : List PRes := [.tmp (sn 4)]
noncomputable def f85.body : PC := (.seq (.ops [oq 4 (.mov (.val (.int .i64 0)))]) (.seq (.ops [oq 5 (.mov (ot 0)), oq 6 (.mov (ot 1)), oq 7 (.ixbS (ot 5) (ot 6)), oq 4 (.mov (ot 7))]) .ret))
noncomputable def f85.fn : PFn := .code (slotsN 8) f85.body f85.res
noncomputable def f85 (C : CW) (a0 a1 : AVal) (σ : S) (Q : AVal → S → Prop) : Prop :=
Som (vIxbS a0 a1) fun t7 =>
Ret [some t7] σ Q
theorem f85_eq (C : CW) (a0 a1 : AVal) (σ : S) (Q : AVal → S → Prop) : f85 C   a0 a1 σ Q = wC C f85.body ((E0.set 0 a0).set 1 a1) σ (retK f85.res Q) := by kernel_rfl
theorem f85_ent (a0 a1 : AVal) : enterE [a0, a1] (slotsN 8) E0 = some ((E0.set 0 a0).set 1 a1) := by kernel_rfl
set_option maxRecDepth 20000 in
theorem f85_wf {tab : Nat → Option PFn} (ht : tab 85 = some f85.fn) {a0 a1 : AVal} {σ : S} {Q : AVal → S → Prop} (h : f85 (WF tab)   a0 a1 σ Q) : WF tab 85 [a0, a1] σ Q := wFn_sound ht (wFn_code (f85_ent a0 a1) (Eq.mp (f85_eq (WF tab)   a0 a1 σ Q) h))
end Go.Am
