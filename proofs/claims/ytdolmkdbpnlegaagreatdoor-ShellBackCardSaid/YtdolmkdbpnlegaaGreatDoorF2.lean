/-
  Functions of the program as conditions. Conditions: none.
-/
import Derived.Test.YtdolmkdbpnlegaaGreatDoorF1
import Derived.KernelRfl
namespace Go.Am
noncomputable def f28.c0 : PC := (.seq (.seq (.ops [oq 6 (.mov (ot 5)), oq 7 (.mov (ot 1)), oq 8 (.lenSl (ot 7)), oq 9 (.bin .lss .num (ot 6) (ot 8))]) (.cond (ot 9) .skip (.exit 0))) (.seq (.block 1 (.ops [oq 12 (.mov (ot 0)), oq 13 (.bin .add .num (ot 12) (.val (.str [32]))), oq 14 (.mov (ot 1)), oq 15 (.mov (ot 5)), oq 16 (.ixSl 1 (ot 14) (ot 15)), oq 17 (.load1 (ot 16)), oe 18 (.call 32 [(ot 17)]), oq 19 (.bin .add .num (ot 13) (ot 18)), oq 0 (.mov (ot 19))])) (.ops [oq 10 (.mov (ot 5)), oq 11 (.bin .add .num (ot 10) (.val (.int .i64 1))), oq 5 (.mov (ot 11))])))
noncomputable def f28.res : List PRes := [.tmp (sn 4)]
noncomputable def f28.p0 (C : CW) (Q : AVal → S → Prop) (R0 : PC) (E : En) (σ : S) : Prop :=
Som (vLenSl (E 1)) fun t8 =>
Som (binA .lss .num (E 5) t8) fun t9 =>
WIf t9 (
Som (binA .add .num (E 0) (.str [32])) fun t13 =>
Som (vIxSl 1 (E 1) (E 5)) fun t16 =>
Som (vLoad1 t16 σ) fun t17 =>
C 32 [t17] σ fun t18 σ1 =>
Som (binA .add .num t13 t18) fun t19 =>
Som (binA .add .num (E 5) (.int .i64 1)) fun t11 =>
wC C (.loop R0) ((((((((((((((((E.set 6 (E 5)).set 7 (E 1)).set 8 t8).set 9 t9).set 12 (E 0)).set 13 t13).set 14 (E 1)).set 15 (E 5)).set 16 t16).set 17 t17).set 18 t18).set 19 t19).set 0 t19).set 10 (E 5)).set 11 t11).set 5 t11) σ1 (blockK 0 (seqK (wC C (.seq (.ops [oq 20 (.mov (ot 0)), oq 4 (.mov (ot 20))]) .ret)) (retK f28.res Q)))) (
Ret [some (E 0)] σ Q)
theorem f28.p0_eq (C : CW) (Q : AVal → S → Prop) (R0 : PC) (E : En) (σ : S) : f28.p0 C Q R0 E σ = wC C f28.c0 E σ (loopK C R0 (blockK 0 (seqK (wC C (.seq (.ops [oq 20 (.mov (ot 0)), oq 4 (.mov (ot 20))]) .ret)) (retK f28.res Q)))) := by kernel_rfl
abbrev f28.L0 (C : CW) (Q : AVal → S → Prop) (E : En) (σ : S) : Prop := wC C (.loop f28.c0) E σ (blockK 0 (seqK (wC C (.seq (.ops [oq 20 (.mov (ot 0)), oq 4 (.mov (ot 20))]) .ret)) (retK f28.res Q)))
set_option maxRecDepth 20000 in
theorem f28.p0_of {tab : Nat → Option PFn} {Q : AVal → S → Prop} {E : En} {σ : S} (h : f28.p0 (WF tab) Q f28.c0 E σ) : f28.L0 (WF tab) Q E σ := wLoop_step (Eq.mp (f28.p0_eq (WF tab) Q f28.c0 E σ) h)
noncomputable def f28.body (R0 : PC) : PC := (.seq (.ops [oq 4 (.mov (.val (.str [])))]) (.seq (.seq (.ops [oq 5 (.mov (.val (.int .i64 0)))]) (.block 0 (.loop R0))) (.seq (.ops [oq 20 (.mov (ot 0)), oq 4 (.mov (ot 20))]) .ret)))
noncomputable def f28.fn : PFn := .code (slotsN 21) (f28.body f28.c0) f28.res
noncomputable def f28 (C : CW) (R0 : PC) (a0 a1 : AVal) (σ : S) (Q : AVal → S → Prop) : Prop :=
wC C (.loop R0) ((((E0.set 0 a0).set 1 a1).set 4 (.str [])).set 5 (.int .i64 0)) σ (blockK 0 (seqK (wC C (.seq (.ops [oq 20 (.mov (ot 0)), oq 4 (.mov (ot 20))]) .ret)) (retK f28.res Q)))
theorem f28_eq (C : CW) (R0 : PC) (a0 a1 : AVal) (σ : S) (Q : AVal → S → Prop) : f28 C R0  a0 a1 σ Q = wC C (f28.body R0) ((E0.set 0 a0).set 1 a1) σ (retK f28.res Q) := by kernel_rfl
theorem f28_ent (a0 a1 : AVal) : enterE [a0, a1] (slotsN 21) E0 = some ((E0.set 0 a0).set 1 a1) := by kernel_rfl
set_option maxRecDepth 20000 in
theorem f28_wf {tab : Nat → Option PFn} (ht : tab 28 = some f28.fn) {a0 a1 : AVal} {σ : S} {Q : AVal → S → Prop} (h : f28 (WF tab) f28.c0  a0 a1 σ Q) : WF tab 28 [a0, a1] σ Q := wFn_sound ht (wFn_code (f28_ent a0 a1) (Eq.mp (f28_eq (WF tab) f28.c0  a0 a1 σ Q) h))
noncomputable def f29.c2 : PC := (.seq (.ops [oq 58 (.mov (ot 9)), oq 59 (.mov (ot 10)), oq 60 (.mov (ot 0)), oq 61 (.ixSl 1 (ot 58) (ot 59)), ⟨none, none, (.e (.store 1 (ot 61) (ot 60)))⟩]) (.seq (.ops [oq 62 (.mov (ot 9)), oq 63 (.mov (ot 10)), oq 64 (.bin .add .num (ot 63) (.val (.int .i64 1))), oq 65 (.slSl 1 (ot 62) none (some (ot 64)) none), oq 8 (.mov (ot 65))]) .ret))
noncomputable def f29.c1 : PC := (.seq (.seq (.ops [oq 34 (.mov (ot 10)), oq 35 (.mov (ot 3)), oq 36 (.bin .lss .num (ot 34) (ot 35))]) (.cond (ot 36) .skip (.exit 0))) (.block 1 (.seq (.ops [oq 37 (.mov (ot 0)), oq 38 (.mov (ot 1)), oe 39 (.call 47 [(ot 37), (ot 38)]), oq 11 (.mov (ot 39))]) (.seq (.seq (.ops [oq 40 (.mov (ot 11)), oq 41 (.bin .lss .num (ot 40) (.val (.int .i64 0)))]) (.cond (ot 41) (.exit 0) .skip)) (.seq (.ops [oq 42 (.mov (ot 9)), oq 43 (.mov (ot 10)), oq 44 (.mov (ot 0)), oq 45 (.mov (ot 11)), oq 46 (.mov (ot 2)), oq 47 (.bin .add .num (ot 45) (ot 46)), oq 48 (.slStr (ot 44) none (some (ot 47))), oq 49 (.ixSl 1 (ot 42) (ot 43)), ⟨none, none, (.e (.store 1 (ot 49) (ot 48)))⟩]) (.seq (.ops [oq 50 (.mov (ot 0)), oq 51 (.mov (ot 11)), oq 52 (.mov (ot 1)), oq 53 (.lenStr (ot 52)), oq 54 (.bin .add .num (ot 51) (ot 53)), oq 55 (.slStr (ot 50) (some (ot 54)) none), oq 0 (.mov (ot 55))]) (.ops [oq 56 (.mov (ot 10)), oq 57 (.bin .add .num (ot 56) (.val (.int .i64 1))), oq 10 (.mov (ot 57))])))))))
noncomputable def f29.t0 (R1 R2 : PC) : PC := (.seq (.ops [oq 25 (.mov (ot 3)), oq 26 (.mov (ot 0)), oq 27 (.lenStr (ot 26)), oq 28 (.bin .add .num (ot 27) (.val (.int .i64 1))), oq 29 (.minI (ot 25) [(ot 28)]), oq 3 (.mov (ot 29))]) (.seq (.ops [oq 30 (.mov (ot 3)), oa 31 (.mkslice 1 16 [(.str [])] (ot 30) (ot 30)), oq 9 (.mov (ot 31))]) (.seq (.ops [oq 32 (.mov (ot 3)), oq 33 (.bin .sub .num (ot 32) (.val (.int .i64 1))), oq 3 (.mov (ot 33))]) (.seq (.ops [oq 10 (.mov (.val (.int .i64 0)))]) (.seq (.block 0 (.loop R1)) R2)))))
noncomputable def f29.c0 : PC := f29.t0 f29.c1 f29.c2
noncomputable def f29.res : List PRes := [.tmp (sn 8)]
noncomputable def f29.p2 (C : CW) (Q : AVal → S → Prop) (E : En) (σ : S) : Prop :=
Som (vIxSl 1 (E 9) (E 10)) fun t61 =>
Eff (storeW 1 t61 (E 0) σ) fun _ σ1 =>
Som (binA .add .num (E 10) (.int .i64 1)) fun t64 =>
Som (vSlSl 1 (E 9) none (some t64) none) fun t65 =>
Ret [some t65] σ1 Q
theorem f29.p2_eq (C : CW) (Q : AVal → S → Prop) (E : En) (σ : S) : f29.p2 C Q  E σ = wC C f29.c2 E σ (retK f29.res Q) := by kernel_rfl
abbrev f29.J2 (C : CW) (Q : AVal → S → Prop) (E : En) (σ : S) : Prop := wC C f29.c2 E σ (retK f29.res Q)
set_option maxRecDepth 20000 in
theorem f29.p2_of {C : CW} {Q : AVal → S → Prop} {E : En} {σ : S} (h : f29.p2 C Q  E σ) : f29.J2 C Q E σ := Eq.mp (f29.p2_eq C Q  E σ) h
noncomputable def f29.p1 (C : CW) (Q : AVal → S → Prop) (R2 R1 : PC) (E : En) (σ : S) : Prop :=
Som (binA .lss .num (E 10) (E 3)) fun t36 =>
WIf t36 (
C 47 [(E 0), (E 1)] σ fun t39 σ1 =>
Som (binA .lss .num t39 (.int .i64 0)) fun t41 =>
WIf t41 (
wC C R2 (((((((((E.set 34 (E 10)).set 35 (E 3)).set 36 t36).set 37 (E 0)).set 38 (E 1)).set 39 t39).set 11 t39).set 40 t39).set 41 t41) σ1 (retK f29.res Q)) (
Som (binA .add .num t39 (E 2)) fun t47 =>
Som (vSlStr (E 0) none (some t47)) fun t48 =>
Som (vIxSl 1 (E 9) (E 10)) fun t49 =>
Eff (storeW 1 t49 t48 σ1) fun _ σ2 =>
Som (vLenStr (E 1)) fun t53 =>
Som (binA .add .num t39 t53) fun t54 =>
Som (vSlStr (E 0) (some t54) none) fun t55 =>
Som (binA .add .num (E 10) (.int .i64 1)) fun t57 =>
wC C (.loop R1) (((((((((((((((((((((((((((E.set 34 (E 10)).set 35 (E 3)).set 36 t36).set 37 (E 0)).set 38 (E 1)).set 39 t39).set 11 t39).set 40 t39).set 41 t41).set 42 (E 9)).set 43 (E 10)).set 44 (E 0)).set 45 t39).set 46 (E 2)).set 47 t47).set 48 t48).set 49 t49).set 50 (E 0)).set 51 t39).set 52 (E 1)).set 53 t53).set 54 t54).set 55 t55).set 0 t55).set 56 (E 10)).set 57 t57).set 10 t57) σ2 (blockK 0 (seqK (wC C R2) (retK f29.res Q))))) (
wC C R2 (((E.set 34 (E 10)).set 35 (E 3)).set 36 t36) σ (retK f29.res Q))
theorem f29.p1_eq (C : CW) (Q : AVal → S → Prop) (R2 R1 : PC) (E : En) (σ : S) : f29.p1 C Q R2 R1 E σ = wC C f29.c1 E σ (loopK C R1 (blockK 0 (seqK (wC C R2) (retK f29.res Q)))) := by kernel_rfl
abbrev f29.L1 (C : CW) (Q : AVal → S → Prop) (E : En) (σ : S) : Prop := wC C (.loop f29.c1) E σ (blockK 0 (seqK (wC C f29.c2) (retK f29.res Q)))
set_option maxRecDepth 20000 in
theorem f29.p1_of {tab : Nat → Option PFn} {Q : AVal → S → Prop} {E : En} {σ : S} (h : f29.p1 (WF tab) Q f29.c2 f29.c1 E σ) : f29.L1 (WF tab) Q E σ := wLoop_step (Eq.mp (f29.p1_eq (WF tab) Q f29.c2 f29.c1 E σ) h)
noncomputable def f29.p0 (C : CW) (Q : AVal → S → Prop) (R1 R2 : PC) (E : En) (σ : S) : Prop :=
Som (vLenStr (E 0)) fun t27 =>
Som (binA .add .num t27 (.int .i64 1)) fun t28 =>
Som (minA (E 3) [t28]) fun t29 =>
Ala (aMakeV 1 16 [(.str [])] t29 t29) σ fun t31 σ1 =>
Som (binA .sub .num t29 (.int .i64 1)) fun t33 =>
wC C (.loop R1) (((((((((((((E.set 25 (E 3)).set 26 (E 0)).set 27 t27).set 28 t28).set 29 t29).set 3 t29).set 30 t29).set 31 t31).set 9 t31).set 32 t29).set 33 t33).set 3 t33).set 10 (.int .i64 0)) σ1 (blockK 0 (seqK (wC C R2) (retK f29.res Q)))
theorem f29.p0_eq (C : CW) (Q : AVal → S → Prop) (R1 R2 : PC) (E : En) (σ : S) : f29.p0 C Q R1 R2 E σ = wC C (f29.t0 R1 R2) E σ (retK f29.res Q) := by kernel_rfl
abbrev f29.J0 (C : CW) (Q : AVal → S → Prop) (E : En) (σ : S) : Prop := wC C f29.c0 E σ (retK f29.res Q)
set_option maxRecDepth 20000 in
theorem f29.p0_of {C : CW} {Q : AVal → S → Prop} {E : En} {σ : S} (h : f29.p0 C Q f29.c1 f29.c2 E σ) : f29.J0 C Q E σ := Eq.mp (f29.p0_eq C Q f29.c1 f29.c2 E σ) h
noncomputable def f29.body (R0 : PC) : PC := (.seq (.ops [oq 8 (.mov (.val .nsl))]) (.seq (.seq (.ops [oq 12 (.mov (ot 3)), oq 13 (.bin .eql .num (ot 12) (.val (.int .i64 0)))]) (.cond (ot 13) (.seq (.ops [oq 8 (.mov (.val .nsl))]) .ret) .skip)) (.seq (.seq (.ops [oq 14 (.mov (ot 1)), oq 15 (.bin .eql .num (ot 14) (.val (.str [])))]) (.cond (ot 15) (.seq (.ops [oq 16 (.mov (ot 0)), oq 17 (.mov (ot 3)), oe 18 (.call 45 [(ot 16), (ot 17)]), oq 8 (.mov (ot 18))]) .ret) .skip)) (.seq (.seq (.ops [oq 19 (.mov (ot 3)), oq 20 (.bin .lss .num (ot 19) (.val (.int .i64 0)))]) (.cond (ot 20) (.ops [oq 21 (.mov (ot 0)), oq 22 (.mov (ot 1)), oe 23 (.call 46 [(ot 21), (ot 22)]), oq 24 (.bin .add .num (ot 23) (.val (.int .i64 1))), oq 3 (.mov (ot 24))]) .skip)) R0))))
noncomputable def f29.fn : PFn := .code (slotsN 66) (f29.body f29.c0) f29.res
noncomputable def f29 (C : CW) (R0 : PC) (a0 a1 a2 a3 : AVal) (σ : S) (Q : AVal → S → Prop) : Prop :=
Som (binA .eql .num a3 (.int .i64 0)) fun t13 =>
WIf t13 (
Ret [some .nsl] σ Q) (
Som (binA .eql .num a1 (.str [])) fun t15 =>
WIf t15 (
C 45 [a0, a3] σ fun t18 σ1 =>
Ret [some t18] σ1 Q) (
Som (binA .lss .num a3 (.int .i64 0)) fun t20 =>
WIf t20 (
C 46 [a0, a1] σ fun t23 σ1 =>
Som (binA .add .num t23 (.int .i64 1)) fun t24 =>
wC C R0 ((((((((((((((((E0.set 0 a0).set 1 a1).set 2 a2).set 3 a3).set 8 .nsl).set 12 a3).set 13 t13).set 14 a1).set 15 t15).set 19 a3).set 20 t20).set 21 a0).set 22 a1).set 23 t23).set 24 t24).set 3 t24) σ1 (retK f29.res Q)) (
wC C R0 (((((((((((E0.set 0 a0).set 1 a1).set 2 a2).set 3 a3).set 8 .nsl).set 12 a3).set 13 t13).set 14 a1).set 15 t15).set 19 a3).set 20 t20) σ (retK f29.res Q))))
theorem f29_eq (C : CW) (R0 : PC) (a0 a1 a2 a3 : AVal) (σ : S) (Q : AVal → S → Prop) : f29 C R0  a0 a1 a2 a3 σ Q = wC C (f29.body R0) ((((E0.set 0 a0).set 1 a1).set 2 a2).set 3 a3) σ (retK f29.res Q) := by kernel_rfl
theorem f29_ent (a0 a1 a2 a3 : AVal) : enterE [a0, a1, a2, a3] (slotsN 66) E0 = some ((((E0.set 0 a0).set 1 a1).set 2 a2).set 3 a3) := by kernel_rfl
set_option maxRecDepth 20000 in
theorem f29_wf {tab : Nat → Option PFn} (ht : tab 29 = some f29.fn) {a0 a1 a2 a3 : AVal} {σ : S} {Q : AVal → S → Prop} (h : f29 (WF tab) f29.c0  a0 a1 a2 a3 σ Q) : WF tab 29 [a0, a1, a2, a3] σ Q := wFn_sound ht (wFn_code (f29_ent a0 a1 a2 a3) (Eq.mp (f29_eq (WF tab) f29.c0  a0 a1 a2 a3 σ Q) h))
noncomputable def f30.c1 : PC := (.seq (.ops [oq 68 (.build [(.int .i64 0), (.int .i64 0), (.int .i64 0), (.int .i64 0), (.int .i64 0), (.int .i64 0), (.int .i64 0), (.int .i64 0), (.int .i64 0), (.int .i64 0), (.int .i64 0), (.int .i64 0), (.int .i64 0), (.int .i64 0), (.int .i64 0), (.int .i64 0), (.bool false), (.int .i64 0), (.int .i64 0)] []), ⟨none, none, (.e (.store 19 (ot 2) (ot 68)))⟩, oq 3 (.mov (.val (.bool false)))]) .ret)
noncomputable def f30.c2 : PC := (.seq (.seq (.ops [oq 62 (.mov (ot 7)), oq 63 (.mov (ot 6)), oe 64 (.call 16 [(ot 62), (ot 63)]), oq 65 (.un .not (ot 64))]) (.cond (ot 65) (.seq (.ops [oq 66 (.build [(.int .i64 0), (.int .i64 0), (.int .i64 0), (.int .i64 0), (.int .i64 0), (.int .i64 0), (.int .i64 0), (.int .i64 0), (.int .i64 0), (.int .i64 0), (.int .i64 0), (.int .i64 0), (.int .i64 0), (.int .i64 0), (.int .i64 0), (.int .i64 0), (.bool false), (.int .i64 0), (.int .i64 0)] []), ⟨none, none, (.e (.store 19 (ot 2) (ot 66)))⟩, oq 3 (.mov (.val (.bool false)))]) .ret) .skip)) (.seq (.ops [oq 67 (.loadN 19 (ot 4)), ⟨none, none, (.e (.store 19 (ot 2) (ot 67)))⟩, oq 3 (.mov (.val (.bool true)))]) .ret))
noncomputable def f30.t0 (R2 : PC) : PC := (.seq (.seq (.ops [oq 14 (.fieldAddr 0 (ot 4)), oq 15 (.load1 (ot 14)), oq 16 (.bin .leq .num (ot 15) (.val (.int .i64 7)))]) (.cond (ot 16) .skip (.exit 0))) (.seq (.block 1 (.seq (.ops [oe 22 (.call 43 [(ot 4)]), oq 21 (.mov (ot 22)), oq 23 (.extract 0 (ot 21)), oq 24 (.extract 1 (ot 21)), oq 5 (.mov (ot 23)), oq 6 (.mov (ot 24))]) (.seq (.seq (.ops [oq 25 (.mov (ot 5)), oq 26 (.mov (ot 0)), oq 27 (.ixSl 1 (ot 26) (.val (.int .i64 0))), oq 28 (.load1 (ot 27)), oq 29 (.bin .neq .num (ot 25) (ot 28))]) (.cond (ot 29) (.exit 1) .skip)) (.seq (.ops [oq 30 (.mov (ot 0)), oq 31 (.slSl 1 (ot 30) (some (.val (.int .i64 1))) none none), oq 7 (.mov (ot 31))]) (.seq (.seq (.ops [oq 32 (.fieldAddr 0 (ot 4)), oq 33 (.load1 (ot 32)), oq 34 (.bin .eql .num (ot 33) (.val (.int .i64 3))), oq 35 (.mov (ot 34)), oqg 36 35 true (.mov (ot 7)), oqg 37 35 true (.lenSl (ot 36)), oqg 38 35 true (.bin .gtr .num (ot 37) (.val (.int .i64 0))), oq 39 (.pick (ot 35) (ot 38) (.val (.bool false)))]) (.cond (ot 39) (.seq (.ops [oq 40 (.mov (ot 7)), oq 41 (.mov (ot 7)), oq 42 (.lenSl (ot 41)), oq 43 (.bin .sub .num (ot 42) (.val (.int .i64 1))), oq 44 (.ixSl 1 (ot 40) (ot 43)), oq 45 (.load1 (ot 44)), oq 8 (.mov (ot 45))]) (.seq (.ops [oq 46 (.mov (ot 8)), oq 47 (.bin .eql .num (ot 46) (.val (.str [49]))), oq 48 (.fieldAddr 11 (ot 4)), oq 49 (.fieldAddr 5 (ot 48)), ⟨none, none, (.e (.store 1 (ot 49) (ot 47)))⟩]) (.seq (.seq (.ops [oq 50 (.mov (ot 8)), oq 51 (.bin .neq .num (ot 50) (.val (.str [48]))), oq 52 (.mov (ot 51)), oqg 53 52 true (.mov (ot 8)), oqg 54 52 true (.bin .neq .num (ot 53) (.val (.str [49]))), oq 55 (.pick (ot 52) (ot 54) (.val (.bool false)))]) (.cond (ot 55) (.seq (.ops [oq 56 (.build [(.int .i64 0), (.int .i64 0), (.int .i64 0), (.int .i64 0), (.int .i64 0), (.int .i64 0), (.int .i64 0), (.int .i64 0), (.int .i64 0), (.int .i64 0), (.int .i64 0), (.int .i64 0), (.int .i64 0), (.int .i64 0), (.int .i64 0), (.int .i64 0), (.bool false), (.int .i64 0), (.int .i64 0)] []), ⟨none, none, (.e (.store 19 (ot 2) (ot 56)))⟩, oq 3 (.mov (.val (.bool false)))]) .ret) .skip)) (.ops [oq 57 (.mov (ot 7)), oq 58 (.mov (ot 7)), oq 59 (.lenSl (ot 58)), oq 60 (.bin .sub .num (ot 59) (.val (.int .i64 1))), oq 61 (.slSl 1 (ot 57) none (some (ot 60)) none), oq 7 (.mov (ot 61))])))) .skip)) R2))))) (.ops [oq 17 (.fieldAddr 0 (ot 4)), oq 18 (.load1 (ot 17)), oq 19 (.bin .add .num (ot 18) (.val (.int .i64 1))), oq 20 (.fieldAddr 0 (ot 4)), ⟨none, none, (.e (.store 1 (ot 20) (ot 19)))⟩])))
noncomputable def f30.c0 : PC := f30.t0 f30.c2
noncomputable def f30.res : List PRes := [.cellN 19 (sn 2), .tmp (sn 3)]
noncomputable def f30.p1 (C : CW) (Q : AVal → S → Prop) (E : En) (σ : S) : Prop :=
Som (vBuild [(.int .i64 0), (.int .i64 0), (.int .i64 0), (.int .i64 0), (.int .i64 0), (.int .i64 0), (.int .i64 0), (.int .i64 0), (.int .i64 0), (.int .i64 0), (.int .i64 0), (.int .i64 0), (.int .i64 0), (.int .i64 0), (.int .i64 0), (.int .i64 0), (.bool false), (.int .i64 0), (.int .i64 0)] []) fun t68 =>
Eff (storeW 19 (E 2) t68 σ) fun _ σ1 =>
Ret [vLoadN 19 (E 2) σ1, some (.bool false)] σ1 Q
theorem f30.p1_eq (C : CW) (Q : AVal → S → Prop) (E : En) (σ : S) : f30.p1 C Q  E σ = wC C f30.c1 E σ (retK f30.res Q) := by kernel_rfl
abbrev f30.J1 (C : CW) (Q : AVal → S → Prop) (E : En) (σ : S) : Prop := wC C f30.c1 E σ (retK f30.res Q)
set_option maxRecDepth 20000 in
theorem f30.p1_of {C : CW} {Q : AVal → S → Prop} {E : En} {σ : S} (h : f30.p1 C Q  E σ) : f30.J1 C Q E σ := Eq.mp (f30.p1_eq C Q  E σ) h
noncomputable def f30.p2 (C : CW) (Q : AVal → S → Prop) (R0 R1 : PC) (E : En) (σ : S) : Prop :=
C 16 [(E 7), (E 6)] σ fun t64 σ1 =>
Som (unA .not t64) fun t65 =>
WIf t65 (
Som (vBuild [(.int .i64 0), (.int .i64 0), (.int .i64 0), (.int .i64 0), (.int .i64 0), (.int .i64 0), (.int .i64 0), (.int .i64 0), (.int .i64 0), (.int .i64 0), (.int .i64 0), (.int .i64 0), (.int .i64 0), (.int .i64 0), (.int .i64 0), (.int .i64 0), (.bool false), (.int .i64 0), (.int .i64 0)] []) fun t66 =>
Eff (storeW 19 (E 2) t66 σ1) fun _ σ2 =>
Ret [vLoadN 19 (E 2) σ2, some (.bool false)] σ2 Q) (
Som (vLoadN 19 (E 4) σ1) fun t67 =>
Eff (storeW 19 (E 2) t67 σ1) fun _ σ2 =>
Ret [vLoadN 19 (E 2) σ2, some (.bool true)] σ2 Q)
theorem f30.p2_eq (C : CW) (Q : AVal → S → Prop) (R0 R1 : PC) (E : En) (σ : S) : f30.p2 C Q R0 R1 E σ = wC C f30.c2 E σ (blockK 1 (seqK (wC C (.ops [oq 17 (.fieldAddr 0 (ot 4)), oq 18 (.load1 (ot 17)), oq 19 (.bin .add .num (ot 18) (.val (.int .i64 1))), oq 20 (.fieldAddr 0 (ot 4)), ⟨none, none, (.e (.store 1 (ot 20) (ot 19)))⟩])) (loopK C R0 (blockK 0 (seqK (wC C R1) (retK f30.res Q)))))) := by kernel_rfl
abbrev f30.J2 (C : CW) (Q : AVal → S → Prop) (E : En) (σ : S) : Prop := wC C f30.c2 E σ (blockK 1 (seqK (wC C (.ops [oq 17 (.fieldAddr 0 (ot 4)), oq 18 (.load1 (ot 17)), oq 19 (.bin .add .num (ot 18) (.val (.int .i64 1))), oq 20 (.fieldAddr 0 (ot 4)), ⟨none, none, (.e (.store 1 (ot 20) (ot 19)))⟩])) (loopK C f30.c0 (blockK 0 (seqK (wC C f30.c1) (retK f30.res Q))))))
set_option maxRecDepth 20000 in
theorem f30.p2_of {C : CW} {Q : AVal → S → Prop} {E : En} {σ : S} (h : f30.p2 C Q f30.c0 f30.c1 E σ) : f30.J2 C Q E σ := Eq.mp (f30.p2_eq C Q f30.c0 f30.c1 E σ) h
noncomputable def f30.p0 (C : CW) (Q : AVal → S → Prop) (R0 R1 R2 : PC) (E : En) (σ : S) : Prop :=
Som (vFieldAddr 0 (E 4)) fun t14 =>
Som (vLoad1 t14 σ) fun t15 =>
Som (binA .leq .num t15 (.int .i64 7)) fun t16 =>
WIf t16 (
C 43 [(E 4)] σ fun t22 σ1 =>
Som (vExtract 0 t22) fun t23 =>
Som (vExtract 1 t22) fun t24 =>
Som (vIxSl 1 (E 0) (.int .i64 0)) fun t27 =>
Som (vLoad1 t27 σ1) fun t28 =>
Som (binA .neq .num t23 t28) fun t29 =>
WIf t29 (
Som (vFieldAddr 0 (E 4)) fun t17 =>
Som (vLoad1 t17 σ1) fun t18 =>
Som (binA .add .num t18 (.int .i64 1)) fun t19 =>
Som (vFieldAddr 0 (E 4)) fun t20 =>
Eff (storeW 1 t20 t19 σ1) fun _ σ2 =>
wC C (.loop R0) ((((((((((((((((((E.set 14 t14).set 15 t15).set 16 t16).set 22 t22).set 21 t22).set 23 t23).set 24 t24).set 5 t23).set 6 t24).set 25 t23).set 26 (E 0)).set 27 t27).set 28 t28).set 29 t29).set 17 t17).set 18 t18).set 19 t19).set 20 t20) σ2 (blockK 0 (seqK (wC C R1) (retK f30.res Q)))) (
Som (vSlSl 1 (E 0) (some (.int .i64 1)) none none) fun t31 =>
Som (vFieldAddr 0 (E 4)) fun t32 =>
Som (vLoad1 t32 σ1) fun t33 =>
Som (binA .eql .num t33 (.int .i64 3)) fun t34 =>
Som (gq1 (isB t34 true) (some t31)) fun t36 =>
Som (gq1 (isB t34 true) (vLenSl t36)) fun t37 =>
Som (gq1 (isB t34 true) (binA .gtr .num t37 (.int .i64 0))) fun t38 =>
Som (vPick t34 t38 (.bool false)) fun t39 =>
WIf t39 (
Som (vLenSl t31) fun t42 =>
Som (binA .sub .num t42 (.int .i64 1)) fun t43 =>
Som (vIxSl 1 t31 t43) fun t44 =>
Som (vLoad1 t44 σ1) fun t45 =>
Som (binA .eql .num t45 (.str [49])) fun t47 =>
Som (vFieldAddr 11 (E 4)) fun t48 =>
Som (vFieldAddr 5 t48) fun t49 =>
Eff (storeW 1 t49 t47 σ1) fun _ σ2 =>
Som (binA .neq .num t45 (.str [48])) fun t51 =>
Som (gq1 (isB t51 true) (some t45)) fun t53 =>
Som (gq1 (isB t51 true) (binA .neq .num t53 (.str [49]))) fun t54 =>
Som (vPick t51 t54 (.bool false)) fun t55 =>
WIf t55 (
Som (vBuild [(.int .i64 0), (.int .i64 0), (.int .i64 0), (.int .i64 0), (.int .i64 0), (.int .i64 0), (.int .i64 0), (.int .i64 0), (.int .i64 0), (.int .i64 0), (.int .i64 0), (.int .i64 0), (.int .i64 0), (.int .i64 0), (.int .i64 0), (.int .i64 0), (.bool false), (.int .i64 0), (.int .i64 0)] []) fun t56 =>
Eff (storeW 19 (E 2) t56 σ2) fun _ σ3 =>
Ret [vLoadN 19 (E 2) σ3, some (.bool false)] σ3 Q) (
Som (vLenSl t31) fun t59 =>
Som (binA .sub .num t59 (.int .i64 1)) fun t60 =>
Som (vSlSl 1 t31 none (some t60) none) fun t61 =>
wC C R2 ((((((((((((((((((((((((((((((((((((((((((((((((E.set 14 t14).set 15 t15).set 16 t16).set 22 t22).set 21 t22).set 23 t23).set 24 t24).set 5 t23).set 6 t24).set 25 t23).set 26 (E 0)).set 27 t27).set 28 t28).set 29 t29).set 30 (E 0)).set 31 t31).set 7 t31).set 32 t32).set 33 t33).set 34 t34).set 35 t34).set 36 t36).set 37 t37).set 38 t38).set 39 t39).set 40 t31).set 41 t31).set 42 t42).set 43 t43).set 44 t44).set 45 t45).set 8 t45).set 46 t45).set 47 t47).set 48 t48).set 49 t49).set 50 t45).set 51 t51).set 52 t51).set 53 t53).set 54 t54).set 55 t55).set 57 t31).set 58 t31).set 59 t59).set 60 t60).set 61 t61).set 7 t61) σ2 (blockK 1 (seqK (wC C (.ops [oq 17 (.fieldAddr 0 (ot 4)), oq 18 (.load1 (ot 17)), oq 19 (.bin .add .num (ot 18) (.val (.int .i64 1))), oq 20 (.fieldAddr 0 (ot 4)), ⟨none, none, (.e (.store 1 (ot 20) (ot 19)))⟩])) (loopK C R0 (blockK 0 (seqK (wC C R1) (retK f30.res Q)))))))) (
wC C R2 (((((((((((((((((((((((((E.set 14 t14).set 15 t15).set 16 t16).set 22 t22).set 21 t22).set 23 t23).set 24 t24).set 5 t23).set 6 t24).set 25 t23).set 26 (E 0)).set 27 t27).set 28 t28).set 29 t29).set 30 (E 0)).set 31 t31).set 7 t31).set 32 t32).set 33 t33).set 34 t34).set 35 t34).set 36 t36).set 37 t37).set 38 t38).set 39 t39) σ1 (blockK 1 (seqK (wC C (.ops [oq 17 (.fieldAddr 0 (ot 4)), oq 18 (.load1 (ot 17)), oq 19 (.bin .add .num (ot 18) (.val (.int .i64 1))), oq 20 (.fieldAddr 0 (ot 4)), ⟨none, none, (.e (.store 1 (ot 20) (ot 19)))⟩])) (loopK C R0 (blockK 0 (seqK (wC C R1) (retK f30.res Q))))))))) (
wC C R1 (((E.set 14 t14).set 15 t15).set 16 t16) σ (retK f30.res Q))
theorem f30.p0_eq (C : CW) (Q : AVal → S → Prop) (R0 R1 R2 : PC) (E : En) (σ : S) : f30.p0 C Q R0 R1 R2 E σ = wC C (f30.t0 R2) E σ (loopK C R0 (blockK 0 (seqK (wC C R1) (retK f30.res Q)))) := by kernel_rfl
abbrev f30.L0 (C : CW) (Q : AVal → S → Prop) (E : En) (σ : S) : Prop := wC C (.loop f30.c0) E σ (blockK 0 (seqK (wC C f30.c1) (retK f30.res Q)))
set_option maxRecDepth 20000 in
theorem f30.p0_of {tab : Nat → Option PFn} {Q : AVal → S → Prop} {E : En} {σ : S} (h : f30.p0 (WF tab) Q f30.c0 f30.c1 f30.c2 E σ) : f30.L0 (WF tab) Q E σ := wLoop_step (Eq.mp (f30.p0_eq (WF tab) Q f30.c0 f30.c1 f30.c2 E σ) h)
noncomputable def f30.body (R0 R1 : PC) : PC := (.seq (.ops [oa 2 (.alloc [(.int .i64 0), (.int .i64 0), (.int .i64 0), (.int .i64 0), (.int .i64 0), (.int .i64 0), (.int .i64 0), (.int .i64 0), (.int .i64 0), (.int .i64 0), (.int .i64 0), (.int .i64 0), (.int .i64 0), (.int .i64 0), (.int .i64 0), (.int .i64 0), (.bool false), (.int .i64 0), (.int .i64 0)]), oq 3 (.mov (.val (.bool false)))]) (.seq (.ops [oa 4 (.alloc [(.int .i64 0), (.int .i64 0), (.int .i64 0), (.int .i64 0), (.int .i64 0), (.int .i64 0), (.int .i64 0), (.int .i64 0), (.int .i64 0), (.int .i64 0), (.int .i64 0), (.int .i64 0), (.int .i64 0), (.int .i64 0), (.int .i64 0), (.int .i64 0), (.bool false), (.int .i64 0), (.int .i64 0)])]) (.seq (.seq (.ops [oq 9 (.mov (ot 0)), oq 10 (.lenSl (ot 9)), oq 11 (.bin .eql .num (ot 10) (.val (.int .i64 0)))]) (.cond (ot 11) (.seq (.ops [oq 12 (.loadN 19 (ot 4)), ⟨none, none, (.e (.store 19 (ot 2) (ot 12)))⟩, oq 3 (.mov (.val (.bool false)))]) .ret) .skip)) (.seq (.seq (.ops [oq 13 (.fieldAddr 0 (ot 4)), ⟨none, none, (.e (.store 1 (ot 13) (.val (.int .i64 1))))⟩]) (.block 0 (.loop R0))) R1))))
noncomputable def f30.fn : PFn := .code (slotsN 69) (f30.body f30.c0 f30.c1) f30.res
noncomputable def f30 (C : CW) (R0 R1 : PC) (a0 : AVal) (σ : S) (Q : AVal → S → Prop) : Prop :=
Ala (aAllocV [(.int .i64 0), (.int .i64 0), (.int .i64 0), (.int .i64 0), (.int .i64 0), (.int .i64 0), (.int .i64 0), (.int .i64 0), (.int .i64 0), (.int .i64 0), (.int .i64 0), (.int .i64 0), (.int .i64 0), (.int .i64 0), (.int .i64 0), (.int .i64 0), (.bool false), (.int .i64 0), (.int .i64 0)]) σ fun t2 σ1 =>
Ala (aAllocV [(.int .i64 0), (.int .i64 0), (.int .i64 0), (.int .i64 0), (.int .i64 0), (.int .i64 0), (.int .i64 0), (.int .i64 0), (.int .i64 0), (.int .i64 0), (.int .i64 0), (.int .i64 0), (.int .i64 0), (.int .i64 0), (.int .i64 0), (.int .i64 0), (.bool false), (.int .i64 0), (.int .i64 0)]) σ1 fun t4 σ2 =>
Som (vLenSl a0) fun t10 =>
Som (binA .eql .num t10 (.int .i64 0)) fun t11 =>
WIf t11 (
Som (vLoadN 19 t4 σ2) fun t12 =>
Eff (storeW 19 t2 t12 σ2) fun _ σ3 =>
Ret [vLoadN 19 t2 σ3, some (.bool false)] σ3 Q) (
Som (vFieldAddr 0 t4) fun t13 =>
Eff (storeW 1 t13 (.int .i64 1) σ2) fun _ σ3 =>
wC C (.loop R0) ((((((((E0.set 0 a0).set 2 t2).set 3 (.bool false)).set 4 t4).set 9 a0).set 10 t10).set 11 t11).set 13 t13) σ3 (blockK 0 (seqK (wC C R1) (retK f30.res Q))))
theorem f30_eq (C : CW) (R0 R1 : PC) (a0 : AVal) (σ : S) (Q : AVal → S → Prop) : f30 C R0 R1  a0 σ Q = wC C (f30.body R0 R1) (E0.set 0 a0) σ (retK f30.res Q) := by kernel_rfl
theorem f30_ent (a0 : AVal) : enterE [a0] (slotsN 69) E0 = some (E0.set 0 a0) := by kernel_rfl
set_option maxRecDepth 20000 in
theorem f30_wf {tab : Nat → Option PFn} (ht : tab 30 = some f30.fn) {a0 : AVal} {σ : S} {Q : AVal → S → Prop} (h : f30 (WF tab) f30.c0 f30.c1  a0 σ Q) : WF tab 30 [a0] σ Q := wFn_sound ht (wFn_code (f30_ent a0) (Eq.mp (f30_eq (WF tab) f30.c0 f30.c1  a0 σ Q) h))
noncomputable def f33.res : List PRes := [.tmp (sn 2), .tmp (sn 3)]
noncomputable def f33.body : PC := (.seq (.ops [oq 2 (.mov (.val (.int .i64 0))), oq 3 (.mov (.val (.bool false)))]) (.seq (.ops [oq 4 (.mov (ot 0)), oe 5 (.call 51 [(ot 4)]), oq 6 (.extract 0 (ot 5)), oq 7 (.extract 1 (ot 5)), oq 2 (.mov (ot 6)), oq 3 (.mov (ot 7))]) .ret))
noncomputable def f33.fn : PFn := .code (slotsN 8) f33.body f33.res
noncomputable def f33 (C : CW) (a0 : AVal) (σ : S) (Q : AVal → S → Prop) : Prop :=
C 51 [a0] σ fun t5 σ1 =>
Som (vExtract 0 t5) fun t6 =>
Som (vExtract 1 t5) fun t7 =>
Ret [some t6, some t7] σ1 Q
theorem f33_eq (C : CW) (a0 : AVal) (σ : S) (Q : AVal → S → Prop) : f33 C   a0 σ Q = wC C f33.body (E0.set 0 a0) σ (retK f33.res Q) := by kernel_rfl
theorem f33_ent (a0 : AVal) : enterE [a0] (slotsN 8) E0 = some (E0.set 0 a0) := by kernel_rfl
set_option maxRecDepth 20000 in
theorem f33_wf {tab : Nat → Option PFn} (ht : tab 33 = some f33.fn) {a0 : AVal} {σ : S} {Q : AVal → S → Prop} (h : f33 (WF tab)   a0 σ Q) : WF tab 33 [a0] σ Q := wFn_sound ht (wFn_code (f33_ent a0) (Eq.mp (f33_eq (WF tab)   a0 σ Q) h))
noncomputable def f34.c0 : PC := (.cond (ot 4) (.seq (.ops [oq 2 (.mov (.val (.int .i64 1)))]) .ret) (.seq (.ops [oq 10 (.bin .eql .num (ot 3) (.val (.str [112, 114, 111, 103, 114, 101, 115, 115]))), oq 9 (.mov (ot 10))]) (.cond (ot 9) (.seq (.ops [oq 2 (.mov (.val (.int .i64 2)))]) .ret) (.seq (.ops [oq 12 (.bin .eql .num (ot 3) (.val (.str [100, 114, 105, 118, 101, 114]))), oq 11 (.mov (ot 12))]) (.cond (ot 11) (.seq (.ops [oq 2 (.mov (.val (.int .i64 6)))]) .ret) (.seq (.ops [oq 14 (.bin .eql .num (ot 3) (.val (.str [111, 114, 100, 101, 114]))), oq 13 (.mov (ot 14))]) (.cond (ot 13) (.seq (.ops [oq 2 (.mov (.val (.int .i64 10)))]) .ret) .skip)))))))
noncomputable def f34.res : List PRes := [.tmp (sn 2)]
noncomputable def f34.p0 (C : CW) (Q : AVal → S → Prop) (E : En) (σ : S) : Prop :=
WIf (E 4) (
Ret [some (.int .i64 1)] σ Q) (
Som (binA .eql .num (E 3) (.str [112, 114, 111, 103, 114, 101, 115, 115])) fun t10 =>
WIf t10 (
Ret [some (.int .i64 2)] σ Q) (
Som (binA .eql .num (E 3) (.str [100, 114, 105, 118, 101, 114])) fun t12 =>
WIf t12 (
Ret [some (.int .i64 6)] σ Q) (
Som (binA .eql .num (E 3) (.str [111, 114, 100, 101, 114])) fun t14 =>
WIf t14 (
Ret [some (.int .i64 10)] σ Q) (
Ret [some (.int .i64 (-1))] σ Q))))
theorem f34.p0_eq (C : CW) (Q : AVal → S → Prop) (E : En) (σ : S) : f34.p0 C Q  E σ = wC C f34.c0 E σ (blockK 0 (seqK (wC C (.seq (.ops [oq 2 (.mov (.val (.int .i64 (-1))))]) .ret)) (retK f34.res Q))) := by kernel_rfl
abbrev f34.J0 (C : CW) (Q : AVal → S → Prop) (E : En) (σ : S) : Prop := wC C f34.c0 E σ (blockK 0 (seqK (wC C (.seq (.ops [oq 2 (.mov (.val (.int .i64 (-1))))]) .ret)) (retK f34.res Q)))
set_option maxRecDepth 20000 in
theorem f34.p0_of {C : CW} {Q : AVal → S → Prop} {E : En} {σ : S} (h : f34.p0 C Q  E σ) : f34.J0 C Q E σ := Eq.mp (f34.p0_eq C Q  E σ) h
noncomputable def f34.body (R0 : PC) : PC := (.seq (.ops [oq 2 (.mov (.val (.int .i64 0)))]) (.seq (.seq (.ops [oq 3 (.mov (ot 0))]) (.block 0 (.seq (.seq (.ops [oq 5 (.bin .eql .num (ot 3) (.val (.str [113, 117, 101, 114, 121]))), oq 4 (.mov (ot 5))]) (.cond (ot 4) .skip (.seq (.ops [oq 6 (.bin .eql .num (ot 3) (.val (.str [99, 97, 110, 99, 101, 108]))), oq 4 (.mov (ot 6))]) (.cond (ot 4) .skip (.seq (.ops [oq 7 (.bin .eql .num (ot 3) (.val (.str [114, 101, 116, 105, 114, 101]))), oq 4 (.mov (ot 7))]) (.cond (ot 4) .skip (.ops [oq 8 (.bin .eql .num (ot 3) (.val (.str [114, 101, 112, 108, 97, 110]))), oq 4 (.mov (ot 8))]))))))) R0))) (.seq (.ops [oq 2 (.mov (.val (.int .i64 (-1))))]) .ret)))
noncomputable def f34.fn : PFn := .code (slotsN 15) (f34.body f34.c0) f34.res
noncomputable def f34 (C : CW) (R0 : PC) (a0 : AVal) (σ : S) (Q : AVal → S → Prop) : Prop :=
Som (binA .eql .num a0 (.str [113, 117, 101, 114, 121])) fun t5 =>
WIf t5 (
wC C R0 (((((E0.set 0 a0).set 2 (.int .i64 0)).set 3 a0).set 5 t5).set 4 t5) σ (blockK 0 (seqK (wC C (.seq (.ops [oq 2 (.mov (.val (.int .i64 (-1))))]) .ret)) (retK f34.res Q)))) (
Som (binA .eql .num a0 (.str [99, 97, 110, 99, 101, 108])) fun t6 =>
WIf t6 (
wC C R0 (((((((E0.set 0 a0).set 2 (.int .i64 0)).set 3 a0).set 5 t5).set 4 t5).set 6 t6).set 4 t6) σ (blockK 0 (seqK (wC C (.seq (.ops [oq 2 (.mov (.val (.int .i64 (-1))))]) .ret)) (retK f34.res Q)))) (
Som (binA .eql .num a0 (.str [114, 101, 116, 105, 114, 101])) fun t7 =>
WIf t7 (
wC C R0 (((((((((E0.set 0 a0).set 2 (.int .i64 0)).set 3 a0).set 5 t5).set 4 t5).set 6 t6).set 4 t6).set 7 t7).set 4 t7) σ (blockK 0 (seqK (wC C (.seq (.ops [oq 2 (.mov (.val (.int .i64 (-1))))]) .ret)) (retK f34.res Q)))) (
Som (binA .eql .num a0 (.str [114, 101, 112, 108, 97, 110])) fun t8 =>
wC C R0 (((((((((((E0.set 0 a0).set 2 (.int .i64 0)).set 3 a0).set 5 t5).set 4 t5).set 6 t6).set 4 t6).set 7 t7).set 4 t7).set 8 t8).set 4 t8) σ (blockK 0 (seqK (wC C (.seq (.ops [oq 2 (.mov (.val (.int .i64 (-1))))]) .ret)) (retK f34.res Q))))))
theorem f34_eq (C : CW) (R0 : PC) (a0 : AVal) (σ : S) (Q : AVal → S → Prop) : f34 C R0  a0 σ Q = wC C (f34.body R0) (E0.set 0 a0) σ (retK f34.res Q) := by kernel_rfl
theorem f34_ent (a0 : AVal) : enterE [a0] (slotsN 15) E0 = some (E0.set 0 a0) := by kernel_rfl
set_option maxRecDepth 20000 in
theorem f34_wf {tab : Nat → Option PFn} (ht : tab 34 = some f34.fn) {a0 : AVal} {σ : S} {Q : AVal → S → Prop} (h : f34 (WF tab) f34.c0  a0 σ Q) : WF tab 34 [a0] σ Q := wFn_sound ht (wFn_code (f34_ent a0) (Eq.mp (f34_eq (WF tab) f34.c0  a0 σ Q) h))
noncomputable def f35.res : List PRes := [.cellN 4 (sn 2)]
noncomputable def f35.body : PC := (.seq (.ops [oa 2 (.alloc [(.int .i64 0), (.int .i64 0), (.int .i64 0), (.int .i64 0)])]) (.seq (.draw 15 [⟨0, oq 3 (.mov (ot 0)), []⟩, ⟨1, oq 4 (.ixSl 1 (ot 3) (.val (.int .i64 0))), []⟩, ⟨2, oq 5 (.load1 (ot 4)), []⟩, ⟨3, oq 6 (.mov (ot 0)), []⟩, ⟨4, oq 7 (.ixSl 1 (ot 6) (.val (.int .i64 1))), []⟩, ⟨5, oq 8 (.load1 (ot 7)), []⟩, ⟨6, oq 9 (.mov (ot 0)), []⟩, ⟨7, oq 10 (.ixSl 1 (ot 9) (.val (.int .i64 2))), []⟩, ⟨8, oq 11 (.load1 (ot 10)), []⟩, ⟨9, oq 12 (.build [(.int .i64 0), (.int .i64 0)] [(0, 1, (ot 8)), (1, 1, (ot 11))]), []⟩, ⟨10, oq 13 (.mov (ot 0)), []⟩, ⟨11, oq 14 (.ixSl 1 (ot 13) (.val (.int .i64 3))), []⟩, ⟨12, oq 15 (.load1 (ot 14)), []⟩, ⟨13, oq 16 (.build [(.int .i64 0), (.int .i64 0), (.int .i64 0), (.int .i64 0)] [(0, 1, (ot 5)), (1, 2, (ot 12)), (3, 1, (ot 15))]), []⟩, ⟨14, ⟨none, none, (.e (.store 4 (ot 2) (ot 16)))⟩, []⟩]) .ret))
noncomputable def f35.fn : PFn := .code (slotsN 17) f35.body f35.res
noncomputable def f35 (C : CW) (a0 : AVal) (σ : S) (Q : AVal → S → Prop) : Prop :=
Ala (aAllocV [(.int .i64 0), (.int .i64 0), (.int .i64 0), (.int .i64 0)]) σ fun t2 σ1 =>
Som (vIxSl 1 a0 (.int .i64 0)) fun t4 =>
Som (vLoad1 t4 (σ1.bumpT 15)) fun t5 =>
Som (vIxSl 1 a0 (.int .i64 1)) fun t7 =>
Som (vLoad1 t7 (σ1.bumpT 15)) fun t8 =>
Som (vIxSl 1 a0 (.int .i64 2)) fun t10 =>
Som (vLoad1 t10 (σ1.bumpT 15)) fun t11 =>
Som (vBuild [(.int .i64 0), (.int .i64 0)] [(0, 1, t8), (1, 1, t11)]) fun t12 =>
Som (vIxSl 1 a0 (.int .i64 3)) fun t14 =>
Som (vLoad1 t14 (σ1.bumpT 15)) fun t15 =>
Som (vBuild [(.int .i64 0), (.int .i64 0), (.int .i64 0), (.int .i64 0)] [(0, 1, t5), (1, 2, t12), (3, 1, t15)]) fun t16 =>
Eff (storeW 4 t2 t16 (σ1.bumpT 15)) fun _ σ2 =>
Ret [vLoadN 4 t2 σ2] σ2 Q
theorem f35_eq (C : CW) (a0 : AVal) (σ : S) (Q : AVal → S → Prop) : f35 C   a0 σ Q = wC C f35.body (E0.set 0 a0) σ (retK f35.res Q) := by kernel_rfl
theorem f35_ent (a0 : AVal) : enterE [a0] (slotsN 17) E0 = some (E0.set 0 a0) := by kernel_rfl
set_option maxRecDepth 20000 in
theorem f35_wf {tab : Nat → Option PFn} (ht : tab 35 = some f35.fn) {a0 : AVal} {σ : S} {Q : AVal → S → Prop} (h : f35 (WF tab)   a0 σ Q) : WF tab 35 [a0] σ Q := wFn_sound ht (wFn_code (f35_ent a0) (Eq.mp (f35_eq (WF tab)   a0 σ Q) h))
noncomputable def f42.c0 : PC := (.cond (ot 10) (.seq (.ops [oq 2 (.mov (.val (.bool false))), oq 3 (.mov (.val (.bool false))), oq 4 (.mov (.val (.bool true))), oq 5 (.mov (.val (.bool false))), oq 6 (.mov (.val (.bool true)))]) .ret) (.seq (.ops [oq 15 (.bin .eql .num (ot 7) (.val (.int .i64 3))), oq 14 (.mov (ot 15))]) (.cond (ot 14) (.seq (.ops [oq 2 (.mov (.val (.bool false))), oq 3 (.mov (.val (.bool true))), oq 4 (.mov (.val (.bool false))), oq 5 (.mov (.val (.bool false))), oq 6 (.mov (.val (.bool true)))]) .ret) (.seq (.ops [oq 17 (.bin .eql .num (ot 7) (.val (.int .i64 5))), oq 16 (.mov (ot 17))]) (.cond (ot 16) (.seq (.ops [oq 2 (.mov (.val (.bool false))), oq 3 (.mov (.val (.bool false))), oq 4 (.mov (.val (.bool true))), oq 5 (.mov (.val (.bool true))), oq 6 (.mov (.val (.bool true)))]) .ret) (.seq (.ops [oq 19 (.bin .eql .num (ot 7) (.val (.int .i64 6))), oq 18 (.mov (ot 19))]) (.cond (ot 18) (.seq (.ops [oq 2 (.mov (.val (.bool false))), oq 3 (.mov (.val (.bool false))), oq 4 (.mov (.val (.bool false))), oq 5 (.mov (.val (.bool true))), oq 6 (.mov (.val (.bool true)))]) .ret) .skip)))))))
noncomputable def f42.res : List PRes := [.tmp (sn 2), .tmp (sn 3), .tmp (sn 4), .tmp (sn 5), .tmp (sn 6)]
noncomputable def f42.p0 (C : CW) (Q : AVal → S → Prop) (E : En) (σ : S) : Prop :=
WIf (E 10) (
Ret [some (.bool false), some (.bool false), some (.bool true), some (.bool false), some (.bool true)] σ Q) (
Som (binA .eql .num (E 7) (.int .i64 3)) fun t15 =>
WIf t15 (
Ret [some (.bool false), some (.bool true), some (.bool false), some (.bool false), some (.bool true)] σ Q) (
Som (binA .eql .num (E 7) (.int .i64 5)) fun t17 =>
WIf t17 (
Ret [some (.bool false), some (.bool false), some (.bool true), some (.bool true), some (.bool true)] σ Q) (
Som (binA .eql .num (E 7) (.int .i64 6)) fun t19 =>
WIf t19 (
Ret [some (.bool false), some (.bool false), some (.bool false), some (.bool true), some (.bool true)] σ Q) (
Ret [some (.bool false), some (.bool false), some (.bool false), some (.bool false), some (.bool false)] σ Q))))
theorem f42.p0_eq (C : CW) (Q : AVal → S → Prop) (E : En) (σ : S) : f42.p0 C Q  E σ = wC C f42.c0 E σ (blockK 0 (seqK (wC C (.seq (.ops [oq 2 (.mov (.val (.bool false))), oq 3 (.mov (.val (.bool false))), oq 4 (.mov (.val (.bool false))), oq 5 (.mov (.val (.bool false))), oq 6 (.mov (.val (.bool false)))]) .ret)) (retK f42.res Q))) := by kernel_rfl
abbrev f42.J0 (C : CW) (Q : AVal → S → Prop) (E : En) (σ : S) : Prop := wC C f42.c0 E σ (blockK 0 (seqK (wC C (.seq (.ops [oq 2 (.mov (.val (.bool false))), oq 3 (.mov (.val (.bool false))), oq 4 (.mov (.val (.bool false))), oq 5 (.mov (.val (.bool false))), oq 6 (.mov (.val (.bool false)))]) .ret)) (retK f42.res Q)))
set_option maxRecDepth 20000 in
theorem f42.p0_of {C : CW} {Q : AVal → S → Prop} {E : En} {σ : S} (h : f42.p0 C Q  E σ) : f42.J0 C Q E σ := Eq.mp (f42.p0_eq C Q  E σ) h
noncomputable def f42.body (R0 : PC) : PC := (.seq (.ops [oq 2 (.mov (.val (.bool false))), oq 3 (.mov (.val (.bool false))), oq 4 (.mov (.val (.bool false))), oq 5 (.mov (.val (.bool false))), oq 6 (.mov (.val (.bool false)))]) (.seq (.seq (.ops [oq 7 (.mov (ot 0))]) (.block 0 (.seq (.ops [oq 9 (.bin .eql .num (ot 7) (.val (.int .i64 1))), oq 8 (.mov (ot 9))]) (.cond (ot 8) (.seq (.ops [oq 2 (.mov (.val (.bool true))), oq 3 (.mov (.val (.bool false))), oq 4 (.mov (.val (.bool false))), oq 5 (.mov (.val (.bool false))), oq 6 (.mov (.val (.bool true)))]) .ret) (.seq (.seq (.ops [oq 11 (.bin .eql .num (ot 7) (.val (.int .i64 2))), oq 10 (.mov (ot 11))]) (.cond (ot 10) .skip (.seq (.ops [oq 12 (.bin .eql .num (ot 7) (.val (.int .i64 4))), oq 10 (.mov (ot 12))]) (.cond (ot 10) .skip (.ops [oq 13 (.bin .eql .num (ot 7) (.val (.int .i64 7))), oq 10 (.mov (ot 13))]))))) R0))))) (.seq (.ops [oq 2 (.mov (.val (.bool false))), oq 3 (.mov (.val (.bool false))), oq 4 (.mov (.val (.bool false))), oq 5 (.mov (.val (.bool false))), oq 6 (.mov (.val (.bool false)))]) .ret)))
noncomputable def f42.fn : PFn := .code (slotsN 20) (f42.body f42.c0) f42.res
noncomputable def f42 (C : CW) (R0 : PC) (a0 : AVal) (σ : S) (Q : AVal → S → Prop) : Prop :=
Som (binA .eql .num a0 (.int .i64 1)) fun t9 =>
WIf t9 (
Ret [some (.bool true), some (.bool false), some (.bool false), some (.bool false), some (.bool true)] σ Q) (
Som (binA .eql .num a0 (.int .i64 2)) fun t11 =>
WIf t11 (
wC C R0 (((((((((((E0.set 0 a0).set 2 (.bool false)).set 3 (.bool false)).set 4 (.bool false)).set 5 (.bool false)).set 6 (.bool false)).set 7 a0).set 9 t9).set 8 t9).set 11 t11).set 10 t11) σ (blockK 0 (seqK (wC C (.seq (.ops [oq 2 (.mov (.val (.bool false))), oq 3 (.mov (.val (.bool false))), oq 4 (.mov (.val (.bool false))), oq 5 (.mov (.val (.bool false))), oq 6 (.mov (.val (.bool false)))]) .ret)) (retK f42.res Q)))) (
Som (binA .eql .num a0 (.int .i64 4)) fun t12 =>
WIf t12 (
wC C R0 (((((((((((((E0.set 0 a0).set 2 (.bool false)).set 3 (.bool false)).set 4 (.bool false)).set 5 (.bool false)).set 6 (.bool false)).set 7 a0).set 9 t9).set 8 t9).set 11 t11).set 10 t11).set 12 t12).set 10 t12) σ (blockK 0 (seqK (wC C (.seq (.ops [oq 2 (.mov (.val (.bool false))), oq 3 (.mov (.val (.bool false))), oq 4 (.mov (.val (.bool false))), oq 5 (.mov (.val (.bool false))), oq 6 (.mov (.val (.bool false)))]) .ret)) (retK f42.res Q)))) (
Som (binA .eql .num a0 (.int .i64 7)) fun t13 =>
wC C R0 (((((((((((((((E0.set 0 a0).set 2 (.bool false)).set 3 (.bool false)).set 4 (.bool false)).set 5 (.bool false)).set 6 (.bool false)).set 7 a0).set 9 t9).set 8 t9).set 11 t11).set 10 t11).set 12 t12).set 10 t12).set 13 t13).set 10 t13) σ (blockK 0 (seqK (wC C (.seq (.ops [oq 2 (.mov (.val (.bool false))), oq 3 (.mov (.val (.bool false))), oq 4 (.mov (.val (.bool false))), oq 5 (.mov (.val (.bool false))), oq 6 (.mov (.val (.bool false)))]) .ret)) (retK f42.res Q))))))
theorem f42_eq (C : CW) (R0 : PC) (a0 : AVal) (σ : S) (Q : AVal → S → Prop) : f42 C R0  a0 σ Q = wC C (f42.body R0) (E0.set 0 a0) σ (retK f42.res Q) := by kernel_rfl
theorem f42_ent (a0 : AVal) : enterE [a0] (slotsN 20) E0 = some (E0.set 0 a0) := by kernel_rfl
set_option maxRecDepth 20000 in
theorem f42_wf {tab : Nat → Option PFn} (ht : tab 42 = some f42.fn) {a0 : AVal} {σ : S} {Q : AVal → S → Prop} (h : f42 (WF tab) f42.c0  a0 σ Q) : WF tab 42 [a0] σ Q := wFn_sound ht (wFn_code (f42_ent a0) (Eq.mp (f42_eq (WF tab) f42.c0  a0 σ Q) h))
noncomputable def f43.res : List PRes := [.tmp (sn 2), .tmp (sn 3)]
noncomputable def f43.body : PC := (.seq (.ops [oq 2 (.mov (.val (.str []))), oq 3 (.mov (.val .nsl))]) (.seq (.draw 8 [⟨0, oq 6 (.mov (ot 0)), []⟩, ⟨1, oq 7 (.nilck (ot 6)), []⟩, ⟨2, oq 8 (.fieldAddr 1 (ot 7)), []⟩, ⟨3, oq 9 (.mov (ot 0)), []⟩, ⟨4, oq 10 (.nilck (ot 9)), []⟩, ⟨5, oq 11 (.fieldAddr 11 (ot 10)), []⟩, ⟨6, oq 4 (.mov (ot 8)), []⟩, ⟨7, oq 5 (.mov (ot 11)), []⟩]) (.seq (.seq (.ops [oq 12 (.mov (ot 0)), oq 13 (.nilck (ot 12)), oq 14 (.fieldAddr 0 (ot 13)), oq 15 (.load1 (ot 14))]) (.block 0 (.seq (.ops [oq 17 (.bin .eql .num (ot 15) (.val (.int .i64 7))), oq 16 (.mov (ot 17))]) (.cond (ot 16) (.seq (.draw 6 [⟨0, oq 18 (.mov (ot 0)), []⟩, ⟨1, oq 19 (.nilck (ot 18)), []⟩, ⟨2, oq 20 (.fieldAddr 17 (ot 19)), []⟩, ⟨4, oq 2 (.mov (.val (.str [113, 117, 101, 114, 121]))), []⟩, ⟨3, oa 21 (.bslice 1 [.nptr] 1 [(0, 1, (ot 20))]), []⟩, ⟨5, oq 3 (.mov (ot 21)), []⟩]) .ret) (.seq (.ops [oq 23 (.bin .eql .num (ot 15) (.val (.int .i64 2))), oq 22 (.mov (ot 23))]) (.cond (ot 22) (.seq (.draw 6 [⟨0, oq 24 (.mov (ot 0)), []⟩, ⟨1, oq 25 (.nilck (ot 24)), []⟩, ⟨2, oq 26 (.fieldAddr 17 (ot 25)), []⟩, ⟨4, oq 2 (.mov (.val (.str [99, 97, 110, 99, 101, 108]))), []⟩, ⟨3, oa 27 (.bslice 1 [.nptr] 1 [(0, 1, (ot 26))]), []⟩, ⟨5, oq 3 (.mov (ot 27)), []⟩]) .ret) (.seq (.ops [oq 29 (.bin .eql .num (ot 15) (.val (.int .i64 4))), oq 28 (.mov (ot 29))]) (.cond (ot 28) (.seq (.draw 6 [⟨0, oq 30 (.mov (ot 0)), []⟩, ⟨1, oq 31 (.nilck (ot 30)), []⟩, ⟨2, oq 32 (.fieldAddr 17 (ot 31)), []⟩, ⟨4, oq 2 (.mov (.val (.str [114, 101, 116, 105, 114, 101]))), []⟩, ⟨3, oa 33 (.bslice 1 [.nptr] 1 [(0, 1, (ot 32))]), []⟩, ⟨5, oq 3 (.mov (ot 33)), []⟩]) .ret) (.seq (.ops [oq 35 (.bin .eql .num (ot 15) (.val (.int .i64 5))), oq 34 (.mov (ot 35))]) (.cond (ot 34) (.seq (.draw 9 [⟨0, oq 36 (.mov (ot 0)), []⟩, ⟨1, oq 37 (.nilck (ot 36)), []⟩, ⟨2, oq 38 (.fieldAddr 17 (ot 37)), []⟩, ⟨3, oq 39 (.mov (ot 0)), []⟩, ⟨4, oq 40 (.nilck (ot 39)), []⟩, ⟨5, oq 41 (.fieldAddr 18 (ot 40)), []⟩, ⟨7, oq 2 (.mov (.val (.str [112, 114, 111, 103, 114, 101, 115, 115]))), []⟩, ⟨6, oa 42 (.bslice 1 [.nptr] 2 [(0, 1, (ot 38)), (1, 1, (ot 41))]), []⟩, ⟨8, oq 3 (.mov (ot 42)), []⟩]) .ret) (.seq (.ops [oq 44 (.bin .eql .num (ot 15) (.val (.int .i64 6))), oq 43 (.mov (ot 44))]) (.cond (ot 43) (.seq (.draw 6 [⟨0, oq 45 (.mov (ot 0)), []⟩, ⟨1, oq 46 (.nilck (ot 45)), []⟩, ⟨2, oq 47 (.fieldAddr 18 (ot 46)), []⟩, ⟨4, oq 2 (.mov (.val (.str [114, 101, 112, 108, 97, 110]))), []⟩, ⟨3, oa 48 (.bslice 1 [.nptr] 1 [(0, 1, (ot 47))]), []⟩, ⟨5, oq 3 (.mov (ot 48)), []⟩]) .ret) (.seq (.ops [oq 50 (.bin .eql .num (ot 15) (.val (.int .i64 3))), oq 49 (.mov (ot 50))]) (.cond (ot 49) (.seq (.draw 20 [⟨0, oq 51 (.mov (ot 5)), []⟩, ⟨1, oq 52 (.nilck (ot 51)), []⟩, ⟨2, oq 53 (.fieldAddr 0 (ot 52)), []⟩, ⟨3, oq 54 (.mov (ot 5)), []⟩, ⟨4, oq 55 (.nilck (ot 54)), []⟩, ⟨5, oq 56 (.fieldAddr 1 (ot 55)), []⟩, ⟨6, oq 57 (.mov (ot 5)), []⟩, ⟨7, oq 58 (.nilck (ot 57)), []⟩, ⟨8, oq 59 (.fieldAddr 2 (ot 58)), []⟩, ⟨9, oq 60 (.mov (ot 5)), []⟩, ⟨10, oq 61 (.nilck (ot 60)), []⟩, ⟨11, oq 62 (.fieldAddr 3 (ot 61)), []⟩, ⟨12, oq 63 (.fieldAddr 0 (ot 62)), []⟩, ⟨13, oq 64 (.mov (ot 5)), []⟩, ⟨14, oq 65 (.nilck (ot 64)), []⟩, ⟨15, oq 66 (.fieldAddr 3 (ot 65)), []⟩, ⟨16, oq 67 (.fieldAddr 1 (ot 66)), []⟩, ⟨18, oq 2 (.mov (.val (.str [100, 114, 105, 118, 101, 114]))), []⟩, ⟨17, oa 68 (.bslice 1 [.nptr] 5 [(0, 1, (ot 53)), (1, 1, (ot 56)), (2, 1, (ot 59)), (3, 1, (ot 63)), (4, 1, (ot 67))]), []⟩, ⟨19, oq 3 (.mov (ot 68)), []⟩]) .ret) (.seq (.ops [oq 70 (.bin .eql .num (ot 15) (.val (.int .i64 1))), oq 69 (.mov (ot 70))]) (.cond (ot 69) (.seq (.draw 45 [⟨0, oq 71 (.mov (ot 4)), []⟩, ⟨1, oq 72 (.nilck (ot 71)), []⟩, ⟨2, oq 73 (.fieldAddr 0 (ot 72)), []⟩, ⟨3, oq 74 (.mov (ot 4)), []⟩, ⟨4, oq 75 (.nilck (ot 74)), []⟩, ⟨5, oq 76 (.fieldAddr 1 (ot 75)), []⟩, ⟨6, oq 77 (.mov (ot 4)), []⟩, ⟨7, oq 78 (.nilck (ot 77)), []⟩, ⟨8, oq 79 (.fieldAddr 2 (ot 78)), []⟩, ⟨9, oq 80 (.fieldAddr 0 (ot 79)), []⟩, ⟨10, oq 81 (.mov (ot 4)), []⟩, ⟨11, oq 82 (.nilck (ot 81)), []⟩, ⟨12, oq 83 (.fieldAddr 2 (ot 82)), []⟩, ⟨13, oq 84 (.fieldAddr 1 (ot 83)), []⟩, ⟨14, oq 85 (.fieldAddr 0 (ot 84)), []⟩, ⟨15, oq 86 (.mov (ot 4)), []⟩, ⟨16, oq 87 (.nilck (ot 86)), []⟩, ⟨17, oq 88 (.fieldAddr 2 (ot 87)), []⟩, ⟨18, oq 89 (.fieldAddr 1 (ot 88)), []⟩, ⟨19, oq 90 (.fieldAddr 1 (ot 89)), []⟩, ⟨20, oq 91 (.mov (ot 4)), []⟩, ⟨21, oq 92 (.nilck (ot 91)), []⟩, ⟨22, oq 93 (.fieldAddr 2 (ot 92)), []⟩, ⟨23, oq 94 (.fieldAddr 3 (ot 93)), []⟩, ⟨24, oq 95 (.mov (ot 4)), []⟩, ⟨25, oq 96 (.nilck (ot 95)), []⟩, ⟨26, oq 97 (.fieldAddr 6 (ot 96)), []⟩, ⟨27, oq 98 (.fieldAddr 0 (ot 97)), []⟩, ⟨28, oq 99 (.mov (ot 4)), []⟩, ⟨29, oq 100 (.nilck (ot 99)), []⟩, ⟨30, oq 101 (.fieldAddr 6 (ot 100)), []⟩, ⟨31, oq 102 (.fieldAddr 1 (ot 101)), []⟩, ⟨32, oq 103 (.fieldAddr 0 (ot 102)), []⟩, ⟨33, oq 104 (.mov (ot 4)), []⟩, ⟨34, oq 105 (.nilck (ot 104)), []⟩, ⟨35, oq 106 (.fieldAddr 6 (ot 105)), []⟩, ⟨36, oq 107 (.fieldAddr 1 (ot 106)), []⟩, ⟨37, oq 108 (.fieldAddr 1 (ot 107)), []⟩, ⟨38, oq 109 (.mov (ot 4)), []⟩, ⟨39, oq 110 (.nilck (ot 109)), []⟩, ⟨40, oq 111 (.fieldAddr 6 (ot 110)), []⟩, ⟨41, oq 112 (.fieldAddr 3 (ot 111)), []⟩, ⟨43, oq 2 (.mov (.val (.str [111, 114, 100, 101, 114]))), []⟩, ⟨42, oa 113 (.bslice 1 [.nptr] 10 [(0, 1, (ot 73)), (1, 1, (ot 76)), (2, 1, (ot 80)), (3, 1, (ot 85)), (4, 1, (ot 90)), (5, 1, (ot 94)), (6, 1, (ot 98)), (7, 1, (ot 103)), (8, 1, (ot 108)), (9, 1, (ot 112))]), []⟩, ⟨44, oq 3 (.mov (ot 113)), []⟩]) .ret) .skip)))))))))))))))) (.seq (.ops [oq 2 (.mov (.val (.str []))), oq 3 (.mov (.val .nsl))]) .ret))))
noncomputable def f43.fn : PFn := .code (slotsN 114) f43.body f43.res
noncomputable def f43 (C : CW) (a0 : AVal) (σ : S) (Q : AVal → S → Prop) : Prop :=
Som (vNilck a0) fun t7 =>
Som (vFieldAddr 1 t7) fun t8 =>
Som (vNilck a0) fun t10 =>
Som (vFieldAddr 11 t10) fun t11 =>
Som (vNilck a0) fun t13 =>
Som (vFieldAddr 0 t13) fun t14 =>
Som (vLoad1 t14 (σ.bumpT 8)) fun t15 =>
Som (binA .eql .num t15 (.int .i64 7)) fun t17 =>
WIf t17 (
Som (vNilck a0) fun t19 =>
Som (vFieldAddr 17 t19) fun t20 =>
Alb (aSliceV 1 [.nptr] 1 [(0, 1, t20)]) (Pos.plusT 3 (σ.bumpT 8).next) ((σ.bumpT 8).bumpT 6) fun t21 σ1 =>
Ret [some (.str [113, 117, 101, 114, 121]), some t21] σ1 Q) (
Som (binA .eql .num t15 (.int .i64 2)) fun t23 =>
WIf t23 (
Som (vNilck a0) fun t25 =>
Som (vFieldAddr 17 t25) fun t26 =>
Alb (aSliceV 1 [.nptr] 1 [(0, 1, t26)]) (Pos.plusT 3 (σ.bumpT 8).next) ((σ.bumpT 8).bumpT 6) fun t27 σ1 =>
Ret [some (.str [99, 97, 110, 99, 101, 108]), some t27] σ1 Q) (
Som (binA .eql .num t15 (.int .i64 4)) fun t29 =>
WIf t29 (
Som (vNilck a0) fun t31 =>
Som (vFieldAddr 17 t31) fun t32 =>
Alb (aSliceV 1 [.nptr] 1 [(0, 1, t32)]) (Pos.plusT 3 (σ.bumpT 8).next) ((σ.bumpT 8).bumpT 6) fun t33 σ1 =>
Ret [some (.str [114, 101, 116, 105, 114, 101]), some t33] σ1 Q) (
Som (binA .eql .num t15 (.int .i64 5)) fun t35 =>
WIf t35 (
Som (vNilck a0) fun t37 =>
Som (vFieldAddr 17 t37) fun t38 =>
Som (vNilck a0) fun t40 =>
Som (vFieldAddr 18 t40) fun t41 =>
Alb (aSliceV 1 [.nptr] 2 [(0, 1, t38), (1, 1, t41)]) (Pos.plusT 6 (σ.bumpT 8).next) ((σ.bumpT 8).bumpT 9) fun t42 σ1 =>
Ret [some (.str [112, 114, 111, 103, 114, 101, 115, 115]), some t42] σ1 Q) (
Som (binA .eql .num t15 (.int .i64 6)) fun t44 =>
WIf t44 (
Som (vNilck a0) fun t46 =>
Som (vFieldAddr 18 t46) fun t47 =>
Alb (aSliceV 1 [.nptr] 1 [(0, 1, t47)]) (Pos.plusT 3 (σ.bumpT 8).next) ((σ.bumpT 8).bumpT 6) fun t48 σ1 =>
Ret [some (.str [114, 101, 112, 108, 97, 110]), some t48] σ1 Q) (
Som (binA .eql .num t15 (.int .i64 3)) fun t50 =>
WIf t50 (
Som (vNilck t11) fun t52 =>
Som (vFieldAddr 0 t52) fun t53 =>
Som (vNilck t11) fun t55 =>
Som (vFieldAddr 1 t55) fun t56 =>
Som (vNilck t11) fun t58 =>
Som (vFieldAddr 2 t58) fun t59 =>
Som (vNilck t11) fun t61 =>
Som (vFieldAddr 3 t61) fun t62 =>
Som (vFieldAddr 0 t62) fun t63 =>
Som (vNilck t11) fun t65 =>
Som (vFieldAddr 3 t65) fun t66 =>
Som (vFieldAddr 1 t66) fun t67 =>
Alb (aSliceV 1 [.nptr] 5 [(0, 1, t53), (1, 1, t56), (2, 1, t59), (3, 1, t63), (4, 1, t67)]) (Pos.plusT 17 (σ.bumpT 8).next) ((σ.bumpT 8).bumpT 20) fun t68 σ1 =>
Ret [some (.str [100, 114, 105, 118, 101, 114]), some t68] σ1 Q) (
Som (binA .eql .num t15 (.int .i64 1)) fun t70 =>
WIf t70 (
Som (vNilck t8) fun t72 =>
Som (vFieldAddr 0 t72) fun t73 =>
Som (vNilck t8) fun t75 =>
Som (vFieldAddr 1 t75) fun t76 =>
Som (vNilck t8) fun t78 =>
Som (vFieldAddr 2 t78) fun t79 =>
Som (vFieldAddr 0 t79) fun t80 =>
Som (vNilck t8) fun t82 =>
Som (vFieldAddr 2 t82) fun t83 =>
Som (vFieldAddr 1 t83) fun t84 =>
Som (vFieldAddr 0 t84) fun t85 =>
Som (vNilck t8) fun t87 =>
Som (vFieldAddr 2 t87) fun t88 =>
Som (vFieldAddr 1 t88) fun t89 =>
Som (vFieldAddr 1 t89) fun t90 =>
Som (vNilck t8) fun t92 =>
Som (vFieldAddr 2 t92) fun t93 =>
Som (vFieldAddr 3 t93) fun t94 =>
Som (vNilck t8) fun t96 =>
Som (vFieldAddr 6 t96) fun t97 =>
Som (vFieldAddr 0 t97) fun t98 =>
Som (vNilck t8) fun t100 =>
Som (vFieldAddr 6 t100) fun t101 =>
Som (vFieldAddr 1 t101) fun t102 =>
Som (vFieldAddr 0 t102) fun t103 =>
Som (vNilck t8) fun t105 =>
Som (vFieldAddr 6 t105) fun t106 =>
Som (vFieldAddr 1 t106) fun t107 =>
Som (vFieldAddr 1 t107) fun t108 =>
Som (vNilck t8) fun t110 =>
Som (vFieldAddr 6 t110) fun t111 =>
Som (vFieldAddr 3 t111) fun t112 =>
Alb (aSliceV 1 [.nptr] 10 [(0, 1, t73), (1, 1, t76), (2, 1, t80), (3, 1, t85), (4, 1, t90), (5, 1, t94), (6, 1, t98), (7, 1, t103), (8, 1, t108), (9, 1, t112)]) (Pos.plusT 42 (σ.bumpT 8).next) ((σ.bumpT 8).bumpT 45) fun t113 σ1 =>
Ret [some (.str [111, 114, 100, 101, 114]), some t113] σ1 Q) (
Ret [some (.str []), some .nsl] (σ.bumpT 8) Q)))))))
theorem f43_eq (C : CW) (a0 : AVal) (σ : S) (Q : AVal → S → Prop) : f43 C   a0 σ Q = wC C f43.body (E0.set 0 a0) σ (retK f43.res Q) := by kernel_rfl
theorem f43_ent (a0 : AVal) : enterE [a0] (slotsN 114) E0 = some (E0.set 0 a0) := by kernel_rfl
set_option maxRecDepth 20000 in
theorem f43_wf {tab : Nat → Option PFn} (ht : tab 43 = some f43.fn) {a0 : AVal} {σ : S} {Q : AVal → S → Prop} (h : f43 (WF tab)   a0 σ Q) : WF tab 43 [a0] σ Q := wFn_sound ht (wFn_code (f43_ent a0) (Eq.mp (f43_eq (WF tab)   a0 σ Q) h))
noncomputable def f44.c0 : PC := (.cond (ot 11) (.ops [oq 15 (.fieldAddr 17 (ot 3)), ⟨none, none, (.e (.store 1 (ot 15) (.val (.int .i64 0))))⟩]) (.seq (.ops [oq 17 (.bin .eql .num (ot 6) (.val (.int .i64 3))), oq 16 (.mov (ot 17))]) (.cond (ot 16) (.ops [oq 18 (.build [(.int .i64 0), (.int .i64 0), (.int .i64 0), (.int .i64 0), (.int .i64 0), (.bool false)] []), oq 19 (.fieldAddr 11 (ot 3)), ⟨none, none, (.e (.store 6 (ot 19) (ot 18)))⟩]) (.seq (.ops [oq 21 (.bin .eql .num (ot 6) (.val (.int .i64 5))), oq 20 (.mov (ot 21))]) (.cond (ot 20) (.seq (.ops [oq 22 (.fieldAddr 17 (ot 3)), ⟨none, none, (.e (.store 1 (ot 22) (.val (.int .i64 0))))⟩]) (.ops [oq 23 (.fieldAddr 18 (ot 3)), ⟨none, none, (.e (.store 1 (ot 23) (.val (.int .i64 0))))⟩])) (.seq (.ops [oq 25 (.bin .eql .num (ot 6) (.val (.int .i64 6))), oq 24 (.mov (ot 25))]) (.cond (ot 24) (.ops [oq 26 (.fieldAddr 18 (ot 3)), ⟨none, none, (.e (.store 1 (ot 26) (.val (.int .i64 0))))⟩]) (.seq (.ops [oq 2 (.mov (.val (.bool false)))]) .ret))))))))
noncomputable def f44.res : List PRes := [.tmp (sn 2)]
noncomputable def f44.p0 (C : CW) (Q : AVal → S → Prop) (E : En) (σ : S) : Prop :=
WIf (E 11) (
Som (vFieldAddr 17 (E 3)) fun t15 =>
Eff (storeW 1 t15 (.int .i64 0) σ) fun _ σ1 =>
Som (vLoadN 19 (E 3) σ1) fun t27 =>
Som (vFieldAddr 0 (E 1)) fun t28 =>
Som (vLoad1 t28 σ1) fun t29 =>
Som (vBuild [(.int .i64 0), (.int .i64 0), (.int .i64 0), (.int .i64 0), (.int .i64 0), (.int .i64 0), (.int .i64 0), (.int .i64 0), (.int .i64 0), (.int .i64 0), (.int .i64 0), (.int .i64 0), (.int .i64 0), (.int .i64 0), (.int .i64 0), (.int .i64 0), (.bool false), (.int .i64 0), (.int .i64 0)] [(0, 1, t29)]) fun t30 =>
Som (vEqAgg [.i, .i, .i, .i, .i, .i, .i, .i, .i, .i, .i, .i, .i, .i, .i, .i, .b, .i, .i] false t27 t30) fun t31 =>
Ret [some t31] σ1 Q) (
Som (binA .eql .num (E 6) (.int .i64 3)) fun t17 =>
WIf t17 (
Som (vBuild [(.int .i64 0), (.int .i64 0), (.int .i64 0), (.int .i64 0), (.int .i64 0), (.bool false)] []) fun t18 =>
Som (vFieldAddr 11 (E 3)) fun t19 =>
Eff (storeW 6 t19 t18 σ) fun _ σ1 =>
Som (vLoadN 19 (E 3) σ1) fun t27 =>
Som (vFieldAddr 0 (E 1)) fun t28 =>
Som (vLoad1 t28 σ1) fun t29 =>
Som (vBuild [(.int .i64 0), (.int .i64 0), (.int .i64 0), (.int .i64 0), (.int .i64 0), (.int .i64 0), (.int .i64 0), (.int .i64 0), (.int .i64 0), (.int .i64 0), (.int .i64 0), (.int .i64 0), (.int .i64 0), (.int .i64 0), (.int .i64 0), (.int .i64 0), (.bool false), (.int .i64 0), (.int .i64 0)] [(0, 1, t29)]) fun t30 =>
Som (vEqAgg [.i, .i, .i, .i, .i, .i, .i, .i, .i, .i, .i, .i, .i, .i, .i, .i, .b, .i, .i] false t27 t30) fun t31 =>
Ret [some t31] σ1 Q) (
Som (binA .eql .num (E 6) (.int .i64 5)) fun t21 =>
WIf t21 (
Som (vFieldAddr 17 (E 3)) fun t22 =>
Eff (storeW 1 t22 (.int .i64 0) σ) fun _ σ1 =>
Som (vFieldAddr 18 (E 3)) fun t23 =>
Eff (storeW 1 t23 (.int .i64 0) σ1) fun _ σ2 =>
Som (vLoadN 19 (E 3) σ2) fun t27 =>
Som (vFieldAddr 0 (E 1)) fun t28 =>
Som (vLoad1 t28 σ2) fun t29 =>
Som (vBuild [(.int .i64 0), (.int .i64 0), (.int .i64 0), (.int .i64 0), (.int .i64 0), (.int .i64 0), (.int .i64 0), (.int .i64 0), (.int .i64 0), (.int .i64 0), (.int .i64 0), (.int .i64 0), (.int .i64 0), (.int .i64 0), (.int .i64 0), (.int .i64 0), (.bool false), (.int .i64 0), (.int .i64 0)] [(0, 1, t29)]) fun t30 =>
Som (vEqAgg [.i, .i, .i, .i, .i, .i, .i, .i, .i, .i, .i, .i, .i, .i, .i, .i, .b, .i, .i] false t27 t30) fun t31 =>
Ret [some t31] σ2 Q) (
Som (binA .eql .num (E 6) (.int .i64 6)) fun t25 =>
WIf t25 (
Som (vFieldAddr 18 (E 3)) fun t26 =>
Eff (storeW 1 t26 (.int .i64 0) σ) fun _ σ1 =>
Som (vLoadN 19 (E 3) σ1) fun t27 =>
Som (vFieldAddr 0 (E 1)) fun t28 =>
Som (vLoad1 t28 σ1) fun t29 =>
Som (vBuild [(.int .i64 0), (.int .i64 0), (.int .i64 0), (.int .i64 0), (.int .i64 0), (.int .i64 0), (.int .i64 0), (.int .i64 0), (.int .i64 0), (.int .i64 0), (.int .i64 0), (.int .i64 0), (.int .i64 0), (.int .i64 0), (.int .i64 0), (.int .i64 0), (.bool false), (.int .i64 0), (.int .i64 0)] [(0, 1, t29)]) fun t30 =>
Som (vEqAgg [.i, .i, .i, .i, .i, .i, .i, .i, .i, .i, .i, .i, .i, .i, .i, .i, .b, .i, .i] false t27 t30) fun t31 =>
Ret [some t31] σ1 Q) (
Ret [some (.bool false)] σ Q))))
theorem f44.p0_eq (C : CW) (Q : AVal → S → Prop) (E : En) (σ : S) : f44.p0 C Q  E σ = wC C f44.c0 E σ (blockK 0 (seqK (wC C (.seq (.ops [oq 27 (.loadN 19 (ot 3)), oq 28 (.fieldAddr 0 (ot 1)), oq 29 (.load1 (ot 28)), oq 30 (.build [(.int .i64 0), (.int .i64 0), (.int .i64 0), (.int .i64 0), (.int .i64 0), (.int .i64 0), (.int .i64 0), (.int .i64 0), (.int .i64 0), (.int .i64 0), (.int .i64 0), (.int .i64 0), (.int .i64 0), (.int .i64 0), (.int .i64 0), (.int .i64 0), (.bool false), (.int .i64 0), (.int .i64 0)] [(0, 1, (ot 29))]), oq 31 (.eqAgg [.i, .i, .i, .i, .i, .i, .i, .i, .i, .i, .i, .i, .i, .i, .i, .i, .b, .i, .i] false (ot 27) (ot 30)), oq 2 (.mov (ot 31))]) .ret)) (retK f44.res Q))) := by kernel_rfl
abbrev f44.J0 (C : CW) (Q : AVal → S → Prop) (E : En) (σ : S) : Prop := wC C f44.c0 E σ (blockK 0 (seqK (wC C (.seq (.ops [oq 27 (.loadN 19 (ot 3)), oq 28 (.fieldAddr 0 (ot 1)), oq 29 (.load1 (ot 28)), oq 30 (.build [(.int .i64 0), (.int .i64 0), (.int .i64 0), (.int .i64 0), (.int .i64 0), (.int .i64 0), (.int .i64 0), (.int .i64 0), (.int .i64 0), (.int .i64 0), (.int .i64 0), (.int .i64 0), (.int .i64 0), (.int .i64 0), (.int .i64 0), (.int .i64 0), (.bool false), (.int .i64 0), (.int .i64 0)] [(0, 1, (ot 29))]), oq 31 (.eqAgg [.i, .i, .i, .i, .i, .i, .i, .i, .i, .i, .i, .i, .i, .i, .i, .i, .b, .i, .i] false (ot 27) (ot 30)), oq 2 (.mov (ot 31))]) .ret)) (retK f44.res Q)))
set_option maxRecDepth 20000 in
theorem f44.p0_of {C : CW} {Q : AVal → S → Prop} {E : En} {σ : S} (h : f44.p0 C Q  E σ) : f44.J0 C Q E σ := Eq.mp (f44.p0_eq C Q  E σ) h
noncomputable def f44.body (R0 : PC) : PC := (.seq (.ops [oa 1 (.box (ot 0)), oq 2 (.mov (.val (.bool false)))]) (.seq (.ops [oq 4 (.loadN 19 (ot 1)), oa 3 (.alloc [(.int .i64 0), (.int .i64 0), (.int .i64 0), (.int .i64 0), (.int .i64 0), (.int .i64 0), (.int .i64 0), (.int .i64 0), (.int .i64 0), (.int .i64 0), (.int .i64 0), (.int .i64 0), (.int .i64 0), (.int .i64 0), (.int .i64 0), (.int .i64 0), (.bool false), (.int .i64 0), (.int .i64 0)]), ⟨none, none, (.e (.store 19 (ot 3) (ot 4)))⟩]) (.seq (.seq (.ops [oq 5 (.fieldAddr 0 (ot 1)), oq 6 (.load1 (ot 5))]) (.block 0 (.seq (.ops [oq 8 (.bin .eql .num (ot 6) (.val (.int .i64 1))), oq 7 (.mov (ot 8))]) (.cond (ot 7) (.ops [oq 9 (.build [(.int .i64 0), (.int .i64 0), (.int .i64 0), (.int .i64 0), (.int .i64 0), (.int .i64 0), (.int .i64 0), (.int .i64 0), (.int .i64 0), (.int .i64 0)] []), oq 10 (.fieldAddr 1 (ot 3)), ⟨none, none, (.e (.store 10 (ot 10) (ot 9)))⟩]) (.seq (.seq (.ops [oq 12 (.bin .eql .num (ot 6) (.val (.int .i64 2))), oq 11 (.mov (ot 12))]) (.cond (ot 11) .skip (.seq (.ops [oq 13 (.bin .eql .num (ot 6) (.val (.int .i64 4))), oq 11 (.mov (ot 13))]) (.cond (ot 11) .skip (.ops [oq 14 (.bin .eql .num (ot 6) (.val (.int .i64 7))), oq 11 (.mov (ot 14))]))))) R0))))) (.seq (.ops [oq 27 (.loadN 19 (ot 3)), oq 28 (.fieldAddr 0 (ot 1)), oq 29 (.load1 (ot 28)), oq 30 (.build [(.int .i64 0), (.int .i64 0), (.int .i64 0), (.int .i64 0), (.int .i64 0), (.int .i64 0), (.int .i64 0), (.int .i64 0), (.int .i64 0), (.int .i64 0), (.int .i64 0), (.int .i64 0), (.int .i64 0), (.int .i64 0), (.int .i64 0), (.int .i64 0), (.bool false), (.int .i64 0), (.int .i64 0)] [(0, 1, (ot 29))]), oq 31 (.eqAgg [.i, .i, .i, .i, .i, .i, .i, .i, .i, .i, .i, .i, .i, .i, .i, .i, .b, .i, .i] false (ot 27) (ot 30)), oq 2 (.mov (ot 31))]) .ret))))
noncomputable def f44.fn : PFn := .code (slotsN 32) (f44.body f44.c0) f44.res
noncomputable def f44 (C : CW) (R0 : PC) (a0 : AVal) (σ : S) (Q : AVal → S → Prop) : Prop :=
Ala (aBoxV a0) σ fun t1 σ1 =>
Som (vLoadN 19 t1 σ1) fun t4 =>
Ala (aAllocV [(.int .i64 0), (.int .i64 0), (.int .i64 0), (.int .i64 0), (.int .i64 0), (.int .i64 0), (.int .i64 0), (.int .i64 0), (.int .i64 0), (.int .i64 0), (.int .i64 0), (.int .i64 0), (.int .i64 0), (.int .i64 0), (.int .i64 0), (.int .i64 0), (.bool false), (.int .i64 0), (.int .i64 0)]) σ1 fun t3 σ2 =>
Eff (storeW 19 t3 t4 σ2) fun _ σ3 =>
Som (vFieldAddr 0 t1) fun t5 =>
Som (vLoad1 t5 σ3) fun t6 =>
Som (binA .eql .num t6 (.int .i64 1)) fun t8 =>
WIf t8 (
Som (vBuild [(.int .i64 0), (.int .i64 0), (.int .i64 0), (.int .i64 0), (.int .i64 0), (.int .i64 0), (.int .i64 0), (.int .i64 0), (.int .i64 0), (.int .i64 0)] []) fun t9 =>
Som (vFieldAddr 1 t3) fun t10 =>
Eff (storeW 10 t10 t9 σ3) fun _ σ4 =>
Som (vLoadN 19 t3 σ4) fun t27 =>
Som (vFieldAddr 0 t1) fun t28 =>
Som (vLoad1 t28 σ4) fun t29 =>
Som (vBuild [(.int .i64 0), (.int .i64 0), (.int .i64 0), (.int .i64 0), (.int .i64 0), (.int .i64 0), (.int .i64 0), (.int .i64 0), (.int .i64 0), (.int .i64 0), (.int .i64 0), (.int .i64 0), (.int .i64 0), (.int .i64 0), (.int .i64 0), (.int .i64 0), (.bool false), (.int .i64 0), (.int .i64 0)] [(0, 1, t29)]) fun t30 =>
Som (vEqAgg [.i, .i, .i, .i, .i, .i, .i, .i, .i, .i, .i, .i, .i, .i, .i, .i, .b, .i, .i] false t27 t30) fun t31 =>
Ret [some t31] σ4 Q) (
Som (binA .eql .num t6 (.int .i64 2)) fun t12 =>
WIf t12 (
wC C R0 (((((((((((E0.set 0 a0).set 1 t1).set 2 (.bool false)).set 4 t4).set 3 t3).set 5 t5).set 6 t6).set 8 t8).set 7 t8).set 12 t12).set 11 t12) σ3 (blockK 0 (seqK (wC C (.seq (.ops [oq 27 (.loadN 19 (ot 3)), oq 28 (.fieldAddr 0 (ot 1)), oq 29 (.load1 (ot 28)), oq 30 (.build [(.int .i64 0), (.int .i64 0), (.int .i64 0), (.int .i64 0), (.int .i64 0), (.int .i64 0), (.int .i64 0), (.int .i64 0), (.int .i64 0), (.int .i64 0), (.int .i64 0), (.int .i64 0), (.int .i64 0), (.int .i64 0), (.int .i64 0), (.int .i64 0), (.bool false), (.int .i64 0), (.int .i64 0)] [(0, 1, (ot 29))]), oq 31 (.eqAgg [.i, .i, .i, .i, .i, .i, .i, .i, .i, .i, .i, .i, .i, .i, .i, .i, .b, .i, .i] false (ot 27) (ot 30)), oq 2 (.mov (ot 31))]) .ret)) (retK f44.res Q)))) (
Som (binA .eql .num t6 (.int .i64 4)) fun t13 =>
WIf t13 (
wC C R0 (((((((((((((E0.set 0 a0).set 1 t1).set 2 (.bool false)).set 4 t4).set 3 t3).set 5 t5).set 6 t6).set 8 t8).set 7 t8).set 12 t12).set 11 t12).set 13 t13).set 11 t13) σ3 (blockK 0 (seqK (wC C (.seq (.ops [oq 27 (.loadN 19 (ot 3)), oq 28 (.fieldAddr 0 (ot 1)), oq 29 (.load1 (ot 28)), oq 30 (.build [(.int .i64 0), (.int .i64 0), (.int .i64 0), (.int .i64 0), (.int .i64 0), (.int .i64 0), (.int .i64 0), (.int .i64 0), (.int .i64 0), (.int .i64 0), (.int .i64 0), (.int .i64 0), (.int .i64 0), (.int .i64 0), (.int .i64 0), (.int .i64 0), (.bool false), (.int .i64 0), (.int .i64 0)] [(0, 1, (ot 29))]), oq 31 (.eqAgg [.i, .i, .i, .i, .i, .i, .i, .i, .i, .i, .i, .i, .i, .i, .i, .i, .b, .i, .i] false (ot 27) (ot 30)), oq 2 (.mov (ot 31))]) .ret)) (retK f44.res Q)))) (
Som (binA .eql .num t6 (.int .i64 7)) fun t14 =>
wC C R0 (((((((((((((((E0.set 0 a0).set 1 t1).set 2 (.bool false)).set 4 t4).set 3 t3).set 5 t5).set 6 t6).set 8 t8).set 7 t8).set 12 t12).set 11 t12).set 13 t13).set 11 t13).set 14 t14).set 11 t14) σ3 (blockK 0 (seqK (wC C (.seq (.ops [oq 27 (.loadN 19 (ot 3)), oq 28 (.fieldAddr 0 (ot 1)), oq 29 (.load1 (ot 28)), oq 30 (.build [(.int .i64 0), (.int .i64 0), (.int .i64 0), (.int .i64 0), (.int .i64 0), (.int .i64 0), (.int .i64 0), (.int .i64 0), (.int .i64 0), (.int .i64 0), (.int .i64 0), (.int .i64 0), (.int .i64 0), (.int .i64 0), (.int .i64 0), (.int .i64 0), (.bool false), (.int .i64 0), (.int .i64 0)] [(0, 1, (ot 29))]), oq 31 (.eqAgg [.i, .i, .i, .i, .i, .i, .i, .i, .i, .i, .i, .i, .i, .i, .i, .i, .b, .i, .i] false (ot 27) (ot 30)), oq 2 (.mov (ot 31))]) .ret)) (retK f44.res Q))))))
theorem f44_eq (C : CW) (R0 : PC) (a0 : AVal) (σ : S) (Q : AVal → S → Prop) : f44 C R0  a0 σ Q = wC C (f44.body R0) (E0.set 0 a0) σ (retK f44.res Q) := by kernel_rfl
theorem f44_ent (a0 : AVal) : enterE [a0] (slotsN 32) E0 = some (E0.set 0 a0) := by kernel_rfl
set_option maxRecDepth 20000 in
theorem f44_wf {tab : Nat → Option PFn} (ht : tab 44 = some f44.fn) {a0 : AVal} {σ : S} {Q : AVal → S → Prop} (h : f44 (WF tab) f44.c0  a0 σ Q) : WF tab 44 [a0] σ Q := wFn_sound ht (wFn_code (f44_ent a0) (Eq.mp (f44_eq (WF tab) f44.c0  a0 σ Q) h))
noncomputable def f46.c0 : PC := (.block 1 (.seq (.ops [oq 20 (.mov (ot 0)), oq 21 (.mov (ot 1)), oe 22 (.call 47 [(ot 20), (ot 21)]), oq 6 (.mov (ot 22))]) (.seq (.seq (.ops [oq 23 (.mov (ot 6)), oq 24 (.bin .eql .num (ot 23) (.val (.int .i64 (-1))))]) (.cond (ot 24) (.seq (.ops [oq 25 (.mov (ot 5)), oq 4 (.mov (ot 25))]) .ret) .skip)) (.seq (.ops [oq 26 (.mov (ot 5)), oq 27 (.bin .add .num (ot 26) (.val (.int .i64 1))), oq 5 (.mov (ot 27))]) (.ops [oq 28 (.mov (ot 0)), oq 29 (.mov (ot 6)), oq 30 (.mov (ot 1)), oq 31 (.lenStr (ot 30)), oq 32 (.bin .add .num (ot 29) (ot 31)), oq 33 (.slStr (ot 28) (some (ot 32)) none), oq 0 (.mov (ot 33))])))))
noncomputable def f46.res : List PRes := [.tmp (sn 4)]
noncomputable def f46.p0 (C : CW) (Q : AVal → S → Prop) (R0 : PC) (E : En) (σ : S) : Prop :=
C 47 [(E 0), (E 1)] σ fun t22 σ1 =>
Som (binA .eql .num t22 (.int .i64 (-1))) fun t24 =>
WIf t24 (
Ret [some (E 5)] σ1 Q) (
Som (binA .add .num (E 5) (.int .i64 1)) fun t27 =>
Som (vLenStr (E 1)) fun t31 =>
Som (binA .add .num t22 t31) fun t32 =>
Som (vSlStr (E 0) (some t32) none) fun t33 =>
wC C (.loop R0) ((((((((((((((((E.set 20 (E 0)).set 21 (E 1)).set 22 t22).set 6 t22).set 23 t22).set 24 t24).set 26 (E 5)).set 27 t27).set 5 t27).set 28 (E 0)).set 29 t22).set 30 (E 1)).set 31 t31).set 32 t32).set 33 t33).set 0 t33) σ1 (blockK 0 (retK f46.res Q)))
theorem f46.p0_eq (C : CW) (Q : AVal → S → Prop) (R0 : PC) (E : En) (σ : S) : f46.p0 C Q R0 E σ = wC C f46.c0 E σ (loopK C R0 (blockK 0 (retK f46.res Q))) := by kernel_rfl
abbrev f46.L0 (C : CW) (Q : AVal → S → Prop) (E : En) (σ : S) : Prop := wC C (.loop f46.c0) E σ (blockK 0 (retK f46.res Q))
set_option maxRecDepth 20000 in
theorem f46.p0_of {tab : Nat → Option PFn} {Q : AVal → S → Prop} {E : En} {σ : S} (h : f46.p0 (WF tab) Q f46.c0 E σ) : f46.L0 (WF tab) Q E σ := wLoop_step (Eq.mp (f46.p0_eq (WF tab) Q f46.c0 E σ) h)
noncomputable def f46.body (R0 : PC) : PC := (.seq (.ops [oq 4 (.mov (.val (.int .i64 0)))]) (.seq (.seq (.ops [oq 7 (.mov (ot 1)), oq 8 (.lenStr (ot 7)), oq 9 (.bin .eql .num (ot 8) (.val (.int .i64 0)))]) (.cond (ot 9) (.seq (.ops [oq 10 (.mov (ot 0)), oe 11 (.call 58 [(ot 10)]), oq 12 (.bin .add .num (ot 11) (.val (.int .i64 1))), oq 4 (.mov (ot 12))]) .ret) .skip)) (.seq (.seq (.ops [oq 13 (.mov (ot 1)), oq 14 (.lenStr (ot 13)), oq 15 (.bin .eql .num (ot 14) (.val (.int .i64 1)))]) (.cond (ot 15) (.seq (.ops [oq 16 (.mov (ot 0)), oq 17 (.mov (ot 1)), oq 18 (.idxStr (ot 17) (.val (.int .i64 0))), oq 19 (.cntS (ot 16) (ot 18)), oq 4 (.mov (ot 19))]) .ret) .skip)) (.seq (.ops [oq 5 (.mov (.val (.int .i64 0)))]) (.block 0 (.loop R0))))))
noncomputable def f46.fn : PFn := .code (slotsN 34) (f46.body f46.c0) f46.res
noncomputable def f46 (C : CW) (R0 : PC) (a0 a1 : AVal) (σ : S) (Q : AVal → S → Prop) : Prop :=
Som (vLenStr a1) fun t8 =>
Som (binA .eql .num t8 (.int .i64 0)) fun t9 =>
WIf t9 (
C 58 [a0] σ fun t11 σ1 =>
Som (binA .add .num t11 (.int .i64 1)) fun t12 =>
Ret [some t12] σ1 Q) (
Som (vLenStr a1) fun t14 =>
Som (binA .eql .num t14 (.int .i64 1)) fun t15 =>
WIf t15 (
Som (vIdxStr a1 (.int .i64 0)) fun t18 =>
Som (vCntS a0 t18) fun t19 =>
Ret [some t19] σ Q) (
wC C (.loop R0) ((((((((((E0.set 0 a0).set 1 a1).set 4 (.int .i64 0)).set 7 a1).set 8 t8).set 9 t9).set 13 a1).set 14 t14).set 15 t15).set 5 (.int .i64 0)) σ (blockK 0 (retK f46.res Q))))
theorem f46_eq (C : CW) (R0 : PC) (a0 a1 : AVal) (σ : S) (Q : AVal → S → Prop) : f46 C R0  a0 a1 σ Q = wC C (f46.body R0) ((E0.set 0 a0).set 1 a1) σ (retK f46.res Q) := by kernel_rfl
theorem f46_ent (a0 a1 : AVal) : enterE [a0, a1] (slotsN 34) E0 = some ((E0.set 0 a0).set 1 a1) := by kernel_rfl
set_option maxRecDepth 20000 in
theorem f46_wf {tab : Nat → Option PFn} (ht : tab 46 = some f46.fn) {a0 a1 : AVal} {σ : S} {Q : AVal → S → Prop} (h : f46 (WF tab) f46.c0  a0 a1 σ Q) : WF tab 46 [a0, a1] σ Q := wFn_sound ht (wFn_code (f46_ent a0 a1) (Eq.mp (f46_eq (WF tab) f46.c0  a0 a1 σ Q) h))
noncomputable def f47.res : List PRes := [.tmp (sn 4)]
noncomputable def f47.body : PC := (.seq (.ops [oq 4 (.mov (.val (.int .i64 0)))]) (.seq (.ops [oq 5 (.mov (ot 0)), oq 6 (.mov (ot 1)), oe 7 (.call 61 [(ot 5), (ot 6)]), oq 4 (.mov (ot 7))]) .ret))
noncomputable def f47.fn : PFn := .code (slotsN 8) f47.body f47.res
noncomputable def f47 (C : CW) (a0 a1 : AVal) (σ : S) (Q : AVal → S → Prop) : Prop :=
C 61 [a0, a1] σ fun t7 σ1 =>
Ret [some t7] σ1 Q
theorem f47_eq (C : CW) (a0 a1 : AVal) (σ : S) (Q : AVal → S → Prop) : f47 C   a0 a1 σ Q = wC C f47.body ((E0.set 0 a0).set 1 a1) σ (retK f47.res Q) := by kernel_rfl
theorem f47_ent (a0 a1 : AVal) : enterE [a0, a1] (slotsN 8) E0 = some ((E0.set 0 a0).set 1 a1) := by kernel_rfl
set_option maxRecDepth 20000 in
theorem f47_wf {tab : Nat → Option PFn} (ht : tab 47 = some f47.fn) {a0 a1 : AVal} {σ : S} {Q : AVal → S → Prop} (h : f47 (WF tab)   a0 a1 σ Q) : WF tab 47 [a0, a1] σ Q := wFn_sound ht (wFn_code (f47_ent a0 a1) (Eq.mp (f47_eq (WF tab)   a0 a1 σ Q) h))
noncomputable def f51.c2 : PC := (.seq (.seq (.ops [oq 64 (.mov (ot 6)), oq 65 (.bin .gtr .num (ot 64) (.val (.int .u64 9223372036854775808))), oq 66 (.mov (ot 65)), oqg 67 66 false (.mov (ot 6)), oqg 68 66 false (.bin .eql .num (ot 67) (.val (.int .u64 9223372036854775808))), oqg 69 66 false (.mov (ot 68)), oqg 70 69 true (.mov (ot 4)), oqg 71 69 true (.un .not (ot 70)), oqg 72 66 false (.pick (ot 69) (ot 71) (.val (.bool false))), oq 73 (.pick (ot 66) (.val (.bool true)) (ot 72))]) (.cond (ot 73) (.seq (.ops [oq 2 (.mov (.val (.int .i64 0))), oq 3 (.mov (.val (.bool false)))]) .ret) .skip)) (.seq (.seq (.ops [oq 74 (.mov (ot 4))]) (.cond (ot 74) (.seq (.ops [oq 75 (.mov (ot 6)), oq 76 (.un .neg (ot 75)), oq 77 (.toInt .i64 (ot 76)), oq 2 (.mov (ot 77)), oq 3 (.mov (.val (.bool true)))]) .ret) .skip)) (.seq (.ops [oq 78 (.mov (ot 6)), oq 79 (.toInt .i64 (ot 78)), oq 2 (.mov (ot 79)), oq 3 (.mov (.val (.bool true)))]) .ret)))
noncomputable def f51.c1 : PC := (.seq (.seq (.ops [oq 40 (.mov (ot 7)), oq 41 (.mov (ot 5)), oq 42 (.lenStr (ot 41)), oq 43 (.bin .lss .num (ot 40) (ot 42))]) (.cond (ot 43) .skip (.exit 0))) (.seq (.block 1 (.seq (.seq (.ops [oq 46 (.mov (ot 5)), oq 47 (.mov (ot 7)), oq 48 (.idxStr (ot 46) (ot 47)), oq 49 (.bin .lss .num (ot 48) (.val (.int .u8 48))), oq 50 (.mov (ot 49)), oqg 51 50 false (.mov (ot 5)), oqg 52 50 false (.mov (ot 7)), oqg 53 50 false (.idxStr (ot 51) (ot 52)), oqg 54 50 false (.bin .gtr .num (ot 53) (.val (.int .u8 57))), oq 55 (.pick (ot 50) (.val (.bool true)) (ot 54))]) (.cond (ot 55) (.seq (.ops [oq 2 (.mov (.val (.int .i64 0))), oq 3 (.mov (.val (.bool false)))]) .ret) .skip)) (.ops [oq 56 (.mov (ot 6)), oq 57 (.bin .mul .num (ot 56) (.val (.int .u64 10))), oq 58 (.mov (ot 5)), oq 59 (.mov (ot 7)), oq 60 (.idxStr (ot 58) (ot 59)), oq 61 (.bin .sub .num (ot 60) (.val (.int .u8 48))), oq 62 (.toInt .u64 (ot 61)), oq 63 (.bin .add .num (ot 57) (ot 62)), oq 6 (.mov (ot 63))]))) (.ops [oq 44 (.mov (ot 7)), oq 45 (.bin .add .num (ot 44) (.val (.int .i64 1))), oq 7 (.mov (ot 45))])))
noncomputable def f51.t0 (R1 R2 : PC) : PC := (.seq (.seq (.ops [oq 20 (.mov (ot 5)), oq 21 (.bin .eql .num (ot 20) (.val (.str []))), oq 22 (.mov (ot 21)), oqg 23 22 false (.mov (ot 5)), oqg 24 22 false (.lenStr (ot 23)), oqg 25 22 false (.bin .gtr .num (ot 24) (.val (.int .i64 19))), oq 26 (.pick (ot 22) (.val (.bool true)) (ot 25)), oq 27 (.mov (ot 26)), oqg 28 27 false (.mov (ot 5)), oqg 29 27 false (.idxStr (ot 28) (.val (.int .i64 0))), oqg 30 27 false (.bin .eql .num (ot 29) (.val (.int .u8 48))), oqg 31 27 false (.mov (ot 30)), oqg 32 31 true (.mov (ot 4)), oqg 33 31 true (.mov (ot 32)), oqg 34 33 false (.mov (ot 5)), oqg 35 33 false (.lenStr (ot 34)), oqg 36 33 false (.bin .gtr .num (ot 35) (.val (.int .i64 1))), oqg 37 31 true (.pick (ot 33) (.val (.bool true)) (ot 36)), oqg 38 27 false (.pick (ot 31) (ot 37) (.val (.bool false))), oq 39 (.pick (ot 27) (.val (.bool true)) (ot 38))]) (.cond (ot 39) (.seq (.ops [oq 2 (.mov (.val (.int .i64 0))), oq 3 (.mov (.val (.bool false)))]) .ret) .skip)) (.seq (.ops [oq 6 (.mov (.val (.int .u64 0)))]) (.seq (.seq (.ops [oq 7 (.mov (.val (.int .i64 0)))]) (.block 0 (.loop R1))) R2)))
noncomputable def f51.c0 : PC := f51.t0 f51.c1 f51.c2
noncomputable def f51.res : List PRes := [.tmp (sn 2), .tmp (sn 3)]
noncomputable def f51.p2 (C : CW) (Q : AVal → S → Prop) (E : En) (σ : S) : Prop :=
Som (binA .gtr .num (E 6) (.int .u64 9223372036854775808)) fun t65 =>
Som (gq1 (isB t65 false) (some (E 6))) fun t67 =>
Som (gq1 (isB t65 false) (binA .eql .num t67 (.int .u64 9223372036854775808))) fun t68 =>
Som (gq1 (isB t65 false) (some t68)) fun t69 =>
Som (gq1 (isB t69 true) (some (E 4))) fun t70 =>
Som (gq1 (isB t69 true) (unA .not t70)) fun t71 =>
Som (gq1 (isB t65 false) (vPick t69 t71 (.bool false))) fun t72 =>
Som (vPick t65 (.bool true) t72) fun t73 =>
WIf t73 (
Ret [some (.int .i64 0), some (.bool false)] σ Q) (
WIf (E 4) (
Som (unA .neg (E 6)) fun t76 =>
Som (vToInt .i64 t76) fun t77 =>
Ret [some t77, some (.bool true)] σ Q) (
Som (vToInt .i64 (E 6)) fun t79 =>
Ret [some t79, some (.bool true)] σ Q))
theorem f51.p2_eq (C : CW) (Q : AVal → S → Prop) (E : En) (σ : S) : f51.p2 C Q  E σ = wC C f51.c2 E σ (retK f51.res Q) := by kernel_rfl
abbrev f51.J2 (C : CW) (Q : AVal → S → Prop) (E : En) (σ : S) : Prop := wC C f51.c2 E σ (retK f51.res Q)
set_option maxRecDepth 20000 in
theorem f51.p2_of {C : CW} {Q : AVal → S → Prop} {E : En} {σ : S} (h : f51.p2 C Q  E σ) : f51.J2 C Q E σ := Eq.mp (f51.p2_eq C Q  E σ) h
noncomputable def f51.p1 (C : CW) (Q : AVal → S → Prop) (R1 R2 : PC) (E : En) (σ : S) : Prop :=
Som (vLenStr (E 5)) fun t42 =>
Som (binA .lss .num (E 7) t42) fun t43 =>
WIf t43 (
Som (vIdxStr (E 5) (E 7)) fun t48 =>
Som (binA .lss .num t48 (.int .u8 48)) fun t49 =>
Som (gq1 (isB t49 false) (some (E 5))) fun t51 =>
Som (gq1 (isB t49 false) (some (E 7))) fun t52 =>
Som (gq1 (isB t49 false) (vIdxStr t51 t52)) fun t53 =>
Som (gq1 (isB t49 false) (binA .gtr .num t53 (.int .u8 57))) fun t54 =>
Som (vPick t49 (.bool true) t54) fun t55 =>
WIf t55 (
Ret [some (.int .i64 0), some (.bool false)] σ Q) (
Som (binA .mul .num (E 6) (.int .u64 10)) fun t57 =>
Som (vIdxStr (E 5) (E 7)) fun t60 =>
Som (binA .sub .num t60 (.int .u8 48)) fun t61 =>
Som (vToInt .u64 t61) fun t62 =>
Som (binA .add .num t57 t62) fun t63 =>
Som (binA .add .num (E 7) (.int .i64 1)) fun t45 =>
wC C (.loop R1) ((((((((((((((((((((((((((E.set 40 (E 7)).set 41 (E 5)).set 42 t42).set 43 t43).set 46 (E 5)).set 47 (E 7)).set 48 t48).set 49 t49).set 50 t49).set 51 t51).set 52 t52).set 53 t53).set 54 t54).set 55 t55).set 56 (E 6)).set 57 t57).set 58 (E 5)).set 59 (E 7)).set 60 t60).set 61 t61).set 62 t62).set 63 t63).set 6 t63).set 44 (E 7)).set 45 t45).set 7 t45) σ (blockK 0 (seqK (wC C R2) (retK f51.res Q))))) (
wC C R2 ((((E.set 40 (E 7)).set 41 (E 5)).set 42 t42).set 43 t43) σ (retK f51.res Q))
theorem f51.p1_eq (C : CW) (Q : AVal → S → Prop) (R1 R2 : PC) (E : En) (σ : S) : f51.p1 C Q R1 R2 E σ = wC C f51.c1 E σ (loopK C R1 (blockK 0 (seqK (wC C R2) (retK f51.res Q)))) := by kernel_rfl
abbrev f51.L1 (C : CW) (Q : AVal → S → Prop) (E : En) (σ : S) : Prop := wC C (.loop f51.c1) E σ (blockK 0 (seqK (wC C f51.c2) (retK f51.res Q)))
set_option maxRecDepth 20000 in
theorem f51.p1_of {tab : Nat → Option PFn} {Q : AVal → S → Prop} {E : En} {σ : S} (h : f51.p1 (WF tab) Q f51.c1 f51.c2 E σ) : f51.L1 (WF tab) Q E σ := wLoop_step (Eq.mp (f51.p1_eq (WF tab) Q f51.c1 f51.c2 E σ) h)
noncomputable def f51.p0 (C : CW) (Q : AVal → S → Prop) (R1 R2 : PC) (E : En) (σ : S) : Prop :=
Som (binA .eql .num (E 5) (.str [])) fun t21 =>
Som (gq1 (isB t21 false) (some (E 5))) fun t23 =>
Som (gq1 (isB t21 false) (vLenStr t23)) fun t24 =>
Som (gq1 (isB t21 false) (binA .gtr .num t24 (.int .i64 19))) fun t25 =>
Som (vPick t21 (.bool true) t25) fun t26 =>
Som (gq1 (isB t26 false) (some (E 5))) fun t28 =>
Som (gq1 (isB t26 false) (vIdxStr t28 (.int .i64 0))) fun t29 =>
Som (gq1 (isB t26 false) (binA .eql .num t29 (.int .u8 48))) fun t30 =>
Som (gq1 (isB t26 false) (some t30)) fun t31 =>
Som (gq1 (isB t31 true) (some (E 4))) fun t32 =>
Som (gq1 (isB t31 true) (some t32)) fun t33 =>
Som (gq1 (isB t33 false) (some (E 5))) fun t34 =>
Som (gq1 (isB t33 false) (vLenStr t34)) fun t35 =>
Som (gq1 (isB t33 false) (binA .gtr .num t35 (.int .i64 1))) fun t36 =>
Som (gq1 (isB t31 true) (vPick t33 (.bool true) t36)) fun t37 =>
Som (gq1 (isB t26 false) (vPick t31 t37 (.bool false))) fun t38 =>
Som (vPick t26 (.bool true) t38) fun t39 =>
WIf t39 (
Ret [some (.int .i64 0), some (.bool false)] σ Q) (
wC C (.loop R1) ((((((((((((((((((((((E.set 20 (E 5)).set 21 t21).set 22 t21).set 23 t23).set 24 t24).set 25 t25).set 26 t26).set 27 t26).set 28 t28).set 29 t29).set 30 t30).set 31 t31).set 32 t32).set 33 t33).set 34 t34).set 35 t35).set 36 t36).set 37 t37).set 38 t38).set 39 t39).set 6 (.int .u64 0)).set 7 (.int .i64 0)) σ (blockK 0 (seqK (wC C R2) (retK f51.res Q))))
theorem f51.p0_eq (C : CW) (Q : AVal → S → Prop) (R1 R2 : PC) (E : En) (σ : S) : f51.p0 C Q R1 R2 E σ = wC C (f51.t0 R1 R2) E σ (retK f51.res Q) := by kernel_rfl
abbrev f51.J0 (C : CW) (Q : AVal → S → Prop) (E : En) (σ : S) : Prop := wC C f51.c0 E σ (retK f51.res Q)
set_option maxRecDepth 20000 in
theorem f51.p0_of {C : CW} {Q : AVal → S → Prop} {E : En} {σ : S} (h : f51.p0 C Q f51.c1 f51.c2 E σ) : f51.J0 C Q E σ := Eq.mp (f51.p0_eq C Q f51.c1 f51.c2 E σ) h
noncomputable def f51.body (R0 : PC) : PC := (.seq (.ops [oq 2 (.mov (.val (.int .i64 0))), oq 3 (.mov (.val (.bool false)))]) (.seq (.ops [oq 8 (.mov (ot 0)), oq 9 (.lenStr (ot 8)), oq 10 (.bin .gtr .num (ot 9) (.val (.int .i64 1))), oq 11 (.mov (ot 10)), oqg 12 11 true (.mov (ot 0)), oqg 13 11 true (.idxStr (ot 12) (.val (.int .i64 0))), oqg 14 11 true (.bin .eql .num (ot 13) (.val (.int .u8 45))), oq 15 (.pick (ot 11) (ot 14) (.val (.bool false))), oq 4 (.mov (ot 15))]) (.seq (.ops [oq 16 (.mov (ot 0)), oq 5 (.mov (ot 16))]) (.seq (.seq (.ops [oq 17 (.mov (ot 4))]) (.cond (ot 17) (.ops [oq 18 (.mov (ot 0)), oq 19 (.slStr (ot 18) (some (.val (.int .i64 1))) none), oq 5 (.mov (ot 19))]) .skip)) R0))))
noncomputable def f51.fn : PFn := .code (slotsN 80) (f51.body f51.c0) f51.res
noncomputable def f51 (C : CW) (R0 : PC) (a0 : AVal) (σ : S) (Q : AVal → S → Prop) : Prop :=
Som (vLenStr a0) fun t9 =>
Som (binA .gtr .num t9 (.int .i64 1)) fun t10 =>
Som (gq1 (isB t10 true) (some a0)) fun t12 =>
Som (gq1 (isB t10 true) (vIdxStr t12 (.int .i64 0))) fun t13 =>
Som (gq1 (isB t10 true) (binA .eql .num t13 (.int .u8 45))) fun t14 =>
Som (vPick t10 t14 (.bool false)) fun t15 =>
WIf t15 (
Som (vSlStr a0 (some (.int .i64 1)) none) fun t19 =>
wC C R0 ((((((((((((((((((E0.set 0 a0).set 2 (.int .i64 0)).set 3 (.bool false)).set 8 a0).set 9 t9).set 10 t10).set 11 t10).set 12 t12).set 13 t13).set 14 t14).set 15 t15).set 4 t15).set 16 a0).set 5 a0).set 17 t15).set 18 a0).set 19 t19).set 5 t19) σ (retK f51.res Q)) (
wC C R0 (((((((((((((((E0.set 0 a0).set 2 (.int .i64 0)).set 3 (.bool false)).set 8 a0).set 9 t9).set 10 t10).set 11 t10).set 12 t12).set 13 t13).set 14 t14).set 15 t15).set 4 t15).set 16 a0).set 5 a0).set 17 t15) σ (retK f51.res Q))
theorem f51_eq (C : CW) (R0 : PC) (a0 : AVal) (σ : S) (Q : AVal → S → Prop) : f51 C R0  a0 σ Q = wC C (f51.body R0) (E0.set 0 a0) σ (retK f51.res Q) := by kernel_rfl
theorem f51_ent (a0 : AVal) : enterE [a0] (slotsN 80) E0 = some (E0.set 0 a0) := by kernel_rfl
set_option maxRecDepth 20000 in
theorem f51_wf {tab : Nat → Option PFn} (ht : tab 51 = some f51.fn) {a0 : AVal} {σ : S} {Q : AVal → S → Prop} (h : f51 (WF tab) f51.c0  a0 σ Q) : WF tab 51 [a0] σ Q := wFn_sound ht (wFn_code (f51_ent a0) (Eq.mp (f51_eq (WF tab) f51.c0  a0 σ Q) h))
end Go.Am
