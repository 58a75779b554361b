/-
  Functions of the program as conditions. Conditions: none.
-/
import Derived.Test.YtkgjghlklniaeaaF1
import Derived.KernelRfl
namespace Go.Am
set_option maxRecDepth 20000
variable {tab : Nat → Option PFn} {C : CW} {E : En} {σ : S} {Q : AVal → S → Prop}
noncomputable def f75.res : List PRes := []
noncomputable def f75.body : PC := (so [om 6 0, om 7 1, on 8 6, ox 9 3 8, os (.store 1 9 7)] (so [om 10 0, om 11 2, oe 12 (.append 1 16 (.val .nsl) 11), on 13 10, ox 14 4 13, os (.store 1 14 12)] (.ops [om 15 0, om 16 0, om 17 1, om 18 2, oe 19 (.call 76 [16, 17, 18]), on 20 15, ox 21 6 20, os (.store 1 21 19)])))
noncomputable def f75.fn : PFn := .code (slotsN 22) f75.body f75.res
noncomputable def f75 (C : CW) (a0 a1 a2 : AVal) (σ : S) (Q : AVal → S → Prop) : Prop :=
sN a0 fun t8 =>
sF 3 t8 fun t9 =>
sS 1 t9 a1 σ fun _ σ1 =>
Eff (appendA 1 16 .nsl a2 σ1) fun t12 σ2 =>
sN a0 fun t13 =>
sF 4 t13 fun t14 =>
sS 1 t14 t12 σ2 fun _ σ3 =>
C 76 [a0, a1, a2] σ3 fun t19 σ4 =>
sN a0 fun t20 =>
sF 6 t20 fun t21 =>
sS 1 t21 t19 σ4 fun _ σ5 =>
Ret [] σ5 Q
theorem f75_eq {a0 a1 a2 : AVal} : f75 C a0 a1 a2 σ Q = wC C f75.body (((E0.set 0 a0).set 1 a1).set 2 a2) σ (retK f75.res Q) := by kernel_rfl
theorem f75_wf (ht : tab 75 = some f75.fn) {a0 a1 a2 : AVal} (h : f75 (WF tab) a0 a1 a2 σ Q) : WF tab 75 [a0, a1, a2] σ Q := wf_of ht (by kernel_rfl) f75_eq h
noncomputable def f76.c0 : PC := (so [ob 13 .lss 12 11] (.seq (.cond 13 .skip (.exit 0)) (.seq (.block 1 (so [om 14 12, oq 15 (.ixSl 1 10 12), ol 16 15, om 8 14, om 9 16] (.ops [om 17 7, om 18 0, on 19 18, ox 20 2 19, ol 21 20, om 22 1, om 23 8, ob 24 .add 22 23, om 25 9, oe 26 (.call 80 [21, 24, 25]), ob 27 .add 17 26, om 7 27]))) (.ops [ob 28 .add 12 (oi 1), om 12 28]))))
noncomputable def f76.res : List PRes := [.tmp (sn 6)]
noncomputable def f76.p0 (C : CW) (Q : AVal → S → Prop) (R0 : PC) (E : En) (σ : S) : Prop :=
sB .lss (E 12) (E 11) fun t13 =>
WIf t13 (
Som (vIxSl 1 (E 10) (E 12)) fun t15 =>
sL t15 σ fun t16 =>
sN (E 0) fun t19 =>
sF 2 t19 fun t20 =>
sL t20 σ fun t21 =>
sB .add (E 1) (E 12) fun t24 =>
C 80 [t21, t24, t16] σ fun t26 σ1 =>
sB .add (E 7) t26 fun t27 =>
sB .add (E 12) (i6 1) fun t28 =>
wC C (.loop R0) (((((E.q 13 t13 14 (E 12) 15 t15 16 t16).q 8 (E 12) 9 t16 17 (E 7) 18 (E 0)).q 19 t19 20 t20 21 t21 22 (E 1)).q 23 (E 12) 24 t24 25 t16 26 t26).q 27 t27 7 t27 28 t28 12 t28) σ1 (blockK 0 (seqK (wC C (so [om 29 7, om 6 29] .ret)) (retK f76.res Q)))) (
Ret [some (E 7)] σ Q)
theorem f76.p0_eq {R0 : PC} : f76.p0 C Q R0 E σ = wC C f76.c0 E σ (loopK C R0 (blockK 0 (seqK (wC C (so [om 29 7, om 6 29] .ret)) (retK f76.res Q)))) := by kernel_rfl
abbrev f76.L0 (C : CW) (Q : AVal → S → Prop) (E : En) (σ : S) : Prop := wC C (.loop f76.c0) E σ (blockK 0 (seqK (wC C (so [om 29 7, om 6 29] .ret)) (retK f76.res Q)))
theorem f76.p0_of (h : f76.p0 (WF tab) Q f76.c0 E σ) : f76.L0 (WF tab) Q E σ := wLoop_step (Eq.mp f76.p0_eq h)
noncomputable def f76.body (R0 : PC) : PC := (so [oq 6 (.mov (oi 0))] (so [oq 7 (.mov (oi 0))] (.seq (so [om 10 2, oq 11 (.lenSl 10), oq 12 (.mov (oi 0))] (.block 0 (.loop R0))) (so [om 29 7, om 6 29] .ret))))
noncomputable def f76.fn : PFn := .code (slotsN 30) (f76.body f76.c0) f76.res
noncomputable def f76 (C : CW) (R0 : PC) (a0 a1 a2 : AVal) (σ : S) (Q : AVal → S → Prop) : Prop :=
Som (vLenSl a2) fun t11 =>
wC C (.loop R0) ((E0.q 0 a0 1 a1 2 a2 6 (i6 0)).q 7 (i6 0) 10 a2 11 t11 12 (i6 0)) σ (blockK 0 (seqK (wC C (so [om 29 7, om 6 29] .ret)) (retK f76.res Q)))
theorem f76_eq {R0 : PC} {a0 a1 a2 : AVal} : f76 C R0 a0 a1 a2 σ Q = wC C (f76.body R0) (((E0.set 0 a0).set 1 a1).set 2 a2) σ (retK f76.res Q) := by kernel_rfl
theorem f76_wf (ht : tab 76 = some f76.fn) {a0 a1 a2 : AVal} (h : f76 (WF tab) f76.c0 a0 a1 a2 σ Q) : WF tab 76 [a0, a1, a2] σ Q := wf_of ht (by kernel_rfl) f76_eq h
noncomputable def f77.res : List PRes := [.tmp (sn 4)]
noncomputable def f77.body : PC := (so [oq 4 (.mov (.val .nsl))] (so [om 5 0, oe 6 (.call 100 [5, (oi 10)]), om 7 1, oe 8 (.call 99 [6, 7]), om 4 8] .ret))
noncomputable def f77.fn : PFn := .code (slotsN 9) f77.body f77.res
noncomputable def f77 (C : CW) (a0 a1 : AVal) (σ : S) (Q : AVal → S → Prop) : Prop :=
C 100 [a0, (.int .i64 10)] σ fun t6 σ1 =>
C 99 [t6, a1] σ1 fun t8 σ2 =>
Ret [some t8] σ2 Q
theorem f77_eq {a0 a1 : AVal} : f77 C a0 a1 σ Q = wC C f77.body ((E0.set 0 a0).set 1 a1) σ (retK f77.res Q) := by kernel_rfl
theorem f77_wf (ht : tab 77 = some f77.fn) {a0 a1 : AVal} (h : f77 (WF tab) a0 a1 σ Q) : WF tab 77 [a0, a1] σ Q := wf_of ht (by kernel_rfl) f77_eq h
noncomputable def f78.res : List PRes := [.tmp (sn 4)]
noncomputable def f78.body : PC := (so [oq 4 (.mov (.val .nsl))] (so [om 7 0, oq 8 (.lenSl 7), ob 9 .add 8 (oi 8), om 10 1, oq 11 (.lenSl 10), ob 12 .add 9 11, oa 13 (.mkslice 1 1 [(.int .u8 0)] (oi 0) 12), om 5 13] (so [om 14 5, om 15 0, oe 16 (.append 1 1 14 15), om 5 16] (.seq (so [om 17 1, oq 18 (.lenSl 17), ob 19 .gtr 18 (oi 16384)] (.cond 19 (so [om 20 5, om 4 20] .ret) .skip)) (so [om 21 1, oq 22 (.lenSl 21), oq 23 (.toInt .u32 22), oe 24 (.call 101 [23]), om 6 24] (so [om 25 5, om 26 6, oe 27 (.append 1 1 25 26), om 5 27] (so [om 28 5, om 29 6, om 30 1, oa 31 (.bslice 1 [.nsl] 2 [(0, 1, 29), (1, 1, 30)]), oe 32 (.call 102 [31]), oe 33 (.call 101 [32]), oe 34 (.append 1 1 28 33), om 5 34] (so [om 35 5, om 36 1, oe 37 (.append 1 1 35 36), om 4 37] .ret))))))))
noncomputable def f78.fn : PFn := .code (slotsN 38) f78.body f78.res
noncomputable def f78 (C : CW) (a0 a1 : AVal) (σ : S) (Q : AVal → S → Prop) : Prop :=
Som (vLenSl a0) fun t8 =>
Som (binA .add .num t8 (.int .i64 8)) fun t9 =>
Som (vLenSl a1) fun t11 =>
Som (binA .add .num t9 t11) fun t12 =>
Ala (aMakeV 1 1 [(.int .u8 0)] (.int .i64 0) t12) σ fun t13 σ1 =>
Eff (appendA 1 1 t13 a0 σ1) fun t16 σ2 =>
Som (vLenSl a1) fun t18 =>
Som (binA .gtr .num t18 (.int .i64 16384)) fun t19 =>
WIf t19 (
Ret [some t16] σ2 Q) (
Som (vLenSl a1) fun t22 =>
Som (vToInt .u32 t22) fun t23 =>
C 101 [t23] σ2 fun t24 σ3 =>
Eff (appendA 1 1 t16 t24 σ3) fun t27 σ4 =>
Ala (aSliceV 1 [.nsl] 2 [(0, 1, t24), (1, 1, a1)]) σ4 fun t31 σ5 =>
C 102 [t31] σ5 fun t32 σ6 =>
C 101 [t32] σ6 fun t33 σ7 =>
Eff (appendA 1 1 t27 t33 σ7) fun t34 σ8 =>
Eff (appendA 1 1 t34 a1 σ8) fun t37 σ9 =>
Ret [some t37] σ9 Q)
theorem f78_eq {a0 a1 : AVal} : f78 C a0 a1 σ Q = wC C f78.body ((E0.set 0 a0).set 1 a1) σ (retK f78.res Q) := by kernel_rfl
theorem f78_wf (ht : tab 78 = some f78.fn) {a0 a1 : AVal} (h : f78 (WF tab) a0 a1 σ Q) : WF tab 78 [a0, a1] σ Q := wf_of ht (by kernel_rfl) f78_eq h
noncomputable def f79.res : List PRes := []
noncomputable def f79.body : PC := (so [om 4 0, on 5 4, ox 6 4 5, ol 7 6, oq 8 (.lenSl 7), ob 9 .eql 8 (oi 0)] (.cond 9 (.ops [om 10 0, om 11 1, on 12 10, ox 13 3 12, os (.store 1 13 11)]) .skip))
noncomputable def f79.fn : PFn := .code (slotsN 14) f79.body f79.res
noncomputable def f79 (C : CW) (a0 a1 : AVal) (σ : S) (Q : AVal → S → Prop) : Prop :=
sN a0 fun t5 =>
sF 4 t5 fun t6 =>
sL t6 σ fun t7 =>
Som (vLenSl t7) fun t8 =>
sB .eql t8 (i6 0) fun t9 =>
WIf t9 (
sN a0 fun t12 =>
sF 3 t12 fun t13 =>
sS 1 t13 a1 σ fun _ σ1 =>
Ret [] σ1 Q) (
Ret [] σ Q)
theorem f79_eq {a0 a1 : AVal} : f79 C a0 a1 σ Q = wC C f79.body ((E0.set 0 a0).set 1 a1) σ (retK f79.res Q) := by kernel_rfl
theorem f79_wf (ht : tab 79 = some f79.fn) {a0 a1 : AVal} (h : f79 (WF tab) a0 a1 σ Q) : WF tab 79 [a0, a1] σ Q := wf_of ht (by kernel_rfl) f79_eq h
noncomputable def f80.res : List PRes := [.tmp (sn 6)]
noncomputable def f80.body : PC := (so [oq 6 (.mov (oi 0))] (so [om 7 0, om 8 1, oe 9 (.call 50 [(.val .nsl), (oi 1), 7, 8, (oi 0), (.val (.str []))]), oq 10 (.lenSl 9), om 11 2, oq 12 (.lenStr 11), ob 13 .add 10 12, om 6 13] .ret))
noncomputable def f80.fn : PFn := .code (slotsN 14) f80.body f80.res
noncomputable def f80 (C : CW) (a0 a1 a2 : AVal) (σ : S) (Q : AVal → S → Prop) : Prop :=
C 50 [.nsl, (i6 1), a0, a1, (i6 0), (.str [])] σ fun t9 σ1 =>
Som (vLenSl t9) fun t10 =>
Som (vLenStr a2) fun t12 =>
sB .add t10 t12 fun t13 =>
Ret [some t13] σ1 Q
theorem f80_eq {a0 a1 a2 : AVal} : f80 C a0 a1 a2 σ Q = wC C f80.body (((E0.set 0 a0).set 1 a1).set 2 a2) σ (retK f80.res Q) := by kernel_rfl
theorem f80_wf (ht : tab 80 = some f80.fn) {a0 a1 a2 : AVal} (h : f80 (WF tab) a0 a1 a2 σ Q) : WF tab 80 [a0, a1, a2] σ Q := wf_of ht (by kernel_rfl) f80_eq h
noncomputable def f81.res : List PRes := [.tmp (sn 2)]
noncomputable def f81.body : PC := (so [oa 1 (.box 0), oq 2 (.mov (oi 0))] (so [ox 3 0 1, ol 4 3, ox 5 1 1, ol 6 5, oq 7 (.lenSl 6), ob 8 .add 4 7, ob 9 .sub 8 (oi 1), om 2 9] .ret))
noncomputable def f81.fn : PFn := .code (slotsN 10) f81.body f81.res
noncomputable def f81 (C : CW) (a0 : AVal) (σ : S) (Q : AVal → S → Prop) : Prop :=
Ala (aBoxV a0) σ fun t1 σ1 =>
sF 0 t1 fun t3 =>
sL t3 σ1 fun t4 =>
sF 1 t1 fun t5 =>
sL t5 σ1 fun t6 =>
Som (vLenSl t6) fun t7 =>
sB .add t4 t7 fun t8 =>
sB .sub t8 (i6 1) fun t9 =>
Ret [some t9] σ1 Q
theorem f81_eq {a0 : AVal} : f81 C a0 σ Q = wC C f81.body (E0.set 0 a0) σ (retK f81.res Q) := by kernel_rfl
theorem f81_wf (ht : tab 81 = some f81.fn) {a0 : AVal} (h : f81 (WF tab) a0 σ Q) : WF tab 81 [a0] σ Q := wf_of ht (by kernel_rfl) f81_eq h
noncomputable def f83.res : List PRes := [.tmp (sn 4), .tmp (sn 5), .tmp (sn 6)]
noncomputable def f83.body : PC := (so [oq 4 (.mov (.val .nsl)), oq 5 (.mov (oi 0)), oq 6 (.mov (oi 0))] (.seq (so [om 10 1, ob 11 .lss 10 (oi 0), om 12 11, oqg 13 12 false (.mov 1), oqg 14 12 false (.mov 0), oqg 15 12 false (.lenSl 14), oqg 16 12 false (.bin .gtr .num 13 15), oq 17 (.pick 12 oT 16)] (.cond 17 (so [oq 4 (.mov (.val .nsl)), oq 5 (.mov (oi 0)), oq 6 (.mov (oi 1))] .ret) .skip)) (.seq (so [om 18 1, om 19 0, oq 20 (.lenSl 19), ob 21 .eql 18 20] (.cond 21 (so [oq 4 (.mov (.val .nsl)), oq 5 (.mov (oi 0)), oq 6 (.mov (oi 8))] .ret) .skip)) (so [om 22 0, om 23 1, oq 24 (.slSl 1 22 (some 23) none none), om 7 24] (.seq (so [om 25 7, oq 26 (.lenSl 25), ob 27 .lss 26 (oi 8)] (.cond 27 (so [oq 4 (.mov (.val .nsl)), oq 5 (.mov (oi 0)), oq 6 (.mov (oi 3))] .ret) .skip)) (so [om 28 7, oe 29 (.call 103 [28]), om 8 29] (.seq (so [om 30 8, ob 31 .gtr 30 (.val (.int .u32 16384))] (.cond 31 (so [oq 4 (.mov (.val .nsl)), oq 5 (.mov (oi 0)), oq 6 (.mov (oi 2))] .ret) .skip)) (.seq (so [om 32 7, oq 33 (.lenSl 32), ob 34 .sub 33 (oi 8), om 35 8, oq 36 (.toInt .i64 35), ob 37 .lss 34 36] (.cond 37 (so [oq 4 (.mov (.val .nsl)), oq 5 (.mov (oi 0)), oq 6 (.mov (oi 3))] .ret) .skip)) (so [om 38 7, om 39 8, oq 40 (.toInt .i64 39), ob 41 .add (oi 8) 40, oq 42 (.slSl 1 38 (some (oi 8)) (some 41) none), om 9 42] (.seq (.seq (.draw 9 [⟨0, om 43 7, []⟩, ⟨1, oq 44 (.slSl 1 43 none (some (oi 4)) none), []⟩, ⟨2, om 45 9, []⟩, ⟨5, om 48 7, []⟩, ⟨6, oq 49 (.slSl 1 48 (some (oi 4)) none none), []⟩, ⟨3, oa 46 (.bslice 1 [.nsl] 2 [(0, 1, 44), (1, 1, 45)]), []⟩, ⟨4, oe 47 (.call 102 [46]), []⟩, ⟨7, oe 50 (.call 103 [49]), []⟩, ⟨8, ob 51 .neq 47 50, []⟩]) (.cond 51 (so [oq 4 (.mov (.val .nsl)), oq 5 (.mov (oi 0)), oq 6 (.mov (oi 6))] .ret) .skip)) (so [om 52 9, oe 53 (.append 1 1 (.val .nsl) 52), om 54 1, ob 55 .add 54 (oi 8), om 56 8, oq 57 (.toInt .i64 56), ob 58 .add 55 57, om 4 53, om 5 58, oq 6 (.mov (oi 0))] .ret)))))))))))
noncomputable def f83.fn : PFn := .code (slotsN 59) f83.body f83.res
noncomputable def f83 (C : CW) (a0 a1 : AVal) (σ : S) (Q : AVal → S → Prop) : Prop :=
Som (binA .lss .num a1 (.int .i64 0)) fun t11 =>
Som (gq1 (isB t11 false) (some a1)) fun t13 =>
Som (gq1 (isB t11 false) (some a0)) fun t14 =>
Som (gq1 (isB t11 false) (vLenSl t14)) fun t15 =>
Som (gq1 (isB t11 false) (binA .gtr .num t13 t15)) fun t16 =>
Som (vPick t11 (.bool true) t16) fun t17 =>
WIf t17 (
Ret [some .nsl, some (.int .i64 0), some (.int .i64 1)] σ Q) (
Som (vLenSl a0) fun t20 =>
Som (binA .eql .num a1 t20) fun t21 =>
WIf t21 (
Ret [some .nsl, some (.int .i64 0), some (.int .i64 8)] σ Q) (
Som (vSlSl 1 a0 (some a1) none none) fun t24 =>
Som (vLenSl t24) fun t26 =>
Som (binA .lss .num t26 (.int .i64 8)) fun t27 =>
WIf t27 (
Ret [some .nsl, some (.int .i64 0), some (.int .i64 3)] σ Q) (
C 103 [t24] σ fun t29 σ1 =>
Som (binA .gtr .num t29 (.int .u32 16384)) fun t31 =>
WIf t31 (
Ret [some .nsl, some (.int .i64 0), some (.int .i64 2)] σ1 Q) (
Som (vLenSl t24) fun t33 =>
Som (binA .sub .num t33 (.int .i64 8)) fun t34 =>
Som (vToInt .i64 t29) fun t36 =>
Som (binA .lss .num t34 t36) fun t37 =>
WIf t37 (
Ret [some .nsl, some (.int .i64 0), some (.int .i64 3)] σ1 Q) (
Som (vToInt .i64 t29) fun t40 =>
Som (binA .add .num (.int .i64 8) t40) fun t41 =>
Som (vSlSl 1 t24 (some (.int .i64 8)) (some t41) none) fun t42 =>
Som (vSlSl 1 t24 none (some (.int .i64 4)) none) fun t44 =>
Som (vSlSl 1 t24 (some (.int .i64 4)) none none) fun t49 =>
Alb (aSliceV 1 [.nsl] 2 [(0, 1, t44), (1, 1, t42)]) (Pos.plusT 3 σ1.next) (σ1.bumpT 9) fun t46 σ2 =>
C 102 [t46] σ2 fun t47 σ3 =>
C 103 [t49] σ3 fun t50 σ4 =>
Som (binA .neq .num t47 t50) fun t51 =>
WIf t51 (
Ret [some .nsl, some (.int .i64 0), some (.int .i64 6)] σ4 Q) (
Eff (appendA 1 1 .nsl t42 σ4) fun t53 σ5 =>
Som (binA .add .num a1 (.int .i64 8)) fun t55 =>
Som (vToInt .i64 t29) fun t57 =>
Som (binA .add .num t55 t57) fun t58 =>
Ret [some t53, some t58, some (.int .i64 0)] σ5 Q))))))
theorem f83_eq {a0 a1 : AVal} : f83 C a0 a1 σ Q = wC C f83.body ((E0.set 0 a0).set 1 a1) σ (retK f83.res Q) := by kernel_rfl
theorem f83_wf (ht : tab 83 = some f83.fn) {a0 a1 : AVal} (h : f83 (WF tab) a0 a1 σ Q) : WF tab 83 [a0, a1] σ Q := wf_of ht (by kernel_rfl) f83_eq h
noncomputable def f84.res : List PRes := [.tmp (sn 2)]
noncomputable def f84.body : PC := (so [oq 2 (.mov (.val .nptr))] (so [om 3 0, oe 4 (.call 100 [3, (oi 0)]), oq 5 (.build [(i6 0), (i6 0), .nsl, (i6 0)] [(2, 1, 4)]), oa 6 (.box 5), om 2 6] .ret))
noncomputable def f84.fn : PFn := .code (slotsN 7) f84.body f84.res
noncomputable def f84 (C : CW) (a0 : AVal) (σ : S) (Q : AVal → S → Prop) : Prop :=
C 100 [a0, (i6 0)] σ fun t4 σ1 =>
Som (vBuild [(i6 0), (i6 0), .nsl, (i6 0)] [(2, 1, t4)]) fun t5 =>
Ala (aBoxV t5) σ1 fun t6 σ2 =>
Ret [some t6] σ2 Q
theorem f84_eq {a0 : AVal} : f84 C a0 σ Q = wC C f84.body (E0.set 0 a0) σ (retK f84.res Q) := by kernel_rfl
theorem f84_wf (ht : tab 84 = some f84.fn) {a0 : AVal} (h : f84 (WF tab) a0 σ Q) : WF tab 84 [a0] σ Q := wf_of ht (by kernel_rfl) f84_eq h
noncomputable def f85.res : List PRes := [.tmp (sn 2)]
noncomputable def f85.body : PC := (so [oq 2 (.mov (oi 0))] (.seq (so [om 3 0, oq 4 (.bin .eql .ptr 3 (.val .nptr)), om 5 4, oqg 6 5 false (.mov 0), oqg 7 5 false (.nilck 6), oqg 8 5 false (.fieldAddr 0 7), oqg 9 5 false (.loadN 2 8), oeg 10 5 false (.call 97 [9]), oqg 11 5 false (.un .not 10), oq 12 (.pick 5 oT 11)] (.cond 12 (so [oq 2 (.mov (oi 0))] .ret) .skip)) (so [om 13 0, om 14 0, on 15 14, ox 16 3 15, ol 17 16, oe 18 (.call 104 [13, 17]), om 2 18] .ret)))
noncomputable def f85.fn : PFn := .code (slotsN 19) f85.body f85.res
noncomputable def f85 (C : CW) (a0 : AVal) (σ : S) (Q : AVal → S → Prop) : Prop :=
Som (binA .eql .ptr a0 .nptr) fun t4 =>
sU t4 (some a0) fun t6 =>
sU t4 (vNilck t6) fun t7 =>
sU t4 (vFieldAddr 0 t7) fun t8 =>
sU t4 (vLoadN 2 t8 σ) fun t9 =>
gE1 (isB t4 false) (fun K => C 97 [t9] σ K) σ fun t10 σ1 =>
sU t4 (unA .not t10) fun t11 =>
sP t4 (.bool true) t11 fun t12 =>
WIf t12 (
Ret [some (i6 0)] σ1 Q) (
sN a0 fun t15 =>
sF 3 t15 fun t16 =>
sL t16 σ1 fun t17 =>
C 104 [a0, t17] σ1 fun t18 σ2 =>
Ret [some t18] σ2 Q)
theorem f85_eq {a0 : AVal} : f85 C a0 σ Q = wC C f85.body (E0.set 0 a0) σ (retK f85.res Q) := by kernel_rfl
theorem f85_wf (ht : tab 85 = some f85.fn) {a0 : AVal} (h : f85 (WF tab) a0 σ Q) : WF tab 85 [a0] σ Q := wf_of ht (by kernel_rfl) f85_eq h
noncomputable def f97.res : List PRes := [.tmp (sn 2)]
noncomputable def f97.body : PC := (so [oa 1 (.box 0), oq 2 (.mov oF)] (so [ox 3 1 1, ol 4 3, ob 5 .eql 4 (oi 0), om 2 5] .ret))
noncomputable def f97.fn : PFn := .code (slotsN 6) f97.body f97.res
noncomputable def f97 (C : CW) (a0 : AVal) (σ : S) (Q : AVal → S → Prop) : Prop :=
Ala (aBoxV a0) σ fun t1 σ1 =>
sF 1 t1 fun t3 =>
sL t3 σ1 fun t4 =>
sB .eql t4 (i6 0) fun t5 =>
Ret [some t5] σ1 Q
theorem f97_eq {a0 : AVal} : f97 C a0 σ Q = wC C f97.body (E0.set 0 a0) σ (retK f97.res Q) := by kernel_rfl
theorem f97_wf (ht : tab 97 = some f97.fn) {a0 : AVal} (h : f97 (WF tab) a0 σ Q) : WF tab 97 [a0] σ Q := wf_of ht (by kernel_rfl) f97_eq h
noncomputable def f98.res : List PRes := [.tmp (sn 2)]
noncomputable def f98.body : PC := (so [oq 2 (.mov (oi 0))] (.seq (so [om 3 0, oq 4 (.bin .eql .ptr 3 (.val .nptr))] (.cond 4 (so [oq 2 (.mov (oi 0))] .ret) .skip)) (so [om 5 0, on 6 5, ox 7 3 6, ol 8 7, om 2 8] .ret)))
noncomputable def f98.fn : PFn := .code (slotsN 9) f98.body f98.res
noncomputable def f98 (C : CW) (a0 : AVal) (σ : S) (Q : AVal → S → Prop) : Prop :=
Som (binA .eql .ptr a0 .nptr) fun t4 =>
WIf t4 (
Ret [some (i6 0)] σ Q) (
sN a0 fun t6 =>
sF 3 t6 fun t7 =>
sL t7 σ fun t8 =>
Ret [some t8] σ Q)
theorem f98_eq {a0 : AVal} : f98 C a0 σ Q = wC C f98.body (E0.set 0 a0) σ (retK f98.res Q) := by kernel_rfl
theorem f98_wf (ht : tab 98 = some f98.fn) {a0 : AVal} (h : f98 (WF tab) a0 σ Q) : WF tab 98 [a0] σ Q := wf_of ht (by kernel_rfl) f98_eq h
noncomputable def f99.c1 : PC := (so [om 18 0, om 19 5, oq 20 (.toInt .u8 19), oa 21 (.bslice 1 [(.int .u8 0)] 1 [(0, 1, 20)]), oe 22 (.append 1 1 18 21), om 4 22] .ret)
noncomputable def f99.c0 : PC := (.seq (so [om 8 5, ob 9 .geq 8 (.val (.int .u64 128))] (.cond 9 .skip (.exit 0))) (.block 1 (so [om 10 0, om 11 5, oq 12 (.toInt .u8 11), ob 13 .or 12 (.val (.int .u8 128)), oa 14 (.bslice 1 [(.int .u8 0)] 1 [(0, 1, 13)]), oe 15 (.append 1 1 10 14), om 0 15] (.ops [om 16 5, ob 17 .shr 16 (.val (.int .u64 7)), om 5 17]))))
noncomputable def f99.res : List PRes := [.tmp (sn 4)]
noncomputable def f99.p1 (C : CW) (Q : AVal → S → Prop) (E : En) (σ : S) : Prop :=
Som (vToInt .u8 (E 5)) fun t20 =>
Ala (aSliceV 1 [(.int .u8 0)] 1 [(0, 1, t20)]) σ fun t21 σ1 =>
Eff (appendA 1 1 (E 0) t21 σ1) fun t22 σ2 =>
Ret [some t22] σ2 Q
theorem f99.p1_eq : f99.p1 C Q E σ = wC C f99.c1 E σ (retK f99.res Q) := by kernel_rfl
abbrev f99.J1 (C : CW) (Q : AVal → S → Prop) (E : En) (σ : S) : Prop := wC C f99.c1 E σ (retK f99.res Q)
theorem f99.p1_of (h : f99.p1 C Q E σ) : f99.J1 C Q E σ := Eq.mp f99.p1_eq h
noncomputable def f99.p0 (C : CW) (Q : AVal → S → Prop) (R0 R1 : PC) (E : En) (σ : S) : Prop :=
Som (binA .geq .num (E 5) (.int .u64 128)) fun t9 =>
WIf t9 (
Som (vToInt .u8 (E 5)) fun t12 =>
Som (binA .or .num t12 (.int .u8 128)) fun t13 =>
Ala (aSliceV 1 [(.int .u8 0)] 1 [(0, 1, t13)]) σ fun t14 σ1 =>
Eff (appendA 1 1 (E 0) t14 σ1) fun t15 σ2 =>
Som (binA .shr .num (E 5) (.int .u64 7)) fun t17 =>
wC C (.loop R0) ((((((((((((E.set 8 (E 5)).set 9 t9).set 10 (E 0)).set 11 (E 5)).set 12 t12).set 13 t13).set 14 t14).set 15 t15).set 0 t15).set 16 (E 5)).set 17 t17).set 5 t17) σ2 (blockK 0 (seqK (wC C R1) (retK f99.res Q)))) (
wC C R1 ((E.set 8 (E 5)).set 9 t9) σ (retK f99.res Q))
theorem f99.p0_eq {R0 R1 : PC} : f99.p0 C Q R0 R1 E σ = wC C f99.c0 E σ (loopK C R0 (blockK 0 (seqK (wC C R1) (retK f99.res Q)))) := by kernel_rfl
abbrev f99.L0 (C : CW) (Q : AVal → S → Prop) (E : En) (σ : S) : Prop := wC C (.loop f99.c0) E σ (blockK 0 (seqK (wC C f99.c1) (retK f99.res Q)))
theorem f99.p0_of (h : f99.p0 (WF tab) Q f99.c0 f99.c1 E σ) : f99.L0 (WF tab) Q E σ := wLoop_step (Eq.mp f99.p0_eq h)
noncomputable def f99.body (R0 R1 : PC) : PC := (so [oq 4 (.mov (.val .nsl))] (so [om 6 1, oe 7 (.call 110 [6]), om 5 7] (.seq (.block 0 (.loop R0)) R1)))
noncomputable def f99.fn : PFn := .code (slotsN 23) (f99.body f99.c0 f99.c1) f99.res
noncomputable def f99 (C : CW) (R0 R1 : PC) (a0 a1 : AVal) (σ : S) (Q : AVal → S → Prop) : Prop :=
C 110 [a1] σ fun t7 σ1 =>
wC C (.loop R0) ((((((E0.set 0 a0).set 1 a1).set 4 .nsl).set 6 a1).set 7 t7).set 5 t7) σ1 (blockK 0 (seqK (wC C R1) (retK f99.res Q)))
theorem f99_eq {R0 R1 : PC} {a0 a1 : AVal} : f99 C R0 R1 a0 a1 σ Q = wC C (f99.body R0 R1) ((E0.set 0 a0).set 1 a1) σ (retK f99.res Q) := by kernel_rfl
theorem f99_wf (ht : tab 99 = some f99.fn) {a0 a1 : AVal} (h : f99 (WF tab) f99.c0 f99.c1 a0 a1 σ Q) : WF tab 99 [a0, a1] σ Q := wf_of ht (by kernel_rfl) f99_eq h
noncomputable def f100.res : List PRes := [.tmp (sn 4)]
noncomputable def f100.body : PC := (so [oq 4 (.mov (.val .nsl))] (so [om 6 0, oq 7 (.lenSl 6), om 8 1, ob 9 .add 7 8, oa 10 (.mkslice 1 1 [(.int .u8 0)] (oi 0) 9), om 5 10] (so [om 11 5, om 12 0, oe 13 (.append 1 1 11 12), om 4 13] .ret)))
noncomputable def f100.fn : PFn := .code (slotsN 14) f100.body f100.res
noncomputable def f100 (C : CW) (a0 a1 : AVal) (σ : S) (Q : AVal → S → Prop) : Prop :=
Som (vLenSl a0) fun t7 =>
Som (binA .add .num t7 a1) fun t9 =>
Ala (aMakeV 1 1 [(.int .u8 0)] (.int .i64 0) t9) σ fun t10 σ1 =>
Eff (appendA 1 1 t10 a0 σ1) fun t13 σ2 =>
Ret [some t13] σ2 Q
theorem f100_eq {a0 a1 : AVal} : f100 C a0 a1 σ Q = wC C f100.body ((E0.set 0 a0).set 1 a1) σ (retK f100.res Q) := by kernel_rfl
theorem f100_wf (ht : tab 100 = some f100.fn) {a0 a1 : AVal} (h : f100 (WF tab) a0 a1 σ Q) : WF tab 100 [a0, a1] σ Q := wf_of ht (by kernel_rfl) f100_eq h
noncomputable def f101.res : List PRes := [.tmp (sn 2)]
noncomputable def f101.body : PC := (so [oq 2 (.mov (.val .nsl))] (so [om 3 0, oq 4 (.toInt .u8 3), om 5 0, ob 6 .shr 5 (.val (.int .u64 8)), oq 7 (.toInt .u8 6), om 8 0, ob 9 .shr 8 (.val (.int .u64 16)), oq 10 (.toInt .u8 9), om 11 0, ob 12 .shr 11 (.val (.int .u64 24)), oq 13 (.toInt .u8 12), oa 14 (.bslice 1 [(.int .u8 0)] 4 [(0, 1, 4), (1, 1, 7), (2, 1, 10), (3, 1, 13)]), om 2 14] .ret))
noncomputable def f101.fn : PFn := .code (slotsN 15) f101.body f101.res
noncomputable def f101 (C : CW) (a0 : AVal) (σ : S) (Q : AVal → S → Prop) : Prop :=
Som (vToInt .u8 a0) fun t4 =>
Som (binA .shr .num a0 (.int .u64 8)) fun t6 =>
Som (vToInt .u8 t6) fun t7 =>
Som (binA .shr .num a0 (.int .u64 16)) fun t9 =>
Som (vToInt .u8 t9) fun t10 =>
Som (binA .shr .num a0 (.int .u64 24)) fun t12 =>
Som (vToInt .u8 t12) fun t13 =>
Ala (aSliceV 1 [(.int .u8 0)] 4 [(0, 1, t4), (1, 1, t7), (2, 1, t10), (3, 1, t13)]) σ fun t14 σ1 =>
Ret [some t14] σ1 Q
theorem f101_eq {a0 : AVal} : f101 C a0 σ Q = wC C f101.body (E0.set 0 a0) σ (retK f101.res Q) := by kernel_rfl
theorem f101_wf (ht : tab 101 = some f101.fn) {a0 : AVal} (h : f101 (WF tab) a0 σ Q) : WF tab 101 [a0] σ Q := wf_of ht (by kernel_rfl) f101_eq h
noncomputable def f102.c0 : PC := (so [ob 9 .lss 8 7] (.seq (.cond 9 .skip (.exit 0)) (.seq (.block 1 (so [oq 10 (.ixSl 1 6 8), ol 11 10, om 5 11] (.ops [om 12 3, om 13 5, oe 14 (.call 111 [12, 13]), om 3 14]))) (.ops [ob 15 .add 8 (oi 1), om 8 15]))))
noncomputable def f102.res : List PRes := [.tmp (sn 2)]
noncomputable def f102.p0 (C : CW) (Q : AVal → S → Prop) (R0 : PC) (E : En) (σ : S) : Prop :=
Som (binA .lss .num (E 8) (E 7)) fun t9 =>
WIf t9 (
Som (vIxSl 1 (E 6) (E 8)) fun t10 =>
Som (vLoad1 t10 σ) fun t11 =>
C 111 [(E 3), t11] σ fun t14 σ1 =>
Som (binA .add .num (E 8) (.int .i64 1)) fun t15 =>
wC C (.loop R0) ((((((((((E.set 9 t9).set 10 t10).set 11 t11).set 5 t11).set 12 (E 3)).set 13 t11).set 14 t14).set 3 t14).set 15 t15).set 8 t15) σ1 (blockK 0 (seqK (wC C (so [om 16 3, om 2 16] .ret)) (retK f102.res Q)))) (
Ret [some (E 3)] σ Q)
theorem f102.p0_eq {R0 : PC} : f102.p0 C Q R0 E σ = wC C f102.c0 E σ (loopK C R0 (blockK 0 (seqK (wC C (so [om 16 3, om 2 16] .ret)) (retK f102.res Q)))) := by kernel_rfl
abbrev f102.L0 (C : CW) (Q : AVal → S → Prop) (E : En) (σ : S) : Prop := wC C (.loop f102.c0) E σ (blockK 0 (seqK (wC C (so [om 16 3, om 2 16] .ret)) (retK f102.res Q)))
theorem f102.p0_of (h : f102.p0 (WF tab) Q f102.c0 E σ) : f102.L0 (WF tab) Q E σ := wLoop_step (Eq.mp f102.p0_eq h)
noncomputable def f102.body (R0 : PC) : PC := (so [oq 2 (.mov (.val (.int .u32 0)))] (so [oq 3 (.mov (.val (.int .u32 0)))] (.seq (so [om 6 0, oq 7 (.lenSl 6), oq 8 (.mov (oi 0))] (.block 0 (.loop R0))) (so [om 16 3, om 2 16] .ret))))
noncomputable def f102.fn : PFn := .code (slotsN 17) (f102.body f102.c0) f102.res
noncomputable def f102 (C : CW) (R0 : PC) (a0 : AVal) (σ : S) (Q : AVal → S → Prop) : Prop :=
Som (vLenSl a0) fun t7 =>
wC C (.loop R0) ((((((E0.set 0 a0).set 2 (.int .u32 0)).set 3 (.int .u32 0)).set 6 a0).set 7 t7).set 8 (.int .i64 0)) σ (blockK 0 (seqK (wC C (so [om 16 3, om 2 16] .ret)) (retK f102.res Q)))
theorem f102_eq {R0 : PC} {a0 : AVal} : f102 C R0 a0 σ Q = wC C (f102.body R0) (E0.set 0 a0) σ (retK f102.res Q) := by kernel_rfl
theorem f102_wf (ht : tab 102 = some f102.fn) {a0 : AVal} (h : f102 (WF tab) f102.c0 a0 σ Q) : WF tab 102 [a0] σ Q := wf_of ht (by kernel_rfl) f102_eq h
noncomputable def f103.res : List PRes := [.tmp (sn 2)]
noncomputable def f103.body : PC := (so [oq 2 (.mov (.val (.int .u32 0)))] (.seq (.draw 23 [⟨0, om 3 0, []⟩, ⟨1, oq 4 (.ixSl 1 3 (oi 0)), []⟩, ⟨2, ol 5 4, []⟩, ⟨3, oq 6 (.toInt .u32 5), []⟩, ⟨4, om 7 0, []⟩, ⟨5, oq 8 (.ixSl 1 7 (oi 1)), []⟩, ⟨6, ol 9 8, []⟩, ⟨7, oq 10 (.toInt .u32 9), []⟩, ⟨8, ob 11 .shl 10 (.val (.int .u64 8)), []⟩, ⟨9, ob 12 .or 6 11, []⟩, ⟨10, om 13 0, []⟩, ⟨11, oq 14 (.ixSl 1 13 (oi 2)), []⟩, ⟨12, ol 15 14, []⟩, ⟨13, oq 16 (.toInt .u32 15), []⟩, ⟨14, ob 17 .shl 16 (.val (.int .u64 16)), []⟩, ⟨15, ob 18 .or 12 17, []⟩, ⟨16, om 19 0, []⟩, ⟨17, oq 20 (.ixSl 1 19 (oi 3)), []⟩, ⟨18, ol 21 20, []⟩, ⟨19, oq 22 (.toInt .u32 21), []⟩, ⟨20, ob 23 .shl 22 (.val (.int .u64 24)), []⟩, ⟨21, ob 24 .or 18 23, []⟩, ⟨22, om 2 24, []⟩]) .ret))
noncomputable def f103.fn : PFn := .code (slotsN 25) f103.body f103.res
noncomputable def f103 (C : CW) (a0 : AVal) (σ : S) (Q : AVal → S → Prop) : Prop :=
Som (vIxSl 1 a0 (.int .i64 0)) fun t4 =>
Som (vLoad1 t4 (σ.bumpT 23)) fun t5 =>
Som (vToInt .u32 t5) fun t6 =>
Som (vIxSl 1 a0 (.int .i64 1)) fun t8 =>
Som (vLoad1 t8 (σ.bumpT 23)) fun t9 =>
Som (vToInt .u32 t9) fun t10 =>
Som (binA .shl .num t10 (.int .u64 8)) fun t11 =>
Som (binA .or .num t6 t11) fun t12 =>
Som (vIxSl 1 a0 (.int .i64 2)) fun t14 =>
Som (vLoad1 t14 (σ.bumpT 23)) fun t15 =>
Som (vToInt .u32 t15) fun t16 =>
Som (binA .shl .num t16 (.int .u64 16)) fun t17 =>
Som (binA .or .num t12 t17) fun t18 =>
Som (vIxSl 1 a0 (.int .i64 3)) fun t20 =>
Som (vLoad1 t20 (σ.bumpT 23)) fun t21 =>
Som (vToInt .u32 t21) fun t22 =>
Som (binA .shl .num t22 (.int .u64 24)) fun t23 =>
Som (binA .or .num t18 t23) fun t24 =>
Ret [some t24] (σ.bumpT 23) Q
theorem f103_eq {a0 : AVal} : f103 C a0 σ Q = wC C f103.body (E0.set 0 a0) σ (retK f103.res Q) := by kernel_rfl
theorem f103_wf (ht : tab 103 = some f103.fn) {a0 : AVal} (h : f103 (WF tab) a0 σ Q) : WF tab 103 [a0] σ Q := wf_of ht (by kernel_rfl) f103_eq h
noncomputable def f104.c0 : PC := (.seq (.block 1 (.seq (.seq (.draw 10 [⟨0, om 10 0, []⟩, ⟨1, on 11 10, []⟩, ⟨2, ox 12 3 11, []⟩, ⟨3, ol 13 12, []⟩, ⟨4, om 14 0, []⟩, ⟨5, on 15 14, []⟩, ⟨6, ox 16 2 15, []⟩, ⟨7, ol 17 16, []⟩, ⟨8, oq 18 (.lenSl 17), []⟩, ⟨9, ob 19 .geq 13 18, []⟩]) (.cond 19 (so [om 20 0, om 21 1, oe 22 (.call 106 [20, 21, (oi 3)])] (so [oq 4 (.mov (oi 0))] .ret)) .skip)) (.seq (.draw 11 [⟨0, om 23 0, []⟩, ⟨1, on 24 23, []⟩, ⟨2, ox 25 2 24, []⟩, ⟨3, ol 26 25, []⟩, ⟨4, om 27 0, []⟩, ⟨5, on 28 27, []⟩, ⟨6, ox 29 3 28, []⟩, ⟨7, ol 30 29, []⟩, ⟨8, oq 31 (.ixSl 1 26 30), []⟩, ⟨9, ol 32 31, []⟩, ⟨10, om 7 32, []⟩]) (.seq (so [om 33 6, ob 34 .eql 33 (oi 9), om 35 34, oqg 36 35 true (.mov 7), oqg 37 35 true (.bin .gtr .num 36 (.val (.int .u8 1))), oq 38 (.pick 35 37 oF)] (.cond 38 (so [om 39 0, om 40 1, oe 41 (.call 106 [39, 40, (oi 4)])] (so [oq 4 (.mov (oi 0))] .ret)) .skip)) (so [om 42 0, on 43 42, ox 44 3 43, ol 45 44, ob 46 .add 45 (oi 1), on 47 42, ox 48 3 47, os (.store 1 48 46)] (so [om 49 5, om 50 7, ob 51 .and 50 (.val (.int .u8 127)), oq 52 (.toInt .u64 51), om 53 6, ob 54 .mul (oi 7) 53, oq 55 (.toInt .u64 54), ob 56 .shl 52 55, ob 57 .or 49 56, om 5 57] (.seq (so [om 58 7, ob 59 .geq 58 (.val (.int .u8 128))] (.cond 59 (.exit 1) .skip)) (.seq (so [om 60 7, ob 61 .eql 60 (.val (.int .u8 0)), om 62 61, oqg 63 62 true (.mov 6), oqg 64 62 true (.bin .gtr .num 63 (oi 0)), oq 65 (.pick 62 64 oF)] (.cond 65 (so [om 66 0, om 67 1, oe 68 (.call 106 [66, 67, (oi 4)])] (so [oq 4 (.mov (oi 0))] .ret)) .skip)) (so [om 69 5, oe 70 (.call 112 [69]), om 4 70] .ret))))))))) (.ops [om 8 6, ob 9 .add 8 (oi 1), om 6 9]))
noncomputable def f104.res : List PRes := [.tmp (sn 4)]
noncomputable def f104.p0 (C : CW) (Q : AVal → S → Prop) (R0 : PC) (E : En) (σ : S) : Prop :=
sN (E 0) fun t11 =>
sF 3 t11 fun t12 =>
sL t12 (σ.bumpT 10) fun t13 =>
sN (E 0) fun t15 =>
sF 2 t15 fun t16 =>
sL t16 (σ.bumpT 10) fun t17 =>
Som (vLenSl t17) fun t18 =>
sB .geq t13 t18 fun t19 =>
WIf t19 (
C 106 [(E 0), (E 1), (i6 3)] (σ.bumpT 10) fun t22 σ1 =>
Ret [some (i6 0)] σ1 Q) (
sN (E 0) fun t24 =>
sF 2 t24 fun t25 =>
sL t25 ((σ.bumpT 10).bumpT 11) fun t26 =>
sN (E 0) fun t28 =>
sF 3 t28 fun t29 =>
sL t29 ((σ.bumpT 10).bumpT 11) fun t30 =>
Som (vIxSl 1 t26 t30) fun t31 =>
sL t31 ((σ.bumpT 10).bumpT 11) fun t32 =>
sB .eql (E 6) (i6 9) fun t34 =>
sT t34 (some t32) fun t36 =>
sT t34 (binA .gtr .num t36 (.int .u8 1)) fun t37 =>
sP t34 t37 (.bool false) fun t38 =>
WIf t38 (
C 106 [(E 0), (E 1), (i6 4)] ((σ.bumpT 10).bumpT 11) fun t41 σ1 =>
Ret [some (i6 0)] σ1 Q) (
sN (E 0) fun t43 =>
sF 3 t43 fun t44 =>
sL t44 ((σ.bumpT 10).bumpT 11) fun t45 =>
sB .add t45 (i6 1) fun t46 =>
sN (E 0) fun t47 =>
sF 3 t47 fun t48 =>
sS 1 t48 t46 ((σ.bumpT 10).bumpT 11) fun _ σ1 =>
sB .and t32 (.int .u8 127) fun t51 =>
Som (vToInt .u64 t51) fun t52 =>
sB .mul (i6 7) (E 6) fun t54 =>
Som (vToInt .u64 t54) fun t55 =>
sB .shl t52 t55 fun t56 =>
sB .or (E 5) t56 fun t57 =>
sB .geq t32 (.int .u8 128) fun t59 =>
WIf t59 (
sB .add (E 6) (i6 1) fun t9 =>
wC C (.loop R0) (((((((((((((E.q 10 (E 0) 11 t11 12 t12 13 t13).q 14 (E 0) 15 t15 16 t16 17 t17).q 18 t18 19 t19 23 (E 0) 24 t24).q 25 t25 26 t26 27 (E 0) 28 t28).q 29 t29 30 t30 31 t31 32 t32).q 7 t32 33 (E 6) 34 t34 35 t34).q 36 t36 37 t37 38 t38 42 (E 0)).q 43 t43 44 t44 45 t45 46 t46).q 47 t47 48 t48 49 (E 5) 50 t32).q 51 t51 52 t52 53 (E 6) 54 t54).q 55 t55 56 t56 57 t57 5 t57).q 58 t32 59 t59 8 (E 6) 9 t9).set 6 t9) σ1 (blockK 0 (retK f104.res Q))) (
sB .eql t32 (.int .u8 0) fun t61 =>
sT t61 (some (E 6)) fun t63 =>
sT t61 (binA .gtr .num t63 (i6 0)) fun t64 =>
sP t61 t64 (.bool false) fun t65 =>
WIf t65 (
C 106 [(E 0), (E 1), (i6 4)] σ1 fun t68 σ2 =>
Ret [some (i6 0)] σ2 Q) (
C 112 [t57] σ1 fun t70 σ2 =>
Ret [some t70] σ2 Q))))
theorem f104.p0_eq {R0 : PC} : f104.p0 C Q R0 E σ = wC C f104.c0 E σ (loopK C R0 (blockK 0 (retK f104.res Q))) := by kernel_rfl
abbrev f104.L0 (C : CW) (Q : AVal → S → Prop) (E : En) (σ : S) : Prop := wC C (.loop f104.c0) E σ (blockK 0 (retK f104.res Q))
theorem f104.p0_of (h : f104.p0 (WF tab) Q f104.c0 E σ) : f104.L0 (WF tab) Q E σ := wLoop_step (Eq.mp f104.p0_eq h)
noncomputable def f104.body (R0 : PC) : PC := (so [oq 4 (.mov (oi 0))] (so [oq 5 (.mov (.val (.int .u64 0)))] (so [oq 6 (.mov (oi 0))] (.block 0 (.loop R0)))))
noncomputable def f104.fn : PFn := .code (slotsN 71) (f104.body f104.c0) f104.res
noncomputable def f104 (C : CW) (R0 : PC) (a0 a1 : AVal) (σ : S) (Q : AVal → S → Prop) : Prop :=
wC C (.loop R0) ((E0.q 0 a0 1 a1 4 (i6 0) 5 (.int .u64 0)).set 6 (i6 0)) σ (blockK 0 (retK f104.res Q))
theorem f104_eq {R0 : PC} {a0 a1 : AVal} : f104 C R0 a0 a1 σ Q = wC C (f104.body R0) ((E0.set 0 a0).set 1 a1) σ (retK f104.res Q) := by kernel_rfl
theorem f104_wf (ht : tab 104 = some f104.fn) {a0 a1 : AVal} (h : f104 (WF tab) f104.c0 a0 a1 σ Q) : WF tab 104 [a0, a1] σ Q := wf_of ht (by kernel_rfl) f104_eq h
noncomputable def f106.res : List PRes := []
noncomputable def f106.body : PC := (so [om 6 0, om 7 1, om 8 2, oq 9 (.build [(i6 0), (i6 0)] [(0, 1, 7), (1, 1, 8)]), on 10 6, ox 11 0 10, os (.store 2 11 9)] (.ops [om 12 0, om 13 1, on 14 12, ox 15 3 14, os (.store 1 15 13)]))
noncomputable def f106.fn : PFn := .code (slotsN 16) f106.body f106.res
noncomputable def f106 (C : CW) (a0 a1 a2 : AVal) (σ : S) (Q : AVal → S → Prop) : Prop :=
Som (vBuild [(i6 0), (i6 0)] [(0, 1, a1), (1, 1, a2)]) fun t9 =>
sN a0 fun t10 =>
sF 0 t10 fun t11 =>
sS 2 t11 t9 σ fun _ σ1 =>
sN a0 fun t14 =>
sF 3 t14 fun t15 =>
sS 1 t15 a1 σ1 fun _ σ2 =>
Ret [] σ2 Q
theorem f106_eq {a0 a1 a2 : AVal} : f106 C a0 a1 a2 σ Q = wC C f106.body (((E0.set 0 a0).set 1 a1).set 2 a2) σ (retK f106.res Q) := by kernel_rfl
theorem f106_wf (ht : tab 106 = some f106.fn) {a0 a1 a2 : AVal} (h : f106 (WF tab) a0 a1 a2 σ Q) : WF tab 106 [a0, a1, a2] σ Q := wf_of ht (by kernel_rfl) f106_eq h
noncomputable def f110.res : List PRes := [.tmp (sn 2)]
noncomputable def f110.body : PC := (so [oq 2 (.mov (.val (.int .u64 0)))] (so [om 3 0, oq 4 (.toInt .u64 3), ob 5 .shl 4 (.val (.int .u64 1)), om 6 0, ob 7 .shr 6 (.val (.int .u64 63)), oq 8 (.toInt .u64 7), ob 9 .xor 5 8, om 2 9] .ret))
noncomputable def f110.fn : PFn := .code (slotsN 10) f110.body f110.res
noncomputable def f110 (C : CW) (a0 : AVal) (σ : S) (Q : AVal → S → Prop) : Prop :=
Som (vToInt .u64 a0) fun t4 =>
Som (binA .shl .num t4 (.int .u64 1)) fun t5 =>
Som (binA .shr .num a0 (.int .u64 63)) fun t7 =>
Som (vToInt .u64 t7) fun t8 =>
Som (binA .xor .num t5 t8) fun t9 =>
Ret [some t9] σ Q
theorem f110_eq {a0 : AVal} : f110 C a0 σ Q = wC C f110.body (E0.set 0 a0) σ (retK f110.res Q) := by kernel_rfl
theorem f110_wf (ht : tab 110 = some f110.fn) {a0 : AVal} (h : f110 (WF tab) a0 σ Q) : WF tab 110 [a0] σ Q := wf_of ht (by kernel_rfl) f110_eq h
noncomputable def f111.c1 : PC := (so [ob 22 .lss 21 (oi 8)] (.seq (.cond 22 .skip (.exit 2)) (.seq (.block 3 (so [om 23 5, ob 24 .and 23 (.val (.int .u32 1)), om 8 24] (.ops [om 25 5, ob 26 .shr 25 (.val (.int .u64 1)), om 27 8, ob 28 .mul (.val (.int .u32 3988292384)) 27, ob 29 .xor 26 28, om 5 29]))) (.ops [ob 30 .add 21 (oi 1), om 21 30]))))
noncomputable def f111.t0 (R1 : PC) : PC := (so [ob 14 .lss 13 12] (.seq (.cond 14 .skip (.exit 0)) (.seq (.block 1 (so [oq 15 (.ixSl 1 11 13), ol 16 15, om 7 16] (so [om 17 5, om 18 7, oq 19 (.toInt .u32 18), ob 20 .xor 17 19, om 5 20] (so [oq 21 (.mov (oi 0))] (.block 2 (.loop R1)))))) (.ops [ob 31 .add 13 (oi 1), om 13 31]))))
noncomputable def f111.c0 : PC := f111.t0 f111.c1
noncomputable def f111.res : List PRes := [.tmp (sn 4)]
noncomputable def f111.p1 (C : CW) (Q : AVal → S → Prop) (R1 R0 : PC) (E : En) (σ : S) : Prop :=
Som (binA .lss .num (E 21) (.int .i64 8)) fun t22 =>
WIf t22 (
Som (binA .and .num (E 5) (.int .u32 1)) fun t24 =>
Som (binA .shr .num (E 5) (.int .u64 1)) fun t26 =>
Som (binA .mul .num (.int .u32 3988292384) t24) fun t28 =>
Som (binA .xor .num t26 t28) fun t29 =>
Som (binA .add .num (E 21) (.int .i64 1)) fun t30 =>
wC C (.loop R1) ((((((((((((E.set 22 t22).set 23 (E 5)).set 24 t24).set 8 t24).set 25 (E 5)).set 26 t26).set 27 t24).set 28 t28).set 29 t29).set 5 t29).set 30 t30).set 21 t30) σ (blockK 2 (blockK 1 (seqK (wC C (.ops [ob 31 .add 13 (oi 1), om 13 31])) (loopK C R0 (blockK 0 (seqK (wC C (so [om 32 5, oq 33 (.un .xor 32), om 4 33] .ret)) (retK f111.res Q)))))))) (
Som (binA .add .num (E 13) (.int .i64 1)) fun t31 =>
wC C (.loop R0) (((E.set 22 t22).set 31 t31).set 13 t31) σ (blockK 0 (seqK (wC C (so [om 32 5, oq 33 (.un .xor 32), om 4 33] .ret)) (retK f111.res Q))))
theorem f111.p1_eq {R1 R0 : PC} : f111.p1 C Q R1 R0 E σ = wC C f111.c1 E σ (loopK C R1 (blockK 2 (blockK 1 (seqK (wC C (.ops [ob 31 .add 13 (oi 1), om 13 31])) (loopK C R0 (blockK 0 (seqK (wC C (so [om 32 5, oq 33 (.un .xor 32), om 4 33] .ret)) (retK f111.res Q)))))))) := by kernel_rfl
abbrev f111.L1 (C : CW) (Q : AVal → S → Prop) (E : En) (σ : S) : Prop := wC C (.loop f111.c1) E σ (blockK 2 (blockK 1 (seqK (wC C (.ops [ob 31 .add 13 (oi 1), om 13 31])) (loopK C f111.c0 (blockK 0 (seqK (wC C (so [om 32 5, oq 33 (.un .xor 32), om 4 33] .ret)) (retK f111.res Q)))))))
theorem f111.p1_of (h : f111.p1 (WF tab) Q f111.c1 f111.c0 E σ) : f111.L1 (WF tab) Q E σ := wLoop_step (Eq.mp f111.p1_eq h)
noncomputable def f111.p0 (C : CW) (Q : AVal → S → Prop) (R1 R0 : PC) (E : En) (σ : S) : Prop :=
Som (binA .lss .num (E 13) (E 12)) fun t14 =>
WIf t14 (
Som (vIxSl 1 (E 11) (E 13)) fun t15 =>
Som (vLoad1 t15 σ) fun t16 =>
Som (vToInt .u32 t16) fun t19 =>
Som (binA .xor .num (E 5) t19) fun t20 =>
wC C (.loop R1) ((((((((((E.set 14 t14).set 15 t15).set 16 t16).set 7 t16).set 17 (E 5)).set 18 t16).set 19 t19).set 20 t20).set 5 t20).set 21 (.int .i64 0)) σ (blockK 2 (blockK 1 (seqK (wC C (.ops [ob 31 .add 13 (oi 1), om 13 31])) (loopK C R0 (blockK 0 (seqK (wC C (so [om 32 5, oq 33 (.un .xor 32), om 4 33] .ret)) (retK f111.res Q)))))))) (
Som (unA .xor (E 5)) fun t33 =>
Ret [some t33] σ Q)
theorem f111.p0_eq {R1 R0 : PC} : f111.p0 C Q R1 R0 E σ = wC C (f111.t0 R1) E σ (loopK C R0 (blockK 0 (seqK (wC C (so [om 32 5, oq 33 (.un .xor 32), om 4 33] .ret)) (retK f111.res Q)))) := by kernel_rfl
abbrev f111.L0 (C : CW) (Q : AVal → S → Prop) (E : En) (σ : S) : Prop := wC C (.loop f111.c0) E σ (blockK 0 (seqK (wC C (so [om 32 5, oq 33 (.un .xor 32), om 4 33] .ret)) (retK f111.res Q)))
theorem f111.p0_of (h : f111.p0 (WF tab) Q f111.c1 f111.c0 E σ) : f111.L0 (WF tab) Q E σ := wLoop_step (Eq.mp f111.p0_eq h)
noncomputable def f111.body (R0 : PC) : PC := (so [oq 4 (.mov (.val (.int .u32 0)))] (so [om 9 0, oq 10 (.un .xor 9), om 5 10] (.seq (so [om 11 1, oq 12 (.lenSl 11), oq 13 (.mov (oi 0))] (.block 0 (.loop R0))) (so [om 32 5, oq 33 (.un .xor 32), om 4 33] .ret))))
noncomputable def f111.fn : PFn := .code (slotsN 34) (f111.body f111.c0) f111.res
noncomputable def f111 (C : CW) (R0 : PC) (a0 a1 : AVal) (σ : S) (Q : AVal → S → Prop) : Prop :=
Som (unA .xor a0) fun t10 =>
Som (vLenSl a1) fun t12 =>
wC C (.loop R0) (((((((((E0.set 0 a0).set 1 a1).set 4 (.int .u32 0)).set 9 a0).set 10 t10).set 5 t10).set 11 a1).set 12 t12).set 13 (.int .i64 0)) σ (blockK 0 (seqK (wC C (so [om 32 5, oq 33 (.un .xor 32), om 4 33] .ret)) (retK f111.res Q)))
theorem f111_eq {R0 : PC} {a0 a1 : AVal} : f111 C R0 a0 a1 σ Q = wC C (f111.body R0) ((E0.set 0 a0).set 1 a1) σ (retK f111.res Q) := by kernel_rfl
theorem f111_wf (ht : tab 111 = some f111.fn) {a0 a1 : AVal} (h : f111 (WF tab) f111.c0 a0 a1 σ Q) : WF tab 111 [a0, a1] σ Q := wf_of ht (by kernel_rfl) f111_eq h
noncomputable def f112.res : List PRes := [.tmp (sn 2)]
noncomputable def f112.body : PC := (so [oq 2 (.mov (oi 0))] (so [om 3 0, ob 4 .shr 3 (.val (.int .u64 1)), oq 5 (.toInt .i64 4), om 6 0, ob 7 .and 6 (.val (.int .u64 1)), oq 8 (.toInt .i64 7), oq 9 (.un .neg 8), ob 10 .xor 5 9, om 2 10] .ret))
noncomputable def f112.fn : PFn := .code (slotsN 11) f112.body f112.res
noncomputable def f112 (C : CW) (a0 : AVal) (σ : S) (Q : AVal → S → Prop) : Prop :=
sB .shr a0 (.int .u64 1) fun t4 =>
Som (vToInt .i64 t4) fun t5 =>
sB .and a0 (.int .u64 1) fun t7 =>
Som (vToInt .i64 t7) fun t8 =>
Som (unA .neg t8) fun t9 =>
sB .xor t5 t9 fun t10 =>
Ret [some t10] σ Q
theorem f112_eq {a0 : AVal} : f112 C a0 σ Q = wC C f112.body (E0.set 0 a0) σ (retK f112.res Q) := by kernel_rfl
theorem f112_wf (ht : tab 112 = some f112.fn) {a0 : AVal} (h : f112 (WF tab) a0 σ Q) : WF tab 112 [a0] σ Q := wf_of ht (by kernel_rfl) f112_eq h
end Go.Am
