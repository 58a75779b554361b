/-
  Functions of the program as conditions. Conditions: none.
-/
import Derived.Test.YtkgjghlklniaeaaF1
import Derived.KernelRfl
namespace Go.Am
set_option maxRecDepth 20000
variable {tab : Nat → Option PFn} {C : CW} {E : En} {σ : S} {Q : AVal → S → Prop}
noncomputable def f74.res : List PRes := [.tmp (sn 4)]
noncomputable def f74.body : PC := (so [oa 3 (.box 1), oq 4 (.mov oF)] (.seq (so [ox 5 0 3, ol 6 5] (.block 0 (so [ob 8 .eql 6 (oi 1), om 7 8] (.cond 7 (.seq (so [om 9 0, ox 10 2 3, ol 11 10, oe 12 (.call 48 [9, 11, (oi 1)]), oq 13 (.un .not 12)] (.cond 13 (so [oq 4 (.mov oF)] .ret) .skip)) (.ops [om 14 0, ox 15 2 3, ol 16 15, ox 17 4 3, ol 18 17, oe 19 (.call 52 [14, 16, 18])])) (so [ob 21 .eql 6 (oi 2), om 20 21] (.cond 20 (.seq (.seq (.draw 15 [⟨0, ox 22 2 3, []⟩, ⟨1, ol 23 22, []⟩, ⟨2, om 24 0, []⟩, ⟨3, on 25 24, []⟩, ⟨4, ox 26 3 25, []⟩, ⟨5, ol 27 26, []⟩, ⟨6, ob 28 .lss 23 27, []⟩, ⟨7, om 29 28, []⟩, ⟨8, oqg 30 29 false (.fieldAddr 2 3), []⟩, ⟨9, oqg 31 29 false (.load1 30), []⟩, ⟨10, oqg 32 29 false (.mov 0), []⟩, ⟨11, oeg 33 29 false (.call 15 [32]), [oqg 31 29 false (.load1 30)]⟩, ⟨12, oqg 34 29 false (.bin .add .num 33 (oi 1)), []⟩, ⟨13, oqg 35 29 false (.bin .gtr .num 31 34), []⟩, ⟨14, oq 36 (.pick 29 oT 35), []⟩]) (.cond 36 (so [oq 4 (.mov oF)] .ret) .skip)) (.draw 18 [⟨0, om 37 0, []⟩, ⟨1, om 38 0, []⟩, ⟨2, on 39 38, []⟩, ⟨3, ox 40 3 39, []⟩, ⟨4, ol 41 40, []⟩, ⟨5, om 42 0, []⟩, ⟨6, on 43 42, []⟩, ⟨7, ox 44 4 43, []⟩, ⟨8, ol 45 44, []⟩, ⟨9, ox 46 2 3, []⟩, ⟨10, ol 47 46, []⟩, ⟨11, om 48 0, []⟩, ⟨12, on 49 48, []⟩, ⟨13, ox 50 3 49, []⟩, ⟨14, ol 51 50, []⟩, ⟨15, ob 52 .sub 47 51, []⟩, ⟨16, oq 53 (.slSl 1 45 none (some 52) none), []⟩, ⟨17, oe 54 (.call 75 [37, 41, 53]), []⟩])) (so [ob 56 .eql 6 (oi 3), om 55 56] (.cond 55 (.seq (.seq (.draw 15 [⟨0, ox 57 2 3, []⟩, ⟨1, ol 58 57, []⟩, ⟨2, om 59 0, []⟩, ⟨3, on 60 59, []⟩, ⟨4, ox 61 3 60, []⟩, ⟨5, ol 62 61, []⟩, ⟨6, ob 63 .lss 58 62, []⟩, ⟨7, om 64 63, []⟩, ⟨8, oqg 65 64 false (.fieldAddr 2 3), []⟩, ⟨9, oqg 66 64 false (.load1 65), []⟩, ⟨10, oqg 67 64 false (.mov 0), []⟩, ⟨11, oeg 68 64 false (.call 15 [67]), [oqg 66 64 false (.load1 65)]⟩, ⟨12, oqg 69 64 false (.bin .add .num 68 (oi 1)), []⟩, ⟨13, oqg 70 64 false (.bin .gtr .num 66 69), []⟩, ⟨14, oq 71 (.pick 64 oT 70), []⟩]) (.cond 71 (so [oq 4 (.mov oF)] .ret) .skip)) (.draw 16 [⟨0, om 72 0, []⟩, ⟨1, ox 73 2 3, []⟩, ⟨2, ol 74 73, []⟩, ⟨3, om 75 0, []⟩, ⟨4, on 76 75, []⟩, ⟨5, ox 77 4 76, []⟩, ⟨6, ol 78 77, []⟩, ⟨7, ox 79 2 3, []⟩, ⟨8, ol 80 79, []⟩, ⟨9, om 81 0, []⟩, ⟨10, on 82 81, []⟩, ⟨11, ox 83 3 82, []⟩, ⟨12, ol 84 83, []⟩, ⟨13, ob 85 .sub 80 84, []⟩, ⟨14, oq 86 (.slSl 1 78 (some 85) none none), []⟩, ⟨15, oe 87 (.call 75 [72, 74, 86]), []⟩])) (so [ob 89 .eql 6 (oi 4), om 88 89] (.cond 88 (.seq (so [om 90 0, ox 91 2 3, ol 92 91, oe 93 (.call 48 [90, 92, (oi 0)]), oq 94 (.un .not 93)] (.cond 94 (so [oq 4 (.mov oF)] .ret) .skip)) (.ops [om 95 0, ox 96 2 3, ol 97 96, oe 98 (.call 79 [95, 97])])) (so [oq 4 (.mov oF)] .ret))))))))))) (so [oq 4 (.mov oT)] .ret)))
noncomputable def f74.fn : PFn := .code (slotsN 99) f74.body f74.res
noncomputable def f74 (C : CW) (a0 a1 : AVal) (σ : S) (Q : AVal → S → Prop) : Prop :=
Ala (aBoxV a1) σ fun t3 σ1 =>
sF 0 t3 fun t5 =>
sL t5 σ1 fun t6 =>
sB .eql t6 (i6 1) fun t8 =>
WIf t8 (
sF 2 t3 fun t10 =>
sL t10 σ1 fun t11 =>
C 48 [a0, t11, (i6 1)] σ1 fun t12 σ2 =>
Som (unA .not t12) fun t13 =>
WIf t13 (
Ret [some (.bool false)] σ2 Q) (
sF 2 t3 fun t15 =>
sL t15 σ2 fun t16 =>
sF 4 t3 fun t17 =>
sL t17 σ2 fun t18 =>
C 52 [a0, t16, t18] σ2 fun t19 σ3 =>
Ret [some (.bool true)] σ3 Q)) (
sB .eql t6 (i6 2) fun t21 =>
WIf t21 (
sF 2 t3 fun t22 =>
sL t22 (σ1.bumpT 15) fun t23 =>
sN a0 fun t25 =>
sF 3 t25 fun t26 =>
sL t26 (σ1.bumpT 15) fun t27 =>
sB .lss t23 t27 fun t28 =>
sU t28 (vFieldAddr 2 t3) fun t30 =>
sU t28 (vLoad1 t30 (σ1.bumpT 15)) fun t31 =>
sU t28 (some a0) fun t32 =>
gE1 (isB t28 false) (fun K => C 15 [t32] (σ1.bumpT 15) fun t33 σ2 => Sure ((notB (isB t28 false) || SameO (vLoad1 t30 σ2) t31)) (K t33 σ2)) (σ1.bumpT 15) fun t33 σ2 =>
sU t28 (binA .add .num t33 (i6 1)) fun t34 =>
sU t28 (binA .gtr .num t31 t34) fun t35 =>
sP t28 (.bool true) t35 fun t36 =>
WIf t36 (
Ret [some (.bool false)] σ2 Q) (
sN a0 fun t39 =>
sF 3 t39 fun t40 =>
sL t40 (σ2.bumpT 18) fun t41 =>
sN a0 fun t43 =>
sF 4 t43 fun t44 =>
sL t44 (σ2.bumpT 18) fun t45 =>
sF 2 t3 fun t46 =>
sL t46 (σ2.bumpT 18) fun t47 =>
sN a0 fun t49 =>
sF 3 t49 fun t50 =>
sL t50 (σ2.bumpT 18) fun t51 =>
sB .sub t47 t51 fun t52 =>
Som (vSlSl 1 t45 none (some t52) none) fun t53 =>
C 75 [a0, t41, t53] (σ2.bumpT 18) fun t54 σ3 =>
Ret [some (.bool true)] σ3 Q)) (
sB .eql t6 (i6 3) fun t56 =>
WIf t56 (
sF 2 t3 fun t57 =>
sL t57 (σ1.bumpT 15) fun t58 =>
sN a0 fun t60 =>
sF 3 t60 fun t61 =>
sL t61 (σ1.bumpT 15) fun t62 =>
sB .lss t58 t62 fun t63 =>
sU t63 (vFieldAddr 2 t3) fun t65 =>
sU t63 (vLoad1 t65 (σ1.bumpT 15)) fun t66 =>
sU t63 (some a0) fun t67 =>
gE1 (isB t63 false) (fun K => C 15 [t67] (σ1.bumpT 15) fun t68 σ2 => Sure ((notB (isB t63 false) || SameO (vLoad1 t65 σ2) t66)) (K t68 σ2)) (σ1.bumpT 15) fun t68 σ2 =>
sU t63 (binA .add .num t68 (i6 1)) fun t69 =>
sU t63 (binA .gtr .num t66 t69) fun t70 =>
sP t63 (.bool true) t70 fun t71 =>
WIf t71 (
Ret [some (.bool false)] σ2 Q) (
sF 2 t3 fun t73 =>
sL t73 (σ2.bumpT 16) fun t74 =>
sN a0 fun t76 =>
sF 4 t76 fun t77 =>
sL t77 (σ2.bumpT 16) fun t78 =>
sF 2 t3 fun t79 =>
sL t79 (σ2.bumpT 16) fun t80 =>
sN a0 fun t82 =>
sF 3 t82 fun t83 =>
sL t83 (σ2.bumpT 16) fun t84 =>
sB .sub t80 t84 fun t85 =>
Som (vSlSl 1 t78 (some t85) none none) fun t86 =>
C 75 [a0, t74, t86] (σ2.bumpT 16) fun t87 σ3 =>
Ret [some (.bool true)] σ3 Q)) (
sB .eql t6 (i6 4) fun t89 =>
WIf t89 (
sF 2 t3 fun t91 =>
sL t91 σ1 fun t92 =>
C 48 [a0, t92, (i6 0)] σ1 fun t93 σ2 =>
Som (unA .not t93) fun t94 =>
WIf t94 (
Ret [some (.bool false)] σ2 Q) (
sF 2 t3 fun t96 =>
sL t96 σ2 fun t97 =>
C 79 [a0, t97] σ2 fun t98 σ3 =>
Ret [some (.bool true)] σ3 Q)) (
Ret [some (.bool false)] σ1 Q))))
theorem f74_eq {a0 a1 : AVal} : f74 C a0 a1 σ Q = wC C f74.body ((E0.set 0 a0).set 1 a1) σ (retK f74.res Q) := by kernel_rfl
theorem f74_wf (ht : tab 74 = some f74.fn) {a0 a1 : AVal} (h : f74 (WF tab) a0 a1 σ Q) : WF tab 74 [a0, a1] σ Q := wf_of ht (by kernel_rfl) f74_eq h
noncomputable def f75.res : List PRes := []
noncomputable def f75.body : PC := (so [om 6 0, om 7 1, on 8 6, ox 9 3 8, os (.store 1 9 7)] (so [om 10 0, om 11 2, oe 12 (.append 1 16 (.val .nsl) 11), on 13 10, ox 14 4 13, os (.store 1 14 12)] (.ops [om 15 0, om 16 0, om 17 1, om 18 2, oe 19 (.call 76 [16, 17, 18]), on 20 15, ox 21 6 20, os (.store 1 21 19)])))
noncomputable def f75.fn : PFn := .code (slotsN 22) f75.body f75.res
noncomputable def f75 (C : CW) (a0 a1 a2 : AVal) (σ : S) (Q : AVal → S → Prop) : Prop :=
sN a0 fun t8 =>
sF 3 t8 fun t9 =>
sS 1 t9 a1 σ fun _ σ1 =>
Eff (appendA 1 16 .nsl a2 σ1) fun t12 σ2 =>
sN a0 fun t13 =>
sF 4 t13 fun t14 =>
sS 1 t14 t12 σ2 fun _ σ3 =>
C 76 [a0, a1, a2] σ3 fun t19 σ4 =>
sN a0 fun t20 =>
sF 6 t20 fun t21 =>
sS 1 t21 t19 σ4 fun _ σ5 =>
Ret [] σ5 Q
theorem f75_eq {a0 a1 a2 : AVal} : f75 C a0 a1 a2 σ Q = wC C f75.body (((E0.set 0 a0).set 1 a1).set 2 a2) σ (retK f75.res Q) := by kernel_rfl
theorem f75_wf (ht : tab 75 = some f75.fn) {a0 a1 a2 : AVal} (h : f75 (WF tab) a0 a1 a2 σ Q) : WF tab 75 [a0, a1, a2] σ Q := wf_of ht (by kernel_rfl) f75_eq h
noncomputable def f76.c0 : PC := (so [ob 13 .lss 12 11] (.seq (.cond 13 .skip (.exit 0)) (.seq (.block 1 (so [om 14 12, oq 15 (.ixSl 1 10 12), ol 16 15, om 8 14, om 9 16] (.ops [om 17 7, om 18 0, on 19 18, ox 20 2 19, ol 21 20, om 22 1, om 23 8, ob 24 .add 22 23, om 25 9, oe 26 (.call 80 [21, 24, 25]), ob 27 .add 17 26, om 7 27]))) (.ops [ob 28 .add 12 (oi 1), om 12 28]))))
noncomputable def f76.res : List PRes := [.tmp (sn 6)]
noncomputable def f76.p0 (C : CW) (Q : AVal → S → Prop) (R0 : PC) (E : En) (σ : S) : Prop :=
sB .lss (E 12) (E 11) fun t13 =>
WIf t13 (
Som (vIxSl 1 (E 10) (E 12)) fun t15 =>
sL t15 σ fun t16 =>
sN (E 0) fun t19 =>
sF 2 t19 fun t20 =>
sL t20 σ fun t21 =>
sB .add (E 1) (E 12) fun t24 =>
C 80 [t21, t24, t16] σ fun t26 σ1 =>
sB .add (E 7) t26 fun t27 =>
sB .add (E 12) (i6 1) fun t28 =>
wC C (.loop R0) (((((E.q 13 t13 14 (E 12) 15 t15 16 t16).q 8 (E 12) 9 t16 17 (E 7) 18 (E 0)).q 19 t19 20 t20 21 t21 22 (E 1)).q 23 (E 12) 24 t24 25 t16 26 t26).q 27 t27 7 t27 28 t28 12 t28) σ1 (blockK 0 (seqK (wC C (so [om 29 7, om 6 29] .ret)) (retK f76.res Q)))) (
Ret [some (E 7)] σ Q)
theorem f76.p0_eq {R0 : PC} : f76.p0 C Q R0 E σ = wC C f76.c0 E σ (loopK C R0 (blockK 0 (seqK (wC C (so [om 29 7, om 6 29] .ret)) (retK f76.res Q)))) := by kernel_rfl
abbrev f76.L0 (C : CW) (Q : AVal → S → Prop) (E : En) (σ : S) : Prop := wC C (.loop f76.c0) E σ (blockK 0 (seqK (wC C (so [om 29 7, om 6 29] .ret)) (retK f76.res Q)))
theorem f76.p0_of (h : f76.p0 (WF tab) Q f76.c0 E σ) : f76.L0 (WF tab) Q E σ := wLoop_step (Eq.mp f76.p0_eq h)
noncomputable def f76.body (R0 : PC) : PC := (so [oq 6 (.mov (oi 0))] (so [oq 7 (.mov (oi 0))] (.seq (so [om 10 2, oq 11 (.lenSl 10), oq 12 (.mov (oi 0))] (.block 0 (.loop R0))) (so [om 29 7, om 6 29] .ret))))
noncomputable def f76.fn : PFn := .code (slotsN 30) (f76.body f76.c0) f76.res
noncomputable def f76 (C : CW) (R0 : PC) (a0 a1 a2 : AVal) (σ : S) (Q : AVal → S → Prop) : Prop :=
Som (vLenSl a2) fun t11 =>
wC C (.loop R0) ((E0.q 0 a0 1 a1 2 a2 6 (i6 0)).q 7 (i6 0) 10 a2 11 t11 12 (i6 0)) σ (blockK 0 (seqK (wC C (so [om 29 7, om 6 29] .ret)) (retK f76.res Q)))
theorem f76_eq {R0 : PC} {a0 a1 a2 : AVal} : f76 C R0 a0 a1 a2 σ Q = wC C (f76.body R0) (((E0.set 0 a0).set 1 a1).set 2 a2) σ (retK f76.res Q) := by kernel_rfl
theorem f76_wf (ht : tab 76 = some f76.fn) {a0 a1 a2 : AVal} (h : f76 (WF tab) f76.c0 a0 a1 a2 σ Q) : WF tab 76 [a0, a1, a2] σ Q := wf_of ht (by kernel_rfl) f76_eq h
noncomputable def f77.res : List PRes := [.tmp (sn 4)]
noncomputable def f77.body : PC := (so [oq 4 (.mov (.val .nsl))] (so [om 5 0, oe 6 (.call 100 [5, (oi 10)]), om 7 1, oe 8 (.call 99 [6, 7]), om 4 8] .ret))
noncomputable def f77.fn : PFn := .code (slotsN 9) f77.body f77.res
noncomputable def f77 (C : CW) (a0 a1 : AVal) (σ : S) (Q : AVal → S → Prop) : Prop :=
C 100 [a0, (.int .i64 10)] σ fun t6 σ1 =>
C 99 [t6, a1] σ1 fun t8 σ2 =>
Ret [some t8] σ2 Q
theorem f77_eq {a0 a1 : AVal} : f77 C a0 a1 σ Q = wC C f77.body ((E0.set 0 a0).set 1 a1) σ (retK f77.res Q) := by kernel_rfl
theorem f77_wf (ht : tab 77 = some f77.fn) {a0 a1 : AVal} (h : f77 (WF tab) a0 a1 σ Q) : WF tab 77 [a0, a1] σ Q := wf_of ht (by kernel_rfl) f77_eq h
noncomputable def f78.res : List PRes := [.tmp (sn 4)]
noncomputable def f78.body : PC := (so [oq 4 (.mov (.val .nsl))] (so [om 7 0, oq 8 (.lenSl 7), ob 9 .add 8 (oi 8), om 10 1, oq 11 (.lenSl 10), ob 12 .add 9 11, oa 13 (.mkslice 1 1 [(.int .u8 0)] (oi 0) 12), om 5 13] (so [om 14 5, om 15 0, oe 16 (.append 1 1 14 15), om 5 16] (.seq (so [om 17 1, oq 18 (.lenSl 17), ob 19 .gtr 18 (oi 16384)] (.cond 19 (so [om 20 5, om 4 20] .ret) .skip)) (so [om 21 1, oq 22 (.lenSl 21), oq 23 (.toInt .u32 22), oe 24 (.call 101 [23]), om 6 24] (so [om 25 5, om 26 6, oe 27 (.append 1 1 25 26), om 5 27] (so [om 28 5, om 29 6, om 30 1, oa 31 (.bslice 1 [.nsl] 2 [(0, 1, 29), (1, 1, 30)]), oe 32 (.call 102 [31]), oe 33 (.call 101 [32]), oe 34 (.append 1 1 28 33), om 5 34] (so [om 35 5, om 36 1, oe 37 (.append 1 1 35 36), om 4 37] .ret))))))))
noncomputable def f78.fn : PFn := .code (slotsN 38) f78.body f78.res
noncomputable def f78 (C : CW) (a0 a1 : AVal) (σ : S) (Q : AVal → S → Prop) : Prop :=
Som (vLenSl a0) fun t8 =>
Som (binA .add .num t8 (.int .i64 8)) fun t9 =>
Som (vLenSl a1) fun t11 =>
Som (binA .add .num t9 t11) fun t12 =>
Ala (aMakeV 1 1 [(.int .u8 0)] (.int .i64 0) t12) σ fun t13 σ1 =>
Eff (appendA 1 1 t13 a0 σ1) fun t16 σ2 =>
Som (vLenSl a1) fun t18 =>
Som (binA .gtr .num t18 (.int .i64 16384)) fun t19 =>
WIf t19 (
Ret [some t16] σ2 Q) (
Som (vLenSl a1) fun t22 =>
Som (vToInt .u32 t22) fun t23 =>
C 101 [t23] σ2 fun t24 σ3 =>
Eff (appendA 1 1 t16 t24 σ3) fun t27 σ4 =>
Ala (aSliceV 1 [.nsl] 2 [(0, 1, t24), (1, 1, a1)]) σ4 fun t31 σ5 =>
C 102 [t31] σ5 fun t32 σ6 =>
C 101 [t32] σ6 fun t33 σ7 =>
Eff (appendA 1 1 t27 t33 σ7) fun t34 σ8 =>
Eff (appendA 1 1 t34 a1 σ8) fun t37 σ9 =>
Ret [some t37] σ9 Q)
theorem f78_eq {a0 a1 : AVal} : f78 C a0 a1 σ Q = wC C f78.body ((E0.set 0 a0).set 1 a1) σ (retK f78.res Q) := by kernel_rfl
theorem f78_wf (ht : tab 78 = some f78.fn) {a0 a1 : AVal} (h : f78 (WF tab) a0 a1 σ Q) : WF tab 78 [a0, a1] σ Q := wf_of ht (by kernel_rfl) f78_eq h
noncomputable def f79.res : List PRes := []
noncomputable def f79.body : PC := (so [om 4 0, on 5 4, ox 6 4 5, ol 7 6, oq 8 (.lenSl 7), ob 9 .eql 8 (oi 0)] (.cond 9 (.ops [om 10 0, om 11 1, on 12 10, ox 13 3 12, os (.store 1 13 11)]) .skip))
noncomputable def f79.fn : PFn := .code (slotsN 14) f79.body f79.res
noncomputable def f79 (C : CW) (a0 a1 : AVal) (σ : S) (Q : AVal → S → Prop) : Prop :=
sN a0 fun t5 =>
sF 4 t5 fun t6 =>
sL t6 σ fun t7 =>
Som (vLenSl t7) fun t8 =>
sB .eql t8 (i6 0) fun t9 =>
WIf t9 (
sN a0 fun t12 =>
sF 3 t12 fun t13 =>
sS 1 t13 a1 σ fun _ σ1 =>
Ret [] σ1 Q) (
Ret [] σ Q)
theorem f79_eq {a0 a1 : AVal} : f79 C a0 a1 σ Q = wC C f79.body ((E0.set 0 a0).set 1 a1) σ (retK f79.res Q) := by kernel_rfl
theorem f79_wf (ht : tab 79 = some f79.fn) {a0 a1 : AVal} (h : f79 (WF tab) a0 a1 σ Q) : WF tab 79 [a0, a1] σ Q := wf_of ht (by kernel_rfl) f79_eq h
noncomputable def f80.res : List PRes := [.tmp (sn 6)]
noncomputable def f80.body : PC := (so [oq 6 (.mov (oi 0))] (so [om 7 0, om 8 1, oe 9 (.call 50 [(.val .nsl), (oi 1), 7, 8, (oi 0), (.val (.str []))]), oq 10 (.lenSl 9), om 11 2, oq 12 (.lenStr 11), ob 13 .add 10 12, om 6 13] .ret))
noncomputable def f80.fn : PFn := .code (slotsN 14) f80.body f80.res
noncomputable def f80 (C : CW) (a0 a1 a2 : AVal) (σ : S) (Q : AVal → S → Prop) : Prop :=
C 50 [.nsl, (i6 1), a0, a1, (i6 0), (.str [])] σ fun t9 σ1 =>
Som (vLenSl t9) fun t10 =>
Som (vLenStr a2) fun t12 =>
sB .add t10 t12 fun t13 =>
Ret [some t13] σ1 Q
theorem f80_eq {a0 a1 a2 : AVal} : f80 C a0 a1 a2 σ Q = wC C f80.body (((E0.set 0 a0).set 1 a1).set 2 a2) σ (retK f80.res Q) := by kernel_rfl
theorem f80_wf (ht : tab 80 = some f80.fn) {a0 a1 a2 : AVal} (h : f80 (WF tab) a0 a1 a2 σ Q) : WF tab 80 [a0, a1, a2] σ Q := wf_of ht (by kernel_rfl) f80_eq h
noncomputable def f82.res : List PRes := [.tmp (sn 4)]
noncomputable def f82.body : PC := (so [oq 4 (.mov (.val .nptr))] (so [om 11 0, om 12 1, oe 13 (.call 72 [11, 12]), oe 14 (.call 83 [13, (oi 0)]), om 10 14, oq 15 (.extract 0 10), oq 16 (.extract 1 10), oq 17 (.extract 2 10), om 5 15, om 6 16, om 7 17] (.seq (so [om 18 7, ob 19 .neq 18 (oi 0)] (.cond 19 (so [oq 4 (.mov (.val .nptr))] .ret) .skip)) (so [om 20 5, oe 21 (.call 84 [20]), om 8 21] (so [om 22 0, om 23 1, oq 24 (.build [.nptr, (i6 0), (i6 0), (i6 0), (i6 0)] [(0, 1, 22), (1, 1, 23)]), oa 25 (.box 24), om 9 25] (so [om 26 9, om 27 8, oe 28 (.call 85 [27]), on 29 26, ox 30 2 29, os (.store 1 30 28)] (so [om 31 9, om 32 8, oe 33 (.call 85 [32]), on 34 31, ox 35 3 34, os (.store 1 35 33)] (so [om 36 9, om 37 8, oe 38 (.call 85 [37]), on 39 36, ox 40 4 39, os (.store 1 40 38)] (.seq (so [om 41 8, oe 42 (.call 87 [41]), ob 43 .neq 42 (oi 0), om 44 43, oqg 45 44 false (.mov 9), oqg 46 44 false (.nilck 45), oqg 47 44 false (.fieldAddr 2 46), oqg 48 44 false (.load1 47), oqg 49 44 false (.bin .lss .num 48 (oi 1)), oq 50 (.pick 44 oT 49), om 51 50, oqg 52 51 false (.mov 9), oqg 53 51 false (.nilck 52), oqg 54 51 false (.fieldAddr 2 53), oqg 55 51 false (.load1 54), oqg 56 51 false (.bin .geq .num 55 (oi 1125899906842624)), oq 57 (.pick 51 oT 56), om 58 57, oqg 59 58 false (.mov 9), oqg 60 58 false (.nilck 59), oqg 61 58 false (.fieldAddr 3 60), oqg 62 58 false (.load1 61), oqg 63 58 false (.bin .lss .num 62 (oi 0)), oq 64 (.pick 58 oT 63), om 65 64, oqg 66 65 false (.mov 9), oqg 67 65 false (.nilck 66), oqg 68 65 false (.fieldAddr 3 67), oqg 69 65 false (.load1 68), oqg 70 65 false (.bin .gtr .num 69 (oi 1099511627776)), oq 71 (.pick 65 oT 70), om 72 71, oqg 73 72 false (.mov 9), oqg 74 72 false (.nilck 73), oqg 75 72 false (.fieldAddr 4 74), oqg 76 72 false (.load1 75), oqg 77 72 false (.bin .lss .num 76 (.val (.int .i64 (-1)))), oq 78 (.pick 72 oT 77), om 79 78, oqg 80 79 false (.mov 9), oqg 81 79 false (.nilck 80), oqg 82 79 false (.fieldAddr 4 81), oqg 83 79 false (.load1 82), oqg 84 79 false (.bin .geq .num 83 (oi 7)), oq 85 (.pick 79 oT 84)] (.cond 85 (so [oq 4 (.mov (.val .nptr))] .ret) .skip)) (so [om 86 9, om 4 86] .ret))))))))))
noncomputable def f82.fn : PFn := .code (slotsN 87) f82.body f82.res
noncomputable def f82 (C : CW) (a0 a1 : AVal) (σ : S) (Q : AVal → S → Prop) : Prop :=
C 72 [a0, a1] σ fun t13 σ1 =>
C 83 [t13, (i6 0)] σ1 fun t14 σ2 =>
Som (vExtract 0 t14) fun t15 =>
Som (vExtract 1 t14) fun t16 =>
Som (vExtract 2 t14) fun t17 =>
sB .neq t17 (i6 0) fun t19 =>
WIf t19 (
Ret [some .nptr] σ2 Q) (
C 84 [t15] σ2 fun t21 σ3 =>
Som (vBuild [.nptr, (i6 0), (i6 0), (i6 0), (i6 0)] [(0, 1, a0), (1, 1, a1)]) fun t24 =>
Ala (aBoxV t24) σ3 fun t25 σ4 =>
C 85 [t21] σ4 fun t28 σ5 =>
sN t25 fun t29 =>
sF 2 t29 fun t30 =>
sS 1 t30 t28 σ5 fun _ σ6 =>
C 85 [t21] σ6 fun t33 σ7 =>
sN t25 fun t34 =>
sF 3 t34 fun t35 =>
sS 1 t35 t33 σ7 fun _ σ8 =>
C 85 [t21] σ8 fun t38 σ9 =>
sN t25 fun t39 =>
sF 4 t39 fun t40 =>
sS 1 t40 t38 σ9 fun _ σ10 =>
C 87 [t21] σ10 fun t42 σ11 =>
sB .neq t42 (i6 0) fun t43 =>
sU t43 (some t25) fun t45 =>
sU t43 (vNilck t45) fun t46 =>
sU t43 (vFieldAddr 2 t46) fun t47 =>
sU t43 (vLoad1 t47 σ11) fun t48 =>
sU t43 (binA .lss .num t48 (i6 1)) fun t49 =>
sP t43 (.bool true) t49 fun t50 =>
sU t50 (some t25) fun t52 =>
sU t50 (vNilck t52) fun t53 =>
sU t50 (vFieldAddr 2 t53) fun t54 =>
sU t50 (vLoad1 t54 σ11) fun t55 =>
sU t50 (binA .geq .num t55 (i6 1125899906842624)) fun t56 =>
sP t50 (.bool true) t56 fun t57 =>
sU t57 (some t25) fun t59 =>
sU t57 (vNilck t59) fun t60 =>
sU t57 (vFieldAddr 3 t60) fun t61 =>
sU t57 (vLoad1 t61 σ11) fun t62 =>
sU t57 (binA .lss .num t62 (i6 0)) fun t63 =>
sP t57 (.bool true) t63 fun t64 =>
sU t64 (some t25) fun t66 =>
sU t64 (vNilck t66) fun t67 =>
sU t64 (vFieldAddr 3 t67) fun t68 =>
sU t64 (vLoad1 t68 σ11) fun t69 =>
sU t64 (binA .gtr .num t69 (i6 1099511627776)) fun t70 =>
sP t64 (.bool true) t70 fun t71 =>
sU t71 (some t25) fun t73 =>
sU t71 (vNilck t73) fun t74 =>
sU t71 (vFieldAddr 4 t74) fun t75 =>
sU t71 (vLoad1 t75 σ11) fun t76 =>
sU t71 (binA .lss .num t76 (.int .i64 (-1))) fun t77 =>
sP t71 (.bool true) t77 fun t78 =>
sU t78 (some t25) fun t80 =>
sU t78 (vNilck t80) fun t81 =>
sU t78 (vFieldAddr 4 t81) fun t82 =>
sU t78 (vLoad1 t82 σ11) fun t83 =>
sU t78 (binA .geq .num t83 (i6 7)) fun t84 =>
sP t78 (.bool true) t84 fun t85 =>
WIf t85 (
Ret [some .nptr] σ11 Q) (
Ret [some t25] σ11 Q))
theorem f82_eq {a0 a1 : AVal} : f82 C a0 a1 σ Q = wC C f82.body ((E0.set 0 a0).set 1 a1) σ (retK f82.res Q) := by kernel_rfl
theorem f82_wf (ht : tab 82 = some f82.fn) {a0 a1 : AVal} (h : f82 (WF tab) a0 a1 σ Q) : WF tab 82 [a0, a1] σ Q := wf_of ht (by kernel_rfl) f82_eq h
noncomputable def f83.res : List PRes := [.tmp (sn 4), .tmp (sn 5), .tmp (sn 6)]
noncomputable def f83.body : PC := (so [oq 4 (.mov (.val .nsl)), oq 5 (.mov (oi 0)), oq 6 (.mov (oi 0))] (.seq (so [om 10 1, ob 11 .lss 10 (oi 0), om 12 11, oqg 13 12 false (.mov 1), oqg 14 12 false (.mov 0), oqg 15 12 false (.lenSl 14), oqg 16 12 false (.bin .gtr .num 13 15), oq 17 (.pick 12 oT 16)] (.cond 17 (so [oq 4 (.mov (.val .nsl)), oq 5 (.mov (oi 0)), oq 6 (.mov (oi 1))] .ret) .skip)) (.seq (so [om 18 1, om 19 0, oq 20 (.lenSl 19), ob 21 .eql 18 20] (.cond 21 (so [oq 4 (.mov (.val .nsl)), oq 5 (.mov (oi 0)), oq 6 (.mov (oi 8))] .ret) .skip)) (so [om 22 0, om 23 1, oq 24 (.slSl 1 22 (some 23) none none), om 7 24] (.seq (so [om 25 7, oq 26 (.lenSl 25), ob 27 .lss 26 (oi 8)] (.cond 27 (so [oq 4 (.mov (.val .nsl)), oq 5 (.mov (oi 0)), oq 6 (.mov (oi 3))] .ret) .skip)) (so [om 28 7, oe 29 (.call 103 [28]), om 8 29] (.seq (so [om 30 8, ob 31 .gtr 30 (.val (.int .u32 16384))] (.cond 31 (so [oq 4 (.mov (.val .nsl)), oq 5 (.mov (oi 0)), oq 6 (.mov (oi 2))] .ret) .skip)) (.seq (so [om 32 7, oq 33 (.lenSl 32), ob 34 .sub 33 (oi 8), om 35 8, oq 36 (.toInt .i64 35), ob 37 .lss 34 36] (.cond 37 (so [oq 4 (.mov (.val .nsl)), oq 5 (.mov (oi 0)), oq 6 (.mov (oi 3))] .ret) .skip)) (so [om 38 7, om 39 8, oq 40 (.toInt .i64 39), ob 41 .add (oi 8) 40, oq 42 (.slSl 1 38 (some (oi 8)) (some 41) none), om 9 42] (.seq (.seq (.draw 9 [⟨0, om 43 7, []⟩, ⟨1, oq 44 (.slSl 1 43 none (some (oi 4)) none), []⟩, ⟨2, om 45 9, []⟩, ⟨5, om 48 7, []⟩, ⟨6, oq 49 (.slSl 1 48 (some (oi 4)) none none), []⟩, ⟨3, oa 46 (.bslice 1 [.nsl] 2 [(0, 1, 44), (1, 1, 45)]), []⟩, ⟨4, oe 47 (.call 102 [46]), []⟩, ⟨7, oe 50 (.call 103 [49]), []⟩, ⟨8, ob 51 .neq 47 50, []⟩]) (.cond 51 (so [oq 4 (.mov (.val .nsl)), oq 5 (.mov (oi 0)), oq 6 (.mov (oi 6))] .ret) .skip)) (so [om 52 9, oe 53 (.append 1 1 (.val .nsl) 52), om 54 1, ob 55 .add 54 (oi 8), om 56 8, oq 57 (.toInt .i64 56), ob 58 .add 55 57, om 4 53, om 5 58, oq 6 (.mov (oi 0))] .ret)))))))))))
noncomputable def f83.fn : PFn := .code (slotsN 59) f83.body f83.res
noncomputable def f83 (C : CW) (a0 a1 : AVal) (σ : S) (Q : AVal → S → Prop) : Prop :=
Som (binA .lss .num a1 (.int .i64 0)) fun t11 =>
Som (gq1 (isB t11 false) (some a1)) fun t13 =>
Som (gq1 (isB t11 false) (some a0)) fun t14 =>
Som (gq1 (isB t11 false) (vLenSl t14)) fun t15 =>
Som (gq1 (isB t11 false) (binA .gtr .num t13 t15)) fun t16 =>
Som (vPick t11 (.bool true) t16) fun t17 =>
WIf t17 (
Ret [some .nsl, some (.int .i64 0), some (.int .i64 1)] σ Q) (
Som (vLenSl a0) fun t20 =>
Som (binA .eql .num a1 t20) fun t21 =>
WIf t21 (
Ret [some .nsl, some (.int .i64 0), some (.int .i64 8)] σ Q) (
Som (vSlSl 1 a0 (some a1) none none) fun t24 =>
Som (vLenSl t24) fun t26 =>
Som (binA .lss .num t26 (.int .i64 8)) fun t27 =>
WIf t27 (
Ret [some .nsl, some (.int .i64 0), some (.int .i64 3)] σ Q) (
C 103 [t24] σ fun t29 σ1 =>
Som (binA .gtr .num t29 (.int .u32 16384)) fun t31 =>
WIf t31 (
Ret [some .nsl, some (.int .i64 0), some (.int .i64 2)] σ1 Q) (
Som (vLenSl t24) fun t33 =>
Som (binA .sub .num t33 (.int .i64 8)) fun t34 =>
Som (vToInt .i64 t29) fun t36 =>
Som (binA .lss .num t34 t36) fun t37 =>
WIf t37 (
Ret [some .nsl, some (.int .i64 0), some (.int .i64 3)] σ1 Q) (
Som (vToInt .i64 t29) fun t40 =>
Som (binA .add .num (.int .i64 8) t40) fun t41 =>
Som (vSlSl 1 t24 (some (.int .i64 8)) (some t41) none) fun t42 =>
Som (vSlSl 1 t24 none (some (.int .i64 4)) none) fun t44 =>
Som (vSlSl 1 t24 (some (.int .i64 4)) none none) fun t49 =>
Alb (aSliceV 1 [.nsl] 2 [(0, 1, t44), (1, 1, t42)]) (Pos.plusT 3 σ1.next) (σ1.bumpT 9) fun t46 σ2 =>
C 102 [t46] σ2 fun t47 σ3 =>
C 103 [t49] σ3 fun t50 σ4 =>
Som (binA .neq .num t47 t50) fun t51 =>
WIf t51 (
Ret [some .nsl, some (.int .i64 0), some (.int .i64 6)] σ4 Q) (
Eff (appendA 1 1 .nsl t42 σ4) fun t53 σ5 =>
Som (binA .add .num a1 (.int .i64 8)) fun t55 =>
Som (vToInt .i64 t29) fun t57 =>
Som (binA .add .num t55 t57) fun t58 =>
Ret [some t53, some t58, some (.int .i64 0)] σ5 Q))))))
theorem f83_eq {a0 a1 : AVal} : f83 C a0 a1 σ Q = wC C f83.body ((E0.set 0 a0).set 1 a1) σ (retK f83.res Q) := by kernel_rfl
theorem f83_wf (ht : tab 83 = some f83.fn) {a0 a1 : AVal} (h : f83 (WF tab) a0 a1 σ Q) : WF tab 83 [a0, a1] σ Q := wf_of ht (by kernel_rfl) f83_eq h
noncomputable def f84.res : List PRes := [.tmp (sn 2)]
noncomputable def f84.body : PC := (so [oq 2 (.mov (.val .nptr))] (so [om 3 0, oe 4 (.call 100 [3, (oi 0)]), oq 5 (.build [(i6 0), (i6 0), .nsl, (i6 0)] [(2, 1, 4)]), oa 6 (.box 5), om 2 6] .ret))
noncomputable def f84.fn : PFn := .code (slotsN 7) f84.body f84.res
noncomputable def f84 (C : CW) (a0 : AVal) (σ : S) (Q : AVal → S → Prop) : Prop :=
C 100 [a0, (i6 0)] σ fun t4 σ1 =>
Som (vBuild [(i6 0), (i6 0), .nsl, (i6 0)] [(2, 1, t4)]) fun t5 =>
Ala (aBoxV t5) σ1 fun t6 σ2 =>
Ret [some t6] σ2 Q
theorem f84_eq {a0 : AVal} : f84 C a0 σ Q = wC C f84.body (E0.set 0 a0) σ (retK f84.res Q) := by kernel_rfl
theorem f84_wf (ht : tab 84 = some f84.fn) {a0 : AVal} (h : f84 (WF tab) a0 σ Q) : WF tab 84 [a0] σ Q := wf_of ht (by kernel_rfl) f84_eq h
noncomputable def f85.res : List PRes := [.tmp (sn 2)]
noncomputable def f85.body : PC := (so [oq 2 (.mov (oi 0))] (.seq (so [om 3 0, oq 4 (.bin .eql .ptr 3 (.val .nptr)), om 5 4, oqg 6 5 false (.mov 0), oqg 7 5 false (.nilck 6), oqg 8 5 false (.fieldAddr 0 7), oqg 9 5 false (.loadN 2 8), oeg 10 5 false (.call 97 [9]), oqg 11 5 false (.un .not 10), oq 12 (.pick 5 oT 11)] (.cond 12 (so [oq 2 (.mov (oi 0))] .ret) .skip)) (so [om 13 0, om 14 0, on 15 14, ox 16 3 15, ol 17 16, oe 18 (.call 104 [13, 17]), om 2 18] .ret)))
noncomputable def f85.fn : PFn := .code (slotsN 19) f85.body f85.res
noncomputable def f85 (C : CW) (a0 : AVal) (σ : S) (Q : AVal → S → Prop) : Prop :=
Som (binA .eql .ptr a0 .nptr) fun t4 =>
sU t4 (some a0) fun t6 =>
sU t4 (vNilck t6) fun t7 =>
sU t4 (vFieldAddr 0 t7) fun t8 =>
sU t4 (vLoadN 2 t8 σ) fun t9 =>
gE1 (isB t4 false) (fun K => C 97 [t9] σ K) σ fun t10 σ1 =>
sU t4 (unA .not t10) fun t11 =>
sP t4 (.bool true) t11 fun t12 =>
WIf t12 (
Ret [some (i6 0)] σ1 Q) (
sN a0 fun t15 =>
sF 3 t15 fun t16 =>
sL t16 σ1 fun t17 =>
C 104 [a0, t17] σ1 fun t18 σ2 =>
Ret [some t18] σ2 Q)
theorem f85_eq {a0 : AVal} : f85 C a0 σ Q = wC C f85.body (E0.set 0 a0) σ (retK f85.res Q) := by kernel_rfl
theorem f85_wf (ht : tab 85 = some f85.fn) {a0 : AVal} (h : f85 (WF tab) a0 σ Q) : WF tab 85 [a0] σ Q := wf_of ht (by kernel_rfl) f85_eq h
noncomputable def f86.res : List PRes := [.tmp (sn 4)]
noncomputable def f86.body : PC := (so [oq 4 (.mov (.val (.str [])))] (.seq (so [om 8 0, oq 9 (.bin .eql .ptr 8 (.val .nptr)), om 10 9, oqg 11 10 false (.mov 0), oqg 12 10 false (.nilck 11), oqg 13 10 false (.fieldAddr 0 12), oqg 14 10 false (.loadN 2 13), oeg 15 10 false (.call 97 [14]), oqg 16 10 false (.un .not 15), oq 17 (.pick 10 oT 16)] (.cond 17 (so [oq 4 (.mov (.val (.str [])))] .ret) .skip)) (so [om 18 0, on 19 18, ox 20 3 19, ol 21 20, om 5 21] (so [om 22 0, om 23 5, om 24 1, oe 25 (.call 105 [22, 23, 24]), om 6 25] (.seq (so [om 26 0, on 27 26, ox 28 0 27, oq 29 (.loadN 2 28), oe 30 (.call 97 [29]), oq 31 (.un .not 30)] (.cond 31 (so [oq 4 (.mov (.val (.str [])))] .ret) .skip)) (.seq (.seq (.draw 12 [⟨0, om 32 6, []⟩, ⟨1, om 33 0, []⟩, ⟨2, on 34 33, []⟩, ⟨3, ox 35 2 34, []⟩, ⟨4, ol 36 35, []⟩, ⟨5, oq 37 (.lenSl 36), []⟩, ⟨6, om 38 0, []⟩, ⟨7, on 39 38, []⟩, ⟨8, ox 40 3 39, []⟩, ⟨9, ol 41 40, []⟩, ⟨10, ob 42 .sub 37 41, []⟩, ⟨11, ob 43 .gtr 32 42, []⟩]) (.cond 43 (so [om 44 0, om 45 5, oe 46 (.call 106 [44, 45, (oi 3)])] (so [oq 4 (.mov (.val (.str [])))] .ret)) .skip)) (.seq (.draw 17 [⟨0, om 47 0, []⟩, ⟨1, on 48 47, []⟩, ⟨2, ox 49 2 48, []⟩, ⟨3, ol 50 49, []⟩, ⟨4, om 51 0, []⟩, ⟨5, on 52 51, []⟩, ⟨6, ox 53 3 52, []⟩, ⟨7, ol 54 53, []⟩, ⟨8, om 55 0, []⟩, ⟨9, on 56 55, []⟩, ⟨10, ox 57 3 56, []⟩, ⟨11, ol 58 57, []⟩, ⟨12, om 59 6, []⟩, ⟨13, ob 60 .add 58 59, []⟩, ⟨14, oq 61 (.slSl 1 50 (some 54) (some 60) none), []⟩, ⟨15, oq 62 (.bytesStr 61), []⟩, ⟨16, om 7 62, []⟩]) (so [om 63 0, on 64 63, ox 65 3 64, ol 66 65, om 67 6, ob 68 .add 66 67, on 69 63, ox 70 3 69, os (.store 1 70 68)] (so [om 71 7, om 4 71] .ret)))))))))
noncomputable def f86.fn : PFn := .code (slotsN 72) f86.body f86.res
noncomputable def f86 (C : CW) (a0 a1 : AVal) (σ : S) (Q : AVal → S → Prop) : Prop :=
Som (binA .eql .ptr a0 .nptr) fun t9 =>
sU t9 (some a0) fun t11 =>
sU t9 (vNilck t11) fun t12 =>
sU t9 (vFieldAddr 0 t12) fun t13 =>
sU t9 (vLoadN 2 t13 σ) fun t14 =>
gE1 (isB t9 false) (fun K => C 97 [t14] σ K) σ fun t15 σ1 =>
sU t9 (unA .not t15) fun t16 =>
sP t9 (.bool true) t16 fun t17 =>
WIf t17 (
Ret [some (.str [])] σ1 Q) (
sN a0 fun t19 =>
sF 3 t19 fun t20 =>
sL t20 σ1 fun t21 =>
C 105 [a0, t21, a1] σ1 fun t25 σ2 =>
sN a0 fun t27 =>
sF 0 t27 fun t28 =>
Som (vLoadN 2 t28 σ2) fun t29 =>
C 97 [t29] σ2 fun t30 σ3 =>
Som (unA .not t30) fun t31 =>
WIf t31 (
Ret [some (.str [])] σ3 Q) (
sN a0 fun t34 =>
sF 2 t34 fun t35 =>
sL t35 (σ3.bumpT 12) fun t36 =>
Som (vLenSl t36) fun t37 =>
sN a0 fun t39 =>
sF 3 t39 fun t40 =>
sL t40 (σ3.bumpT 12) fun t41 =>
sB .sub t37 t41 fun t42 =>
sB .gtr t25 t42 fun t43 =>
WIf t43 (
C 106 [a0, t21, (i6 3)] (σ3.bumpT 12) fun t46 σ4 =>
Ret [some (.str [])] σ4 Q) (
sN a0 fun t48 =>
sF 2 t48 fun t49 =>
sL t49 ((σ3.bumpT 12).bumpT 17) fun t50 =>
sN a0 fun t52 =>
sF 3 t52 fun t53 =>
sL t53 ((σ3.bumpT 12).bumpT 17) fun t54 =>
sN a0 fun t56 =>
sF 3 t56 fun t57 =>
sL t57 ((σ3.bumpT 12).bumpT 17) fun t58 =>
sB .add t58 t25 fun t60 =>
Som (vSlSl 1 t50 (some t54) (some t60) none) fun t61 =>
Som (vBytesStr t61 ((σ3.bumpT 12).bumpT 17)) fun t62 =>
sN a0 fun t64 =>
sF 3 t64 fun t65 =>
sL t65 ((σ3.bumpT 12).bumpT 17) fun t66 =>
sB .add t66 t25 fun t68 =>
sN a0 fun t69 =>
sF 3 t69 fun t70 =>
sS 1 t70 t68 ((σ3.bumpT 12).bumpT 17) fun _ σ4 =>
Ret [some t62] σ4 Q)))
theorem f86_eq {a0 a1 : AVal} : f86 C a0 a1 σ Q = wC C f86.body ((E0.set 0 a0).set 1 a1) σ (retK f86.res Q) := by kernel_rfl
theorem f86_wf (ht : tab 86 = some f86.fn) {a0 a1 : AVal} (h : f86 (WF tab) a0 a1 σ Q) : WF tab 86 [a0, a1] σ Q := wf_of ht (by kernel_rfl) f86_eq h
noncomputable def f87.res : List PRes := [.tmp (sn 2)]
noncomputable def f87.body : PC := (so [oq 2 (.mov (oi 0))] (.seq (so [om 3 0, oq 4 (.bin .eql .ptr 3 (.val .nptr))] (.cond 4 (so [oq 2 (.mov (oi 0))] .ret) .skip)) (.seq (.seq (.draw 17 [⟨0, om 5 0, []⟩, ⟨1, on 6 5, []⟩, ⟨2, ox 7 0 6, []⟩, ⟨3, oq 8 (.loadN 2 7), []⟩, ⟨4, oe 9 (.call 97 [8]), []⟩, ⟨5, om 10 9, []⟩, ⟨6, oqg 11 10 true (.mov 0), []⟩, ⟨7, oqg 12 10 true (.nilck 11), []⟩, ⟨8, oqg 13 10 true (.fieldAddr 3 12), []⟩, ⟨9, oqg 14 10 true (.load1 13), []⟩, ⟨10, oqg 15 10 true (.mov 0), []⟩, ⟨11, oqg 16 10 true (.nilck 15), []⟩, ⟨12, oqg 17 10 true (.fieldAddr 2 16), []⟩, ⟨13, oqg 18 10 true (.load1 17), []⟩, ⟨14, oqg 19 10 true (.lenSl 18), []⟩, ⟨15, oqg 20 10 true (.bin .lss .num 14 19), []⟩, ⟨16, oq 21 (.pick 10 20 oF), []⟩]) (.cond 21 (.ops [om 22 0, om 23 0, on 24 23, ox 25 3 24, ol 26 25, oe 27 (.call 106 [22, 26, (oi 5)])]) .skip)) (so [om 28 0, on 29 28, ox 30 0 29, ox 31 1 30, ol 32 31, om 2 32] .ret))))
noncomputable def f87.fn : PFn := .code (slotsN 33) f87.body f87.res
noncomputable def f87 (C : CW) (a0 : AVal) (σ : S) (Q : AVal → S → Prop) : Prop :=
Som (binA .eql .ptr a0 .nptr) fun t4 =>
WIf t4 (
Ret [some (i6 0)] σ Q) (
sN a0 fun t6 =>
sF 0 t6 fun t7 =>
Som (vLoadN 2 t7 (σ.bumpT 17)) fun t8 =>
C 97 [t8] (σ.bumpT 17) fun t9 σ1 =>
sT t9 (some a0) fun t11 =>
sT t9 (vNilck t11) fun t12 =>
sT t9 (vFieldAddr 3 t12) fun t13 =>
sT t9 (vLoad1 t13 σ1) fun t14 =>
sT t9 (some a0) fun t15 =>
sT t9 (vNilck t15) fun t16 =>
sT t9 (vFieldAddr 2 t16) fun t17 =>
sT t9 (vLoad1 t17 σ1) fun t18 =>
sT t9 (vLenSl t18) fun t19 =>
sT t9 (binA .lss .num t14 t19) fun t20 =>
sP t9 t20 (.bool false) fun t21 =>
WIf t21 (
sN a0 fun t24 =>
sF 3 t24 fun t25 =>
sL t25 σ1 fun t26 =>
C 106 [a0, t26, (i6 5)] σ1 fun t27 σ2 =>
sN a0 fun t29 =>
sF 0 t29 fun t30 =>
sF 1 t30 fun t31 =>
sL t31 σ2 fun t32 =>
Ret [some t32] σ2 Q) (
sN a0 fun t29 =>
sF 0 t29 fun t30 =>
sF 1 t30 fun t31 =>
sL t31 σ1 fun t32 =>
Ret [some t32] σ1 Q))
theorem f87_eq {a0 : AVal} : f87 C a0 σ Q = wC C f87.body (E0.set 0 a0) σ (retK f87.res Q) := by kernel_rfl
theorem f87_wf (ht : tab 87 = some f87.fn) {a0 : AVal} (h : f87 (WF tab) a0 σ Q) : WF tab 87 [a0] σ Q := wf_of ht (by kernel_rfl) f87_eq h
noncomputable def f88.c0 : PC := (so [ob 13 .lss 12 11] (.seq (.cond 13 .skip (.exit 0)) (.seq (.block 1 (so [oq 14 (.ixSl 2 10 12), oq 15 (.loadN 2 14), oa 5 (.alloc [(i6 0), (.str [])]), os (.store 2 5 15)] (.seq (so [ox 16 0 5, ol 17 16, om 18 3, ob 19 .lss 17 18, om 20 19, oqg 21 20 false (.fieldAddr 0 5), oqg 22 20 false (.load1 21), oqg 23 20 false (.fieldAddr 0 1), oqg 24 20 false (.load1 23), oqg 25 20 false (.bin .gtr .num 22 24), oq 26 (.pick 20 oT 25), om 27 26, oqg 28 27 false (.fieldAddr 1 5), oqg 29 27 false (.load1 28), oqg 30 27 false (.lenStr 29), oqg 31 27 false (.bin .gtr .num 30 (oi 16184)), oq 32 (.pick 27 oT 31)] (.cond 32 (so [oq 2 (.mov oF)] .ret) .skip)) (.ops [ox 33 0 5, ol 34 33, om 3 34])))) (.ops [ob 35 .add 12 (oi 1), om 12 35]))))
noncomputable def f88.res : List PRes := [.tmp (sn 2)]
noncomputable def f88.p0 (C : CW) (Q : AVal → S → Prop) (R0 : PC) (E : En) (σ : S) : Prop :=
sB .lss (E 12) (E 11) fun t13 =>
WIf t13 (
Som (vIxSl 2 (E 10) (E 12)) fun t14 =>
Som (vLoadN 2 t14 σ) fun t15 =>
Ala (aAllocV [(i6 0), (.str [])]) σ fun t5 σ1 =>
sS 2 t5 t15 σ1 fun _ σ2 =>
sF 0 t5 fun t16 =>
sL t16 σ2 fun t17 =>
sB .lss t17 (E 3) fun t19 =>
sU t19 (vFieldAddr 0 t5) fun t21 =>
sU t19 (vLoad1 t21 σ2) fun t22 =>
sU t19 (vFieldAddr 0 (E 1)) fun t23 =>
sU t19 (vLoad1 t23 σ2) fun t24 =>
sU t19 (binA .gtr .num t22 t24) fun t25 =>
sP t19 (.bool true) t25 fun t26 =>
sU t26 (vFieldAddr 1 t5) fun t28 =>
sU t26 (vLoad1 t28 σ2) fun t29 =>
sU t26 (vLenStr t29) fun t30 =>
sU t26 (binA .gtr .num t30 (i6 16184)) fun t31 =>
sP t26 (.bool true) t31 fun t32 =>
WIf t32 (
Ret [some (.bool false)] σ2 Q) (
sF 0 t5 fun t33 =>
sL t33 σ2 fun t34 =>
sB .add (E 12) (i6 1) fun t35 =>
wC C (.loop R0) ((((((((E.q 13 t13 14 t14 15 t15 5 t5).q 16 t16 17 t17 18 (E 3) 19 t19).q 20 t19 21 t21 22 t22 23 t23).q 24 t24 25 t25 26 t26 27 t26).q 28 t28 29 t29 30 t30 31 t31).q 32 t32 33 t33 34 t34 3 t34).set 35 t35).set 12 t35) σ2 (blockK 0 (seqK (wC C (so [oq 2 (.mov oT)] .ret)) (retK f88.res Q))))) (
Ret [some (.bool true)] σ Q)
theorem f88.p0_eq {R0 : PC} : f88.p0 C Q R0 E σ = wC C f88.c0 E σ (loopK C R0 (blockK 0 (seqK (wC C (so [oq 2 (.mov oT)] .ret)) (retK f88.res Q)))) := by kernel_rfl
abbrev f88.L0 (C : CW) (Q : AVal → S → Prop) (E : En) (σ : S) : Prop := wC C (.loop f88.c0) E σ (blockK 0 (seqK (wC C (so [oq 2 (.mov oT)] .ret)) (retK f88.res Q)))
theorem f88.p0_of (h : f88.p0 (WF tab) Q f88.c0 E σ) : f88.L0 (WF tab) Q E σ := wLoop_step (Eq.mp f88.p0_eq h)
noncomputable def f88.body (R0 : PC) : PC := (so [oa 1 (.box 0), oq 2 (.mov oF)] (so [ox 6 3 1, ol 7 6, oq 8 (.maxI 7 [(oi 1)]), om 3 8] (.seq (so [ox 9 5 1, ol 10 9, oq 11 (.lenSl 10), oq 12 (.mov (oi 0))] (.block 0 (.loop R0))) (so [oq 2 (.mov oT)] .ret))))
noncomputable def f88.fn : PFn := .code (slotsN 36) (f88.body f88.c0) f88.res
noncomputable def f88 (C : CW) (R0 : PC) (a0 : AVal) (σ : S) (Q : AVal → S → Prop) : Prop :=
Ala (aBoxV a0) σ fun t1 σ1 =>
sF 3 t1 fun t6 =>
sL t6 σ1 fun t7 =>
Som (maxA t7 [(i6 1)]) fun t8 =>
sF 5 t1 fun t9 =>
sL t9 σ1 fun t10 =>
Som (vLenSl t10) fun t11 =>
wC C (.loop R0) (((((E0.q 0 a0 1 t1 2 (.bool false) 6 t6).q 7 t7 8 t8 3 t8 9 t9).set 10 t10).set 11 t11).set 12 (i6 0)) σ1 (blockK 0 (seqK (wC C (so [oq 2 (.mov oT)] .ret)) (retK f88.res Q)))
theorem f88_eq {R0 : PC} {a0 : AVal} : f88 C R0 a0 σ Q = wC C (f88.body R0) (E0.set 0 a0) σ (retK f88.res Q) := by kernel_rfl
theorem f88_wf (ht : tab 88 = some f88.fn) {a0 : AVal} (h : f88 (WF tab) f88.c0 a0 σ Q) : WF tab 88 [a0] σ Q := wf_of ht (by kernel_rfl) f88_eq h
noncomputable def f89.res : List PRes := [.tmp (sn 6)]
noncomputable def f89.body : PC := (so [oq 6 (.mov oF)] (.seq (so [om 9 0, oe 10 (.call 14 [9]), om 11 1, ob 12 .add 11 (oi 1), ob 13 .eql 10 12] (.cond 13 (so [oq 6 (.mov oT)] .ret) .skip)) (so [om 15 0, om 16 1, oe 17 (.call 90 [15, 16]), om 14 17, oq 18 (.extract 0 14), oq 19 (.extract 1 14), oa 7 (.alloc [(i6 0), (.str [])]), os (.store 2 7 18), om 8 19] (so [om 20 8, om 21 20, oqg 22 21 true (.fieldAddr 0 7), oqg 23 21 true (.load1 22), oqg 24 21 true (.mov 2), oqg 25 21 true (.bin .eql .num 23 24), oq 26 (.pick 21 25 oF), om 6 26] .ret))))
noncomputable def f89.fn : PFn := .code (slotsN 27) f89.body f89.res
noncomputable def f89 (C : CW) (a0 a1 a2 : AVal) (σ : S) (Q : AVal → S → Prop) : Prop :=
C 14 [a0] σ fun t10 σ1 =>
sB .add a1 (i6 1) fun t12 =>
sB .eql t10 t12 fun t13 =>
WIf t13 (
Ret [some (.bool true)] σ1 Q) (
C 90 [a0, a1] σ1 fun t17 σ2 =>
Som (vExtract 0 t17) fun t18 =>
Som (vExtract 1 t17) fun t19 =>
Ala (aAllocV [(i6 0), (.str [])]) σ2 fun t7 σ3 =>
sS 2 t7 t18 σ3 fun _ σ4 =>
sT t19 (vFieldAddr 0 t7) fun t22 =>
sT t19 (vLoad1 t22 σ4) fun t23 =>
sT t19 (some a2) fun t24 =>
sT t19 (binA .eql .num t23 t24) fun t25 =>
sP t19 t25 (.bool false) fun t26 =>
Ret [some t26] σ4 Q)
theorem f89_eq {a0 a1 a2 : AVal} : f89 C a0 a1 a2 σ Q = wC C f89.body (((E0.set 0 a0).set 1 a1).set 2 a2) σ (retK f89.res Q) := by kernel_rfl
theorem f89_wf (ht : tab 89 = some f89.fn) {a0 a1 a2 : AVal} (h : f89 (WF tab) a0 a1 a2 σ Q) : WF tab 89 [a0, a1, a2] σ Q := wf_of ht (by kernel_rfl) f89_eq h
noncomputable def f90.res : List PRes := [.cellN 2 (sn 4), .tmp (sn 5)]
noncomputable def f90.body : PC := (so [oa 4 (.alloc [(i6 0), (.str [])]), oq 5 (.mov oF)] (so [om 11 0, om 12 1, oe 13 (.call 16 [11, 12]), om 10 13, oq 14 (.extract 0 10), oq 15 (.extract 1 10), om 6 14, om 7 15] (so [om 16 6, oa 17 (.strBytes 16), oe 18 (.call 84 [17]), om 8 18] (so [om 19 8, oe 20 (.call 85 [19]), om 9 20] (.seq (so [om 21 7, oq 22 (.un .not 21), om 23 22, oqg 24 23 false (.mov 8), oqg 25 23 false (.nilck 24), oqg 26 23 false (.fieldAddr 0 25), oqg 27 23 false (.loadN 2 26), oeg 28 23 false (.call 97 [27]), oqg 29 23 false (.un .not 28), oq 30 (.pick 23 oT 29)] (.cond 30 (so [oq 31 (.build [(i6 0), (.str [])] []), os (.store 2 4 31), oq 5 (.mov oF)] .ret) .skip)) (so [om 32 9, om 33 6, om 34 8, oe 35 (.call 98 [34]), oq 36 (.slStr 33 (some 35) none), oq 37 (.build [(i6 0), (.str [])] [(0, 1, 32), (1, 1, 36)]), os (.store 2 4 37), oq 5 (.mov oT)] .ret))))))
noncomputable def f90.fn : PFn := .code (slotsN 38) f90.body f90.res
noncomputable def f90 (C : CW) (a0 a1 : AVal) (σ : S) (Q : AVal → S → Prop) : Prop :=
Ala (aAllocV [(i6 0), (.str [])]) σ fun t4 σ1 =>
C 16 [a0, a1] σ1 fun t13 σ2 =>
Som (vExtract 0 t13) fun t14 =>
Som (vExtract 1 t13) fun t15 =>
Ala (aBytesV t14) σ2 fun t17 σ3 =>
C 84 [t17] σ3 fun t18 σ4 =>
C 85 [t18] σ4 fun t20 σ5 =>
Som (unA .not t15) fun t22 =>
sU t22 (some t18) fun t24 =>
sU t22 (vNilck t24) fun t25 =>
sU t22 (vFieldAddr 0 t25) fun t26 =>
sU t22 (vLoadN 2 t26 σ5) fun t27 =>
gE1 (isB t22 false) (fun K => C 97 [t27] σ5 K) σ5 fun t28 σ6 =>
sU t22 (unA .not t28) fun t29 =>
sP t22 (.bool true) t29 fun t30 =>
WIf t30 (
Som (vBuild [(i6 0), (.str [])] []) fun t31 =>
sS 2 t4 t31 σ6 fun _ σ7 =>
Ret [vLoadN 2 t4 σ7, some (.bool false)] σ7 Q) (
C 98 [t18] σ6 fun t35 σ7 =>
Som (vSlStr t14 (some t35) none) fun t36 =>
Som (vBuild [(i6 0), (.str [])] [(0, 1, t20), (1, 1, t36)]) fun t37 =>
sS 2 t4 t37 σ7 fun _ σ8 =>
Ret [vLoadN 2 t4 σ8, some (.bool true)] σ8 Q)
theorem f90_eq {a0 a1 : AVal} : f90 C a0 a1 σ Q = wC C f90.body ((E0.set 0 a0).set 1 a1) σ (retK f90.res Q) := by kernel_rfl
theorem f90_wf (ht : tab 90 = some f90.fn) {a0 a1 : AVal} (h : f90 (WF tab) a0 a1 σ Q) : WF tab 90 [a0, a1] σ Q := wf_of ht (by kernel_rfl) f90_eq h
noncomputable def f92.res : List PRes := [.tmp (sn 8)]
noncomputable def f92.body : PC := (so [oq 8 (.mov oF)] (.seq (so [om 9 2, om 10 0, ob 11 .lss 9 10, om 12 11, oqg 13 12 false (.mov 2), oqg 14 12 false (.bin .gtr .num 13 (oi 1099511627776)), oq 15 (.pick 12 oT 14), om 16 15, oqg 17 16 false (.mov 3), oqg 18 16 false (.bin .lss .num 17 (.val (.int .i64 (-1)))), oq 19 (.pick 16 oT 18), om 20 19, oqg 21 20 false (.mov 3), oqg 22 20 false (.bin .geq .num 21 (oi 7)), oq 23 (.pick 20 oT 22)] (.cond 23 (so [oq 8 (.mov oF)] .ret) .skip)) (so [om 24 2, om 25 0, ob 26 .gtr 24 25, om 27 26, oqg 28 27 false (.mov 1), oqg 29 27 false (.bin .eql .num 28 (.val (.int .i64 (-1)))), oq 30 (.pick 27 oT 29), om 31 30, oqg 32 31 false (.mov 3), oqg 33 31 false (.mov 1), oqg 34 31 false (.bin .eql .num 32 33), oq 35 (.pick 31 oT 34), om 8 35] .ret)))
noncomputable def f92.fn : PFn := .code (slotsN 36) f92.body f92.res
noncomputable def f92 (C : CW) (a0 a1 a2 a3 : AVal) (σ : S) (Q : AVal → S → Prop) : Prop :=
sB .lss a2 a0 fun t11 =>
sU t11 (some a2) fun t13 =>
sU t11 (binA .gtr .num t13 (i6 1099511627776)) fun t14 =>
sP t11 (.bool true) t14 fun t15 =>
sU t15 (some a3) fun t17 =>
sU t15 (binA .lss .num t17 (.int .i64 (-1))) fun t18 =>
sP t15 (.bool true) t18 fun t19 =>
sU t19 (some a3) fun t21 =>
sU t19 (binA .geq .num t21 (i6 7)) fun t22 =>
sP t19 (.bool true) t22 fun t23 =>
WIf t23 (
Ret [some (.bool false)] σ Q) (
sB .gtr a2 a0 fun t26 =>
sU t26 (some a1) fun t28 =>
sU t26 (binA .eql .num t28 (.int .i64 (-1))) fun t29 =>
sP t26 (.bool true) t29 fun t30 =>
sU t30 (some a3) fun t32 =>
sU t30 (some a1) fun t33 =>
sU t30 (binA .eql .num t32 t33) fun t34 =>
sP t30 (.bool true) t34 fun t35 =>
Ret [some t35] σ Q)
theorem f92_eq {a0 a1 a2 a3 : AVal} : f92 C a0 a1 a2 a3 σ Q = wC C f92.body (E0.q 0 a0 1 a1 2 a2 3 a3) σ (retK f92.res Q) := by kernel_rfl
theorem f92_wf (ht : tab 92 = some f92.fn) {a0 a1 a2 a3 : AVal} (h : f92 (WF tab) a0 a1 a2 a3 σ Q) : WF tab 92 [a0, a1, a2, a3] σ Q := wf_of ht (by kernel_rfl) f92_eq h
noncomputable def f93.c0 : PC := (so [om 54 0, on 55 54, ox 56 2 55, ol 57 56, ob 58 .add 57 (oi 1), oe 59 (.call 77 [(.val .nsl), 58]), om 60 1, oe 61 (.call 77 [59, 60]), om 62 2, oe 63 (.call 77 [61, 62]), oe 64 (.call 78 [(.val .nsl), 63]), om 10 64] (.seq (so [om 65 0, on 66 65, ox 67 0 66, ol 68 67, om 69 7, om 70 10, oe 71 (.call 10 [68, 69, (oi 0), 70]), om 11 71] (so [om 72 11, ob 73 .neq 72 (oi 0)] (.cond 73 (so [om 74 11, om 6 74] .ret) .skip))) (.seq (so [om 75 0, on 76 75, ox 77 0 76, ol 78 77, oe 79 (.call 44 [78]), om 12 79] (so [om 80 12, ob 81 .neq 80 (oi 0)] (.cond 81 (so [om 82 12, om 6 82] .ret) .skip))) (so [om 83 0, om 84 0, om 85 0, om 86 0, om 87 7, om 88 0, on 89 88, ox 90 2 89, ol 91 90, ob 92 .add 91 (oi 1), om 93 1, om 94 2, on 95 83, ox 96 1 95, os (.store 1 96 87), on 97 84, ox 98 2 97, os (.store 1 98 92), on 99 85, ox 100 3 99, os (.store 1 100 93), on 101 86, ox 102 4 101, os (.store 1 102 94)] (so [oq 6 (.mov (oi 0))] .ret)))))
noncomputable def f93.res : List PRes := [.tmp (sn 6)]
noncomputable def f93.p0 (C : CW) (Q : AVal → S → Prop) (E : En) (σ : S) : Prop :=
sN (E 0) fun t55 =>
sF 2 t55 fun t56 =>
sL t56 σ fun t57 =>
sB .add t57 (i6 1) fun t58 =>
C 77 [.nsl, t58] σ fun t59 σ1 =>
C 77 [t59, (E 1)] σ1 fun t61 σ2 =>
C 77 [t61, (E 2)] σ2 fun t63 σ3 =>
C 78 [.nsl, t63] σ3 fun t64 σ4 =>
sN (E 0) fun t66 =>
sF 0 t66 fun t67 =>
sL t67 σ4 fun t68 =>
C 10 [t68, (E 7), (i6 0), t64] σ4 fun t71 σ5 =>
sB .neq t71 (i6 0) fun t73 =>
WIf t73 (
Ret [some t71] σ5 Q) (
sN (E 0) fun t76 =>
sF 0 t76 fun t77 =>
sL t77 σ5 fun t78 =>
C 44 [t78] σ5 fun t79 σ6 =>
sB .neq t79 (i6 0) fun t81 =>
WIf t81 (
Ret [some t79] σ6 Q) (
sN (E 0) fun t89 =>
sF 2 t89 fun t90 =>
sL t90 σ6 fun t91 =>
sB .add t91 (i6 1) fun t92 =>
sN (E 0) fun t95 =>
sF 1 t95 fun t96 =>
sS 1 t96 (E 7) σ6 fun _ σ7 =>
sN (E 0) fun t97 =>
sF 2 t97 fun t98 =>
sS 1 t98 t92 σ7 fun _ σ8 =>
sN (E 0) fun t99 =>
sF 3 t99 fun t100 =>
sS 1 t100 (E 1) σ8 fun _ σ9 =>
sN (E 0) fun t101 =>
sF 4 t101 fun t102 =>
sS 1 t102 (E 2) σ9 fun _ σ10 =>
Ret [some (i6 0)] σ10 Q))
theorem f93.p0_eq : f93.p0 C Q E σ = wC C f93.c0 E σ (retK f93.res Q) := by kernel_rfl
abbrev f93.J0 (C : CW) (Q : AVal → S → Prop) (E : En) (σ : S) : Prop := wC C f93.c0 E σ (retK f93.res Q)
theorem f93.p0_of (h : f93.p0 C Q E σ) : f93.J0 C Q E σ := Eq.mp f93.p0_eq h
noncomputable def f93.body (R0 : PC) : PC := (so [oq 6 (.mov (oi 0))] (.seq (.seq (.draw 12 [⟨0, om 13 0, []⟩, ⟨1, on 14 13, []⟩, ⟨2, ox 15 3 14, []⟩, ⟨3, ol 16 15, []⟩, ⟨4, om 17 0, []⟩, ⟨5, on 18 17, []⟩, ⟨6, ox 19 4 18, []⟩, ⟨7, ol 20 19, []⟩, ⟨8, om 21 1, []⟩, ⟨9, om 22 2, []⟩, ⟨10, oe 23 (.call 92 [16, 20, 21, 22]), []⟩, ⟨11, oq 24 (.un .not 23), []⟩]) (.cond 24 (so [oq 6 (.mov (oi 1))] .ret) .skip)) (so [om 25 0, on 26 25, ox 27 1 26, ol 28 27, ob 29 .sub (oi 1) 28, om 7 29] (.seq (so [om 30 0, on 31 30, ox 32 0 31, ol 33 32, om 34 7, oe 35 (.call 42 [33, 34]), ob 36 .gtr 35 (oi 0)] (.cond 36 (.seq (so [om 37 0, on 38 37, ox 39 0 38, ol 40 39, om 41 7, oe 42 (.call 43 [40, 41, (oi 0)]), om 8 42] (so [om 43 8, ob 44 .neq 43 (oi 0)] (.cond 44 (so [om 45 8, om 6 45] .ret) .skip))) (so [om 46 0, on 47 46, ox 48 0 47, ol 49 48, oe 50 (.call 44 [49]), om 9 50] (so [om 51 9, ob 52 .neq 51 (oi 0)] (.cond 52 (so [om 53 9, om 6 53] .ret) .skip)))) .skip)) R0))))
noncomputable def f93.fn : PFn := .code (slotsN 103) (f93.body f93.c0) f93.res
noncomputable def f93 (C : CW) (R0 : PC) (a0 a1 a2 : AVal) (σ : S) (Q : AVal → S → Prop) : Prop :=
sN a0 fun t14 =>
sF 3 t14 fun t15 =>
sL t15 (σ.bumpT 12) fun t16 =>
sN a0 fun t18 =>
sF 4 t18 fun t19 =>
sL t19 (σ.bumpT 12) fun t20 =>
C 92 [t16, t20, a1, a2] (σ.bumpT 12) fun t23 σ1 =>
Som (unA .not t23) fun t24 =>
WIf t24 (
Ret [some (i6 1)] σ1 Q) (
sN a0 fun t26 =>
sF 1 t26 fun t27 =>
sL t27 σ1 fun t28 =>
sB .sub (i6 1) t28 fun t29 =>
sN a0 fun t31 =>
sF 0 t31 fun t32 =>
sL t32 σ1 fun t33 =>
C 42 [t33, t29] σ1 fun t35 σ2 =>
sB .gtr t35 (i6 0) fun t36 =>
WIf t36 (
sN a0 fun t38 =>
sF 0 t38 fun t39 =>
sL t39 σ2 fun t40 =>
C 43 [t40, t29, (i6 0)] σ2 fun t42 σ3 =>
sB .neq t42 (i6 0) fun t44 =>
WIf t44 (
Ret [some t42] σ3 Q) (
sN a0 fun t47 =>
sF 0 t47 fun t48 =>
sL t48 σ3 fun t49 =>
C 44 [t49] σ3 fun t50 σ4 =>
sB .neq t50 (i6 0) fun t52 =>
WIf t52 (
Ret [some t50] σ4 Q) (
wC C R0 (((((((((((((E0.q 0 a0 1 a1 2 a2 6 (i6 0)).q 13 a0 14 t14 15 t15 16 t16).q 17 a0 18 t18 19 t19 20 t20).q 21 a1 22 a2 23 t23 24 t24).q 25 a0 26 t26 27 t27 28 t28).q 29 t29 7 t29 30 a0 31 t31).q 32 t32 33 t33 34 t29 35 t35).q 36 t36 37 a0 38 t38 39 t39).q 40 t40 41 t29 42 t42 8 t42).q 43 t42 44 t44 46 a0 47 t47).q 48 t48 49 t49 50 t50 9 t50).set 51 t50).set 52 t52) σ4 (retK f93.res Q)))) (
wC C R0 ((((((((E0.q 0 a0 1 a1 2 a2 6 (i6 0)).q 13 a0 14 t14 15 t15 16 t16).q 17 a0 18 t18 19 t19 20 t20).q 21 a1 22 a2 23 t23 24 t24).q 25 a0 26 t26 27 t27 28 t28).q 29 t29 7 t29 30 a0 31 t31).q 32 t32 33 t33 34 t29 35 t35).set 36 t36) σ2 (retK f93.res Q)))
theorem f93_eq {R0 : PC} {a0 a1 a2 : AVal} : f93 C R0 a0 a1 a2 σ Q = wC C (f93.body R0) (((E0.set 0 a0).set 1 a1).set 2 a2) σ (retK f93.res Q) := by kernel_rfl
theorem f93_wf (ht : tab 93 = some f93.fn) {a0 a1 a2 : AVal} (h : f93 (WF tab) f93.c0 a0 a1 a2 σ Q) : WF tab 93 [a0, a1, a2] σ Q := wf_of ht (by kernel_rfl) f93_eq h
noncomputable def f94.res : List PRes := [.tmp (sn 4)]
noncomputable def f94.body : PC := (so [oa 2 (.box 0), oa 3 (.box 1), oq 4 (.mov (.val .nsl))] (.seq (so [ox 6 2 3, ol 7 6, ox 8 2 2, ol 9 8, ob 10 .eql 7 9] (.cond 10 (so [ox 11 5 2, ol 12 11, om 4 12] .ret) .skip)) (so [ox 13 2 3, ol 14 13, ox 15 2 2, ol 16 15, ob 17 .sub 14 16, om 5 17] (.seq (.seq (.draw 17 [⟨0, om 18 5, []⟩, ⟨1, ox 19 5 2, []⟩, ⟨2, ol 20 19, []⟩, ⟨3, oq 21 (.lenSl 20), []⟩, ⟨4, ob 22 .gtr 18 21, []⟩, ⟨5, om 23 22, []⟩, ⟨6, oqg 24 23 false (.fieldAddr 5 2), []⟩, ⟨7, oqg 25 23 false (.load1 24), []⟩, ⟨8, oqg 26 23 false (.mov 5), []⟩, ⟨9, oqg 27 23 false (.bin .sub .num 26 (oi 1)), []⟩, ⟨10, oqg 28 23 false (.ixSl 2 25 27), []⟩, ⟨11, oqg 29 23 false (.fieldAddr 0 28), []⟩, ⟨12, oqg 30 23 false (.load1 29), []⟩, ⟨13, oqg 31 23 false (.fieldAddr 3 3), []⟩, ⟨14, oqg 32 23 false (.load1 31), []⟩, ⟨15, oqg 33 23 false (.bin .neq .num 30 32), []⟩, ⟨16, oq 34 (.pick 23 oT 33), []⟩]) (.cond 34 (so [oq 4 (.mov (.val .nsl))] .ret) .skip)) (so [ox 35 5 2, ol 36 35, om 37 5, oq 38 (.slSl 2 36 (some 37) none none), om 4 38] .ret)))))
noncomputable def f94.fn : PFn := .code (slotsN 39) f94.body f94.res
noncomputable def f94 (C : CW) (a0 a1 : AVal) (σ : S) (Q : AVal → S → Prop) : Prop :=
Ala (aBoxV a0) σ fun t2 σ1 =>
Ala (aBoxV a1) σ1 fun t3 σ2 =>
sF 2 t3 fun t6 =>
sL t6 σ2 fun t7 =>
sF 2 t2 fun t8 =>
sL t8 σ2 fun t9 =>
sB .eql t7 t9 fun t10 =>
WIf t10 (
sF 5 t2 fun t11 =>
sL t11 σ2 fun t12 =>
Ret [some t12] σ2 Q) (
sF 2 t3 fun t13 =>
sL t13 σ2 fun t14 =>
sF 2 t2 fun t15 =>
sL t15 σ2 fun t16 =>
sB .sub t14 t16 fun t17 =>
sF 5 t2 fun t19 =>
sL t19 (σ2.bumpT 17) fun t20 =>
Som (vLenSl t20) fun t21 =>
sB .gtr t17 t21 fun t22 =>
sU t22 (vFieldAddr 5 t2) fun t24 =>
sU t22 (vLoad1 t24 (σ2.bumpT 17)) fun t25 =>
sU t22 (some t17) fun t26 =>
sU t22 (binA .sub .num t26 (i6 1)) fun t27 =>
sU t22 (vIxSl 2 t25 t27) fun t28 =>
sU t22 (vFieldAddr 0 t28) fun t29 =>
sU t22 (vLoad1 t29 (σ2.bumpT 17)) fun t30 =>
sU t22 (vFieldAddr 3 t3) fun t31 =>
sU t22 (vLoad1 t31 (σ2.bumpT 17)) fun t32 =>
sU t22 (binA .neq .num t30 t32) fun t33 =>
sP t22 (.bool true) t33 fun t34 =>
WIf t34 (
Ret [some .nsl] (σ2.bumpT 17) Q) (
sF 5 t2 fun t35 =>
sL t35 (σ2.bumpT 17) fun t36 =>
Som (vSlSl 2 t36 (some t17) none none) fun t38 =>
Ret [some t38] (σ2.bumpT 17) Q))
theorem f94_eq {a0 a1 : AVal} : f94 C a0 a1 σ Q = wC C f94.body ((E0.set 0 a0).set 1 a1) σ (retK f94.res Q) := by kernel_rfl
theorem f94_wf (ht : tab 94 = some f94.fn) {a0 a1 : AVal} (h : f94 (WF tab) a0 a1 σ Q) : WF tab 94 [a0, a1] σ Q := wf_of ht (by kernel_rfl) f94_eq h
noncomputable def f95.c0 : PC := (so [om 121 0, oe 122 (.call 64 [121]), om 6 122] .ret)
noncomputable def f95.res : List PRes := [.tmp (sn 6)]
noncomputable def f95.p0 (C : CW) (Q : AVal → S → Prop) (E : En) (σ : S) : Prop :=
C 64 [(E 0)] σ fun t122 σ1 =>
Ret [some t122] σ1 Q
theorem f95.p0_eq : f95.p0 C Q E σ = wC C f95.c0 E σ (retK f95.res Q) := by kernel_rfl
abbrev f95.J0 (C : CW) (Q : AVal → S → Prop) (E : En) (σ : S) : Prop := wC C f95.c0 E σ (retK f95.res Q)
theorem f95.p0_of (h : f95.p0 C Q E σ) : f95.J0 C Q E σ := Eq.mp f95.p0_eq h
noncomputable def f95.body (R0 : PC) : PC := (so [oa 4 (.box 1), oq 6 (.mov (oi 0))] (so [om 14 0, on 15 14, ox 16 3 15, ol 17 16, ob 18 .sub (oi 9) 17, om 7 18] (.seq (.draw 13 [⟨0, om 19 0, []⟩, ⟨1, on 20 19, []⟩, ⟨2, ox 21 4 20, []⟩, ⟨3, ol 22 21, []⟩, ⟨4, ob 23 .add 22 (oi 1), []⟩, ⟨6, ox 25 2 4, []⟩, ⟨7, ol 26 25, []⟩, ⟨9, ox 28 3 4, []⟩, ⟨10, ol 29 28, []⟩, ⟨5, oe 24 (.call 77 [(.val .nsl), 23]), [ol 26 25, ol 29 28]⟩, ⟨8, oe 27 (.call 77 [24, 26]), [ol 29 28]⟩, ⟨11, oe 30 (.call 77 [27, 29]), []⟩, ⟨12, om 8 30, []⟩]) (so [om 31 8, ox 32 4 4, ol 33 32, oe 34 (.call 107 [31, 33]), oe 35 (.call 78 [(.val .nsl), 34]), om 9 35] (.seq (so [om 36 0, on 37 36, ox 38 2 37, ol 39 38, oe 40 (.call 108 [39]), om 41 9, oq 42 (.lenSl 41), om 43 2, oe 44 (.call 109 [43]), ob 45 .add 42 44, ob 46 .add 45 (oi 256), ob 47 .lss 40 46] (.cond 47 (so [oq 6 (.mov (oi 10))] .ret) .skip)) (.seq (so [om 48 0, on 49 48, ox 50 2 49, ol 51 50, om 52 7, om 53 9, oe 54 (.call 10 [51, 52, (oi 0), 53]), om 10 54] (so [om 55 10, ob 56 .neq 55 (oi 0)] (.cond 56 (so [om 57 10, om 6 57] .ret) .skip))) (.seq (so [om 58 0, on 59 58, ox 60 2 59, ol 61 60, oe 62 (.call 44 [61]), om 11 62] (so [om 63 11, ob 64 .neq 63 (oi 0)] (.cond 64 (so [om 65 11, om 6 65] .ret) .skip))) (so [om 66 0, on 67 66, ox 68 3 67, ol 69 68, om 12 69] (so [om 70 0, om 71 0, om 72 7, om 73 0, on 74 73, ox 75 4 74, ol 76 75, ob 77 .add 76 (oi 1), on 78 70, ox 79 3 78, os (.store 1 79 72), on 80 71, ox 81 4 80, os (.store 1 81 77)] (.seq (.draw 27 [⟨0, om 82 0, []⟩, ⟨1, om 83 0, []⟩, ⟨2, om 84 0, []⟩, ⟨3, om 85 0, []⟩, ⟨4, ox 86 2 4, []⟩, ⟨5, ol 87 86, []⟩, ⟨6, ox 88 3 4, []⟩, ⟨7, ol 89 88, []⟩, ⟨8, ox 90 4 4, []⟩, ⟨9, ol 91 90, []⟩, ⟨10, om 92 2, []⟩, ⟨11, on 93 82, []⟩, ⟨12, ox 94 5 93, []⟩, ⟨13, ox 95 2 94, []⟩, ⟨14, os (.store 1 95 87), [ol 89 88, ol 91 90]⟩, ⟨15, on 96 83, []⟩, ⟨16, ox 97 5 96, []⟩, ⟨17, ox 98 3 97, []⟩, ⟨18, os (.store 1 98 89), [ol 91 90]⟩, ⟨19, on 99 84, []⟩, ⟨20, ox 100 5 99, []⟩, ⟨21, ox 101 4 100, []⟩, ⟨22, os (.store 1 101 91), []⟩, ⟨23, on 102 85, []⟩, ⟨24, ox 103 5 102, []⟩, ⟨25, ox 104 5 103, []⟩, ⟨26, os (.store 1 104 92), []⟩]) (.seq (so [om 105 0, on 106 105, ox 107 2 106, ol 108 107, om 109 12, oe 110 (.call 42 [108, 109]), ob 111 .gtr 110 (oi 0)] (.cond 111 (so [om 112 0, on 113 112, ox 114 2 113, ol 115 114, om 116 12, oe 117 (.call 43 [115, 116, (oi 0)]), om 13 117] (so [om 118 13, ob 119 .neq 118 (oi 0)] (.cond 119 (so [om 120 13, om 6 120] .ret) .skip))) .skip)) R0)))))))))))
noncomputable def f95.fn : PFn := .code (slotsN 123) (f95.body f95.c0) f95.res
noncomputable def f95 (C : CW) (R0 : PC) (a0 a1 a2 : AVal) (σ : S) (Q : AVal → S → Prop) : Prop :=
Ala (aBoxV a1) σ fun t4 σ1 =>
sN a0 fun t15 =>
sF 3 t15 fun t16 =>
sL t16 σ1 fun t17 =>
sB .sub (i6 9) t17 fun t18 =>
sN a0 fun t20 =>
sF 4 t20 fun t21 =>
sL t21 (σ1.bumpT 13) fun t22 =>
sB .add t22 (i6 1) fun t23 =>
sF 2 t4 fun t25 =>
sL t25 (σ1.bumpT 13) fun t26 =>
sF 3 t4 fun t28 =>
sL t28 (σ1.bumpT 13) fun t29 =>
C 77 [.nsl, t23] (σ1.bumpT 13) fun t24 σ2 =>
Sure (SameO (vLoad1 t25 σ2) t26) <|
Sure (SameO (vLoad1 t28 σ2) t29) <|
C 77 [t24, t26] σ2 fun t27 σ3 =>
Sure (SameO (vLoad1 t28 σ3) t29) <|
C 77 [t27, t29] σ3 fun t30 σ4 =>
sF 4 t4 fun t32 =>
sL t32 σ4 fun t33 =>
C 107 [t30, t33] σ4 fun t34 σ5 =>
C 78 [.nsl, t34] σ5 fun t35 σ6 =>
sN a0 fun t37 =>
sF 2 t37 fun t38 =>
sL t38 σ6 fun t39 =>
C 108 [t39] σ6 fun t40 σ7 =>
Som (vLenSl t35) fun t42 =>
C 109 [a2] σ7 fun t44 σ8 =>
sB .add t42 t44 fun t45 =>
sB .add t45 (i6 256) fun t46 =>
sB .lss t40 t46 fun t47 =>
WIf t47 (
Ret [some (i6 10)] σ8 Q) (
sN a0 fun t49 =>
sF 2 t49 fun t50 =>
sL t50 σ8 fun t51 =>
C 10 [t51, t18, (i6 0), t35] σ8 fun t54 σ9 =>
sB .neq t54 (i6 0) fun t56 =>
WIf t56 (
Ret [some t54] σ9 Q) (
sN a0 fun t59 =>
sF 2 t59 fun t60 =>
sL t60 σ9 fun t61 =>
C 44 [t61] σ9 fun t62 σ10 =>
sB .neq t62 (i6 0) fun t64 =>
WIf t64 (
Ret [some t62] σ10 Q) (
sN a0 fun t67 =>
sF 3 t67 fun t68 =>
sL t68 σ10 fun t69 =>
sN a0 fun t74 =>
sF 4 t74 fun t75 =>
sL t75 σ10 fun t76 =>
sB .add t76 (i6 1) fun t77 =>
sN a0 fun t78 =>
sF 3 t78 fun t79 =>
sS 1 t79 t18 σ10 fun _ σ11 =>
sN a0 fun t80 =>
sF 4 t80 fun t81 =>
sS 1 t81 t77 σ11 fun _ σ12 =>
sF 2 t4 fun t86 =>
sL t86 (σ12.bumpT 27) fun t87 =>
sF 3 t4 fun t88 =>
sL t88 (σ12.bumpT 27) fun t89 =>
sF 4 t4 fun t90 =>
sL t90 (σ12.bumpT 27) fun t91 =>
sN a0 fun t93 =>
sF 5 t93 fun t94 =>
sF 2 t94 fun t95 =>
sS 1 t95 t87 (σ12.bumpT 27) fun _ σ13 =>
Sure (SameO (vLoad1 t88 σ13) t89) <|
Sure (SameO (vLoad1 t90 σ13) t91) <|
sN a0 fun t96 =>
sF 5 t96 fun t97 =>
sF 3 t97 fun t98 =>
sS 1 t98 t89 σ13 fun _ σ14 =>
Sure (SameO (vLoad1 t90 σ14) t91) <|
sN a0 fun t99 =>
sF 5 t99 fun t100 =>
sF 4 t100 fun t101 =>
sS 1 t101 t91 σ14 fun _ σ15 =>
sN a0 fun t102 =>
sF 5 t102 fun t103 =>
sF 5 t103 fun t104 =>
sS 1 t104 a2 σ15 fun _ σ16 =>
sN a0 fun t106 =>
sF 2 t106 fun t107 =>
sL t107 σ16 fun t108 =>
C 42 [t108, t69] σ16 fun t110 σ17 =>
sB .gtr t110 (i6 0) fun t111 =>
WIf t111 (
sN a0 fun t113 =>
sF 2 t113 fun t114 =>
sL t114 σ17 fun t115 =>
C 43 [t115, t69, (i6 0)] σ17 fun t117 σ18 =>
sB .neq t117 (i6 0) fun t119 =>
WIf t119 (
Ret [some t117] σ18 Q) (
wC C R0 (((((((((((((((((((((((((((((E0.q 0 a0 1 a1 2 a2 4 t4).q 6 (i6 0) 14 a0 15 t15 16 t16).q 17 t17 18 t18 7 t18 19 a0).q 20 t20 21 t21 22 t22 23 t23).q 25 t25 26 t26 28 t28 29 t29).q 24 t24 27 t27 30 t30 8 t30).q 31 t30 32 t32 33 t33 34 t34).q 35 t35 9 t35 36 a0 37 t37).q 38 t38 39 t39 40 t40 41 t35).q 42 t42 43 a2 44 t44 45 t45).q 46 t46 47 t47 48 a0 49 t49).q 50 t50 51 t51 52 t18 53 t35).q 54 t54 10 t54 55 t54 56 t56).q 58 a0 59 t59 60 t60 61 t61).q 62 t62 11 t62 63 t62 64 t64).q 66 a0 67 t67 68 t68 69 t69).q 12 t69 70 a0 71 a0 72 t18).q 73 a0 74 t74 75 t75 76 t76).q 77 t77 78 t78 79 t79 80 t80).q 81 t81 82 a0 83 a0 84 a0).q 85 a0 86 t86 87 t87 88 t88).q 89 t89 90 t90 91 t91 92 a2).q 93 t93 94 t94 95 t95 96 t96).q 97 t97 98 t98 99 t99 100 t100).q 101 t101 102 t102 103 t103 104 t104).q 105 a0 106 t106 107 t107 108 t108).q 109 t69 110 t110 111 t111 112 a0).q 113 t113 114 t114 115 t115 116 t69).q 117 t117 13 t117 118 t117 119 t119) σ18 (retK f95.res Q))) (
wC C R0 (((((((((((((((((((((((((((((E0.q 0 a0 1 a1 2 a2 4 t4).q 6 (i6 0) 14 a0 15 t15 16 t16).q 17 t17 18 t18 7 t18 19 a0).q 20 t20 21 t21 22 t22 23 t23).q 25 t25 26 t26 28 t28 29 t29).q 24 t24 27 t27 30 t30 8 t30).q 31 t30 32 t32 33 t33 34 t34).q 35 t35 9 t35 36 a0 37 t37).q 38 t38 39 t39 40 t40 41 t35).q 42 t42 43 a2 44 t44 45 t45).q 46 t46 47 t47 48 a0 49 t49).q 50 t50 51 t51 52 t18 53 t35).q 54 t54 10 t54 55 t54 56 t56).q 58 a0 59 t59 60 t60 61 t61).q 62 t62 11 t62 63 t62 64 t64).q 66 a0 67 t67 68 t68 69 t69).q 12 t69 70 a0 71 a0 72 t18).q 73 a0 74 t74 75 t75 76 t76).q 77 t77 78 t78 79 t79 80 t80).q 81 t81 82 a0 83 a0 84 a0).q 85 a0 86 t86 87 t87 88 t88).q 89 t89 90 t90 91 t91 92 a2).q 93 t93 94 t94 95 t95 96 t96).q 97 t97 98 t98 99 t99 100 t100).q 101 t101 102 t102 103 t103 104 t104).q 105 a0 106 t106 107 t107 108 t108).set 109 t69).set 110 t110).set 111 t111) σ17 (retK f95.res Q)))))
theorem f95_eq {R0 : PC} {a0 a1 a2 : AVal} : f95 C R0 a0 a1 a2 σ Q = wC C (f95.body R0) (((E0.set 0 a0).set 1 a1).set 2 a2) σ (retK f95.res Q) := by kernel_rfl
theorem f95_wf (ht : tab 95 = some f95.fn) {a0 a1 a2 : AVal} (h : f95 (WF tab) f95.c0 a0 a1 a2 σ Q) : WF tab 95 [a0, a1, a2] σ Q := wf_of ht (by kernel_rfl) f95_eq h
noncomputable def f96.res : List PRes := [.tmp (sn 2)]
noncomputable def f96.body : PC := (so [oa 1 (.box 0), oq 2 (.mov (.val (.str [])))] (.seq (.draw 8 [⟨0, ox 3 0 1, []⟩, ⟨1, ol 4 3, []⟩, ⟨4, ox 7 1 1, []⟩, ⟨5, ol 8 7, []⟩, ⟨2, oe 5 (.call 77 [(.val .nsl), 4]), [ol 8 7]⟩, ⟨3, oq 6 (.bytesStr 5), []⟩, ⟨6, ob 9 .add 6 8, []⟩, ⟨7, om 2 9, []⟩]) .ret))
noncomputable def f96.fn : PFn := .code (slotsN 10) f96.body f96.res
noncomputable def f96 (C : CW) (a0 : AVal) (σ : S) (Q : AVal → S → Prop) : Prop :=
Ala (aBoxV a0) σ fun t1 σ1 =>
sF 0 t1 fun t3 =>
sL t3 (σ1.bumpT 8) fun t4 =>
sF 1 t1 fun t7 =>
sL t7 (σ1.bumpT 8) fun t8 =>
C 77 [.nsl, t4] (σ1.bumpT 8) fun t5 σ2 =>
Sure (SameO (vLoad1 t7 σ2) t8) <|
Som (vBytesStr t5 σ2) fun t6 =>
sB .add t6 t8 fun t9 =>
Ret [some t9] σ2 Q
theorem f96_eq {a0 : AVal} : f96 C a0 σ Q = wC C f96.body (E0.set 0 a0) σ (retK f96.res Q) := by kernel_rfl
theorem f96_wf (ht : tab 96 = some f96.fn) {a0 : AVal} (h : f96 (WF tab) a0 σ Q) : WF tab 96 [a0] σ Q := wf_of ht (by kernel_rfl) f96_eq h
noncomputable def f97.res : List PRes := [.tmp (sn 2)]
noncomputable def f97.body : PC := (so [oa 1 (.box 0), oq 2 (.mov oF)] (so [ox 3 1 1, ol 4 3, ob 5 .eql 4 (oi 0), om 2 5] .ret))
noncomputable def f97.fn : PFn := .code (slotsN 6) f97.body f97.res
noncomputable def f97 (C : CW) (a0 : AVal) (σ : S) (Q : AVal → S → Prop) : Prop :=
Ala (aBoxV a0) σ fun t1 σ1 =>
sF 1 t1 fun t3 =>
sL t3 σ1 fun t4 =>
sB .eql t4 (i6 0) fun t5 =>
Ret [some t5] σ1 Q
theorem f97_eq {a0 : AVal} : f97 C a0 σ Q = wC C f97.body (E0.set 0 a0) σ (retK f97.res Q) := by kernel_rfl
theorem f97_wf (ht : tab 97 = some f97.fn) {a0 : AVal} (h : f97 (WF tab) a0 σ Q) : WF tab 97 [a0] σ Q := wf_of ht (by kernel_rfl) f97_eq h
noncomputable def f98.res : List PRes := [.tmp (sn 2)]
noncomputable def f98.body : PC := (so [oq 2 (.mov (oi 0))] (.seq (so [om 3 0, oq 4 (.bin .eql .ptr 3 (.val .nptr))] (.cond 4 (so [oq 2 (.mov (oi 0))] .ret) .skip)) (so [om 5 0, on 6 5, ox 7 3 6, ol 8 7, om 2 8] .ret)))
noncomputable def f98.fn : PFn := .code (slotsN 9) f98.body f98.res
noncomputable def f98 (C : CW) (a0 : AVal) (σ : S) (Q : AVal → S → Prop) : Prop :=
Som (binA .eql .ptr a0 .nptr) fun t4 =>
WIf t4 (
Ret [some (i6 0)] σ Q) (
sN a0 fun t6 =>
sF 3 t6 fun t7 =>
sL t7 σ fun t8 =>
Ret [some t8] σ Q)
theorem f98_eq {a0 : AVal} : f98 C a0 σ Q = wC C f98.body (E0.set 0 a0) σ (retK f98.res Q) := by kernel_rfl
theorem f98_wf (ht : tab 98 = some f98.fn) {a0 : AVal} (h : f98 (WF tab) a0 σ Q) : WF tab 98 [a0] σ Q := wf_of ht (by kernel_rfl) f98_eq h
noncomputable def f99.c1 : PC := (so [om 18 0, om 19 5, oq 20 (.toInt .u8 19), oa 21 (.bslice 1 [(.int .u8 0)] 1 [(0, 1, 20)]), oe 22 (.append 1 1 18 21), om 4 22] .ret)
noncomputable def f99.c0 : PC := (.seq (so [om 8 5, ob 9 .geq 8 (.val (.int .u64 128))] (.cond 9 .skip (.exit 0))) (.block 1 (so [om 10 0, om 11 5, oq 12 (.toInt .u8 11), ob 13 .or 12 (.val (.int .u8 128)), oa 14 (.bslice 1 [(.int .u8 0)] 1 [(0, 1, 13)]), oe 15 (.append 1 1 10 14), om 0 15] (.ops [om 16 5, ob 17 .shr 16 (.val (.int .u64 7)), om 5 17]))))
noncomputable def f99.res : List PRes := [.tmp (sn 4)]
noncomputable def f99.p1 (C : CW) (Q : AVal → S → Prop) (E : En) (σ : S) : Prop :=
Som (vToInt .u8 (E 5)) fun t20 =>
Ala (aSliceV 1 [(.int .u8 0)] 1 [(0, 1, t20)]) σ fun t21 σ1 =>
Eff (appendA 1 1 (E 0) t21 σ1) fun t22 σ2 =>
Ret [some t22] σ2 Q
theorem f99.p1_eq : f99.p1 C Q E σ = wC C f99.c1 E σ (retK f99.res Q) := by kernel_rfl
abbrev f99.J1 (C : CW) (Q : AVal → S → Prop) (E : En) (σ : S) : Prop := wC C f99.c1 E σ (retK f99.res Q)
theorem f99.p1_of (h : f99.p1 C Q E σ) : f99.J1 C Q E σ := Eq.mp f99.p1_eq h
noncomputable def f99.p0 (C : CW) (Q : AVal → S → Prop) (R0 R1 : PC) (E : En) (σ : S) : Prop :=
Som (binA .geq .num (E 5) (.int .u64 128)) fun t9 =>
WIf t9 (
Som (vToInt .u8 (E 5)) fun t12 =>
Som (binA .or .num t12 (.int .u8 128)) fun t13 =>
Ala (aSliceV 1 [(.int .u8 0)] 1 [(0, 1, t13)]) σ fun t14 σ1 =>
Eff (appendA 1 1 (E 0) t14 σ1) fun t15 σ2 =>
Som (binA .shr .num (E 5) (.int .u64 7)) fun t17 =>
wC C (.loop R0) ((((((((((((E.set 8 (E 5)).set 9 t9).set 10 (E 0)).set 11 (E 5)).set 12 t12).set 13 t13).set 14 t14).set 15 t15).set 0 t15).set 16 (E 5)).set 17 t17).set 5 t17) σ2 (blockK 0 (seqK (wC C R1) (retK f99.res Q)))) (
wC C R1 ((E.set 8 (E 5)).set 9 t9) σ (retK f99.res Q))
theorem f99.p0_eq {R0 R1 : PC} : f99.p0 C Q R0 R1 E σ = wC C f99.c0 E σ (loopK C R0 (blockK 0 (seqK (wC C R1) (retK f99.res Q)))) := by kernel_rfl
abbrev f99.L0 (C : CW) (Q : AVal → S → Prop) (E : En) (σ : S) : Prop := wC C (.loop f99.c0) E σ (blockK 0 (seqK (wC C f99.c1) (retK f99.res Q)))
theorem f99.p0_of (h : f99.p0 (WF tab) Q f99.c0 f99.c1 E σ) : f99.L0 (WF tab) Q E σ := wLoop_step (Eq.mp f99.p0_eq h)
noncomputable def f99.body (R0 R1 : PC) : PC := (so [oq 4 (.mov (.val .nsl))] (so [om 6 1, oe 7 (.call 110 [6]), om 5 7] (.seq (.block 0 (.loop R0)) R1)))
noncomputable def f99.fn : PFn := .code (slotsN 23) (f99.body f99.c0 f99.c1) f99.res
noncomputable def f99 (C : CW) (R0 R1 : PC) (a0 a1 : AVal) (σ : S) (Q : AVal → S → Prop) : Prop :=
C 110 [a1] σ fun t7 σ1 =>
wC C (.loop R0) ((((((E0.set 0 a0).set 1 a1).set 4 .nsl).set 6 a1).set 7 t7).set 5 t7) σ1 (blockK 0 (seqK (wC C R1) (retK f99.res Q)))
theorem f99_eq {R0 R1 : PC} {a0 a1 : AVal} : f99 C R0 R1 a0 a1 σ Q = wC C (f99.body R0 R1) ((E0.set 0 a0).set 1 a1) σ (retK f99.res Q) := by kernel_rfl
theorem f99_wf (ht : tab 99 = some f99.fn) {a0 a1 : AVal} (h : f99 (WF tab) f99.c0 f99.c1 a0 a1 σ Q) : WF tab 99 [a0, a1] σ Q := wf_of ht (by kernel_rfl) f99_eq h
noncomputable def f100.res : List PRes := [.tmp (sn 4)]
noncomputable def f100.body : PC := (so [oq 4 (.mov (.val .nsl))] (so [om 6 0, oq 7 (.lenSl 6), om 8 1, ob 9 .add 7 8, oa 10 (.mkslice 1 1 [(.int .u8 0)] (oi 0) 9), om 5 10] (so [om 11 5, om 12 0, oe 13 (.append 1 1 11 12), om 4 13] .ret)))
noncomputable def f100.fn : PFn := .code (slotsN 14) f100.body f100.res
noncomputable def f100 (C : CW) (a0 a1 : AVal) (σ : S) (Q : AVal → S → Prop) : Prop :=
Som (vLenSl a0) fun t7 =>
Som (binA .add .num t7 a1) fun t9 =>
Ala (aMakeV 1 1 [(.int .u8 0)] (.int .i64 0) t9) σ fun t10 σ1 =>
Eff (appendA 1 1 t10 a0 σ1) fun t13 σ2 =>
Ret [some t13] σ2 Q
theorem f100_eq {a0 a1 : AVal} : f100 C a0 a1 σ Q = wC C f100.body ((E0.set 0 a0).set 1 a1) σ (retK f100.res Q) := by kernel_rfl
theorem f100_wf (ht : tab 100 = some f100.fn) {a0 a1 : AVal} (h : f100 (WF tab) a0 a1 σ Q) : WF tab 100 [a0, a1] σ Q := wf_of ht (by kernel_rfl) f100_eq h
noncomputable def f101.res : List PRes := [.tmp (sn 2)]
noncomputable def f101.body : PC := (so [oq 2 (.mov (.val .nsl))] (so [om 3 0, oq 4 (.toInt .u8 3), om 5 0, ob 6 .shr 5 (.val (.int .u64 8)), oq 7 (.toInt .u8 6), om 8 0, ob 9 .shr 8 (.val (.int .u64 16)), oq 10 (.toInt .u8 9), om 11 0, ob 12 .shr 11 (.val (.int .u64 24)), oq 13 (.toInt .u8 12), oa 14 (.bslice 1 [(.int .u8 0)] 4 [(0, 1, 4), (1, 1, 7), (2, 1, 10), (3, 1, 13)]), om 2 14] .ret))
noncomputable def f101.fn : PFn := .code (slotsN 15) f101.body f101.res
noncomputable def f101 (C : CW) (a0 : AVal) (σ : S) (Q : AVal → S → Prop) : Prop :=
Som (vToInt .u8 a0) fun t4 =>
Som (binA .shr .num a0 (.int .u64 8)) fun t6 =>
Som (vToInt .u8 t6) fun t7 =>
Som (binA .shr .num a0 (.int .u64 16)) fun t9 =>
Som (vToInt .u8 t9) fun t10 =>
Som (binA .shr .num a0 (.int .u64 24)) fun t12 =>
Som (vToInt .u8 t12) fun t13 =>
Ala (aSliceV 1 [(.int .u8 0)] 4 [(0, 1, t4), (1, 1, t7), (2, 1, t10), (3, 1, t13)]) σ fun t14 σ1 =>
Ret [some t14] σ1 Q
theorem f101_eq {a0 : AVal} : f101 C a0 σ Q = wC C f101.body (E0.set 0 a0) σ (retK f101.res Q) := by kernel_rfl
theorem f101_wf (ht : tab 101 = some f101.fn) {a0 : AVal} (h : f101 (WF tab) a0 σ Q) : WF tab 101 [a0] σ Q := wf_of ht (by kernel_rfl) f101_eq h
noncomputable def f102.c0 : PC := (so [ob 9 .lss 8 7] (.seq (.cond 9 .skip (.exit 0)) (.seq (.block 1 (so [oq 10 (.ixSl 1 6 8), ol 11 10, om 5 11] (.ops [om 12 3, om 13 5, oe 14 (.call 111 [12, 13]), om 3 14]))) (.ops [ob 15 .add 8 (oi 1), om 8 15]))))
noncomputable def f102.res : List PRes := [.tmp (sn 2)]
noncomputable def f102.p0 (C : CW) (Q : AVal → S → Prop) (R0 : PC) (E : En) (σ : S) : Prop :=
Som (binA .lss .num (E 8) (E 7)) fun t9 =>
WIf t9 (
Som (vIxSl 1 (E 6) (E 8)) fun t10 =>
Som (vLoad1 t10 σ) fun t11 =>
C 111 [(E 3), t11] σ fun t14 σ1 =>
Som (binA .add .num (E 8) (.int .i64 1)) fun t15 =>
wC C (.loop R0) ((((((((((E.set 9 t9).set 10 t10).set 11 t11).set 5 t11).set 12 (E 3)).set 13 t11).set 14 t14).set 3 t14).set 15 t15).set 8 t15) σ1 (blockK 0 (seqK (wC C (so [om 16 3, om 2 16] .ret)) (retK f102.res Q)))) (
Ret [some (E 3)] σ Q)
theorem f102.p0_eq {R0 : PC} : f102.p0 C Q R0 E σ = wC C f102.c0 E σ (loopK C R0 (blockK 0 (seqK (wC C (so [om 16 3, om 2 16] .ret)) (retK f102.res Q)))) := by kernel_rfl
abbrev f102.L0 (C : CW) (Q : AVal → S → Prop) (E : En) (σ : S) : Prop := wC C (.loop f102.c0) E σ (blockK 0 (seqK (wC C (so [om 16 3, om 2 16] .ret)) (retK f102.res Q)))
theorem f102.p0_of (h : f102.p0 (WF tab) Q f102.c0 E σ) : f102.L0 (WF tab) Q E σ := wLoop_step (Eq.mp f102.p0_eq h)
noncomputable def f102.body (R0 : PC) : PC := (so [oq 2 (.mov (.val (.int .u32 0)))] (so [oq 3 (.mov (.val (.int .u32 0)))] (.seq (so [om 6 0, oq 7 (.lenSl 6), oq 8 (.mov (oi 0))] (.block 0 (.loop R0))) (so [om 16 3, om 2 16] .ret))))
noncomputable def f102.fn : PFn := .code (slotsN 17) (f102.body f102.c0) f102.res
noncomputable def f102 (C : CW) (R0 : PC) (a0 : AVal) (σ : S) (Q : AVal → S → Prop) : Prop :=
Som (vLenSl a0) fun t7 =>
wC C (.loop R0) ((((((E0.set 0 a0).set 2 (.int .u32 0)).set 3 (.int .u32 0)).set 6 a0).set 7 t7).set 8 (.int .i64 0)) σ (blockK 0 (seqK (wC C (so [om 16 3, om 2 16] .ret)) (retK f102.res Q)))
theorem f102_eq {R0 : PC} {a0 : AVal} : f102 C R0 a0 σ Q = wC C (f102.body R0) (E0.set 0 a0) σ (retK f102.res Q) := by kernel_rfl
theorem f102_wf (ht : tab 102 = some f102.fn) {a0 : AVal} (h : f102 (WF tab) f102.c0 a0 σ Q) : WF tab 102 [a0] σ Q := wf_of ht (by kernel_rfl) f102_eq h
noncomputable def f103.res : List PRes := [.tmp (sn 2)]
noncomputable def f103.body : PC := (so [oq 2 (.mov (.val (.int .u32 0)))] (.seq (.draw 23 [⟨0, om 3 0, []⟩, ⟨1, oq 4 (.ixSl 1 3 (oi 0)), []⟩, ⟨2, ol 5 4, []⟩, ⟨3, oq 6 (.toInt .u32 5), []⟩, ⟨4, om 7 0, []⟩, ⟨5, oq 8 (.ixSl 1 7 (oi 1)), []⟩, ⟨6, ol 9 8, []⟩, ⟨7, oq 10 (.toInt .u32 9), []⟩, ⟨8, ob 11 .shl 10 (.val (.int .u64 8)), []⟩, ⟨9, ob 12 .or 6 11, []⟩, ⟨10, om 13 0, []⟩, ⟨11, oq 14 (.ixSl 1 13 (oi 2)), []⟩, ⟨12, ol 15 14, []⟩, ⟨13, oq 16 (.toInt .u32 15), []⟩, ⟨14, ob 17 .shl 16 (.val (.int .u64 16)), []⟩, ⟨15, ob 18 .or 12 17, []⟩, ⟨16, om 19 0, []⟩, ⟨17, oq 20 (.ixSl 1 19 (oi 3)), []⟩, ⟨18, ol 21 20, []⟩, ⟨19, oq 22 (.toInt .u32 21), []⟩, ⟨20, ob 23 .shl 22 (.val (.int .u64 24)), []⟩, ⟨21, ob 24 .or 18 23, []⟩, ⟨22, om 2 24, []⟩]) .ret))
noncomputable def f103.fn : PFn := .code (slotsN 25) f103.body f103.res
noncomputable def f103 (C : CW) (a0 : AVal) (σ : S) (Q : AVal → S → Prop) : Prop :=
Som (vIxSl 1 a0 (.int .i64 0)) fun t4 =>
Som (vLoad1 t4 (σ.bumpT 23)) fun t5 =>
Som (vToInt .u32 t5) fun t6 =>
Som (vIxSl 1 a0 (.int .i64 1)) fun t8 =>
Som (vLoad1 t8 (σ.bumpT 23)) fun t9 =>
Som (vToInt .u32 t9) fun t10 =>
Som (binA .shl .num t10 (.int .u64 8)) fun t11 =>
Som (binA .or .num t6 t11) fun t12 =>
Som (vIxSl 1 a0 (.int .i64 2)) fun t14 =>
Som (vLoad1 t14 (σ.bumpT 23)) fun t15 =>
Som (vToInt .u32 t15) fun t16 =>
Som (binA .shl .num t16 (.int .u64 16)) fun t17 =>
Som (binA .or .num t12 t17) fun t18 =>
Som (vIxSl 1 a0 (.int .i64 3)) fun t20 =>
Som (vLoad1 t20 (σ.bumpT 23)) fun t21 =>
Som (vToInt .u32 t21) fun t22 =>
Som (binA .shl .num t22 (.int .u64 24)) fun t23 =>
Som (binA .or .num t18 t23) fun t24 =>
Ret [some t24] (σ.bumpT 23) Q
theorem f103_eq {a0 : AVal} : f103 C a0 σ Q = wC C f103.body (E0.set 0 a0) σ (retK f103.res Q) := by kernel_rfl
theorem f103_wf (ht : tab 103 = some f103.fn) {a0 : AVal} (h : f103 (WF tab) a0 σ Q) : WF tab 103 [a0] σ Q := wf_of ht (by kernel_rfl) f103_eq h
noncomputable def f104.c0 : PC := (.seq (.block 1 (.seq (.seq (.draw 10 [⟨0, om 10 0, []⟩, ⟨1, on 11 10, []⟩, ⟨2, ox 12 3 11, []⟩, ⟨3, ol 13 12, []⟩, ⟨4, om 14 0, []⟩, ⟨5, on 15 14, []⟩, ⟨6, ox 16 2 15, []⟩, ⟨7, ol 17 16, []⟩, ⟨8, oq 18 (.lenSl 17), []⟩, ⟨9, ob 19 .geq 13 18, []⟩]) (.cond 19 (so [om 20 0, om 21 1, oe 22 (.call 106 [20, 21, (oi 3)])] (so [oq 4 (.mov (oi 0))] .ret)) .skip)) (.seq (.draw 11 [⟨0, om 23 0, []⟩, ⟨1, on 24 23, []⟩, ⟨2, ox 25 2 24, []⟩, ⟨3, ol 26 25, []⟩, ⟨4, om 27 0, []⟩, ⟨5, on 28 27, []⟩, ⟨6, ox 29 3 28, []⟩, ⟨7, ol 30 29, []⟩, ⟨8, oq 31 (.ixSl 1 26 30), []⟩, ⟨9, ol 32 31, []⟩, ⟨10, om 7 32, []⟩]) (.seq (so [om 33 6, ob 34 .eql 33 (oi 9), om 35 34, oqg 36 35 true (.mov 7), oqg 37 35 true (.bin .gtr .num 36 (.val (.int .u8 1))), oq 38 (.pick 35 37 oF)] (.cond 38 (so [om 39 0, om 40 1, oe 41 (.call 106 [39, 40, (oi 4)])] (so [oq 4 (.mov (oi 0))] .ret)) .skip)) (so [om 42 0, on 43 42, ox 44 3 43, ol 45 44, ob 46 .add 45 (oi 1), on 47 42, ox 48 3 47, os (.store 1 48 46)] (so [om 49 5, om 50 7, ob 51 .and 50 (.val (.int .u8 127)), oq 52 (.toInt .u64 51), om 53 6, ob 54 .mul (oi 7) 53, oq 55 (.toInt .u64 54), ob 56 .shl 52 55, ob 57 .or 49 56, om 5 57] (.seq (so [om 58 7, ob 59 .geq 58 (.val (.int .u8 128))] (.cond 59 (.exit 1) .skip)) (.seq (so [om 60 7, ob 61 .eql 60 (.val (.int .u8 0)), om 62 61, oqg 63 62 true (.mov 6), oqg 64 62 true (.bin .gtr .num 63 (oi 0)), oq 65 (.pick 62 64 oF)] (.cond 65 (so [om 66 0, om 67 1, oe 68 (.call 106 [66, 67, (oi 4)])] (so [oq 4 (.mov (oi 0))] .ret)) .skip)) (so [om 69 5, oe 70 (.call 112 [69]), om 4 70] .ret))))))))) (.ops [om 8 6, ob 9 .add 8 (oi 1), om 6 9]))
noncomputable def f104.res : List PRes := [.tmp (sn 4)]
noncomputable def f104.p0 (C : CW) (Q : AVal → S → Prop) (R0 : PC) (E : En) (σ : S) : Prop :=
sN (E 0) fun t11 =>
sF 3 t11 fun t12 =>
sL t12 (σ.bumpT 10) fun t13 =>
sN (E 0) fun t15 =>
sF 2 t15 fun t16 =>
sL t16 (σ.bumpT 10) fun t17 =>
Som (vLenSl t17) fun t18 =>
sB .geq t13 t18 fun t19 =>
WIf t19 (
C 106 [(E 0), (E 1), (i6 3)] (σ.bumpT 10) fun t22 σ1 =>
Ret [some (i6 0)] σ1 Q) (
sN (E 0) fun t24 =>
sF 2 t24 fun t25 =>
sL t25 ((σ.bumpT 10).bumpT 11) fun t26 =>
sN (E 0) fun t28 =>
sF 3 t28 fun t29 =>
sL t29 ((σ.bumpT 10).bumpT 11) fun t30 =>
Som (vIxSl 1 t26 t30) fun t31 =>
sL t31 ((σ.bumpT 10).bumpT 11) fun t32 =>
sB .eql (E 6) (i6 9) fun t34 =>
sT t34 (some t32) fun t36 =>
sT t34 (binA .gtr .num t36 (.int .u8 1)) fun t37 =>
sP t34 t37 (.bool false) fun t38 =>
WIf t38 (
C 106 [(E 0), (E 1), (i6 4)] ((σ.bumpT 10).bumpT 11) fun t41 σ1 =>
Ret [some (i6 0)] σ1 Q) (
sN (E 0) fun t43 =>
sF 3 t43 fun t44 =>
sL t44 ((σ.bumpT 10).bumpT 11) fun t45 =>
sB .add t45 (i6 1) fun t46 =>
sN (E 0) fun t47 =>
sF 3 t47 fun t48 =>
sS 1 t48 t46 ((σ.bumpT 10).bumpT 11) fun _ σ1 =>
sB .and t32 (.int .u8 127) fun t51 =>
Som (vToInt .u64 t51) fun t52 =>
sB .mul (i6 7) (E 6) fun t54 =>
Som (vToInt .u64 t54) fun t55 =>
sB .shl t52 t55 fun t56 =>
sB .or (E 5) t56 fun t57 =>
sB .geq t32 (.int .u8 128) fun t59 =>
WIf t59 (
sB .add (E 6) (i6 1) fun t9 =>
wC C (.loop R0) (((((((((((((E.q 10 (E 0) 11 t11 12 t12 13 t13).q 14 (E 0) 15 t15 16 t16 17 t17).q 18 t18 19 t19 23 (E 0) 24 t24).q 25 t25 26 t26 27 (E 0) 28 t28).q 29 t29 30 t30 31 t31 32 t32).q 7 t32 33 (E 6) 34 t34 35 t34).q 36 t36 37 t37 38 t38 42 (E 0)).q 43 t43 44 t44 45 t45 46 t46).q 47 t47 48 t48 49 (E 5) 50 t32).q 51 t51 52 t52 53 (E 6) 54 t54).q 55 t55 56 t56 57 t57 5 t57).q 58 t32 59 t59 8 (E 6) 9 t9).set 6 t9) σ1 (blockK 0 (retK f104.res Q))) (
sB .eql t32 (.int .u8 0) fun t61 =>
sT t61 (some (E 6)) fun t63 =>
sT t61 (binA .gtr .num t63 (i6 0)) fun t64 =>
sP t61 t64 (.bool false) fun t65 =>
WIf t65 (
C 106 [(E 0), (E 1), (i6 4)] σ1 fun t68 σ2 =>
Ret [some (i6 0)] σ2 Q) (
C 112 [t57] σ1 fun t70 σ2 =>
Ret [some t70] σ2 Q))))
theorem f104.p0_eq {R0 : PC} : f104.p0 C Q R0 E σ = wC C f104.c0 E σ (loopK C R0 (blockK 0 (retK f104.res Q))) := by kernel_rfl
abbrev f104.L0 (C : CW) (Q : AVal → S → Prop) (E : En) (σ : S) : Prop := wC C (.loop f104.c0) E σ (blockK 0 (retK f104.res Q))
theorem f104.p0_of (h : f104.p0 (WF tab) Q f104.c0 E σ) : f104.L0 (WF tab) Q E σ := wLoop_step (Eq.mp f104.p0_eq h)
noncomputable def f104.body (R0 : PC) : PC := (so [oq 4 (.mov (oi 0))] (so [oq 5 (.mov (.val (.int .u64 0)))] (so [oq 6 (.mov (oi 0))] (.block 0 (.loop R0)))))
noncomputable def f104.fn : PFn := .code (slotsN 71) (f104.body f104.c0) f104.res
noncomputable def f104 (C : CW) (R0 : PC) (a0 a1 : AVal) (σ : S) (Q : AVal → S → Prop) : Prop :=
wC C (.loop R0) ((E0.q 0 a0 1 a1 4 (i6 0) 5 (.int .u64 0)).set 6 (i6 0)) σ (blockK 0 (retK f104.res Q))
theorem f104_eq {R0 : PC} {a0 a1 : AVal} : f104 C R0 a0 a1 σ Q = wC C (f104.body R0) ((E0.set 0 a0).set 1 a1) σ (retK f104.res Q) := by kernel_rfl
theorem f104_wf (ht : tab 104 = some f104.fn) {a0 a1 : AVal} (h : f104 (WF tab) f104.c0 a0 a1 σ Q) : WF tab 104 [a0, a1] σ Q := wf_of ht (by kernel_rfl) f104_eq h
noncomputable def f105.res : List PRes := [.tmp (sn 6)]
noncomputable def f105.body : PC := (so [oq 6 (.mov (oi 0))] (so [om 8 0, om 9 1, oe 10 (.call 104 [8, 9]), om 7 10] (.seq (so [om 11 0, on 12 11, ox 13 0 12, oq 14 (.loadN 2 13), oe 15 (.call 97 [14]), om 16 15, oqg 17 16 true (.mov 7), oqg 18 16 true (.bin .lss .num 17 (oi 0)), oqg 19 16 true (.mov 18), oqg 20 19 false (.mov 7), oqg 21 19 false (.mov 2), oqg 22 19 false (.bin .gtr .num 20 21), oqg 23 16 true (.pick 19 oT 22), oq 24 (.pick 16 23 oF)] (.cond 24 (so [om 25 0, om 26 1, oe 27 (.call 106 [25, 26, (oi 2)])] (so [oq 6 (.mov (oi 0))] .ret)) .skip)) (so [om 28 7, om 6 28] .ret))))
noncomputable def f105.fn : PFn := .code (slotsN 29) f105.body f105.res
noncomputable def f105 (C : CW) (a0 a1 a2 : AVal) (σ : S) (Q : AVal → S → Prop) : Prop :=
C 104 [a0, a1] σ fun t10 σ1 =>
sN a0 fun t12 =>
sF 0 t12 fun t13 =>
Som (vLoadN 2 t13 σ1) fun t14 =>
C 97 [t14] σ1 fun t15 σ2 =>
sT t15 (some t10) fun t17 =>
sT t15 (binA .lss .num t17 (i6 0)) fun t18 =>
sT t15 (some t18) fun t19 =>
sU t19 (some t10) fun t20 =>
sU t19 (some a2) fun t21 =>
sU t19 (binA .gtr .num t20 t21) fun t22 =>
sT t15 (vPick t19 (.bool true) t22) fun t23 =>
sP t15 t23 (.bool false) fun t24 =>
WIf t24 (
C 106 [a0, a1, (i6 2)] σ2 fun t27 σ3 =>
Ret [some (i6 0)] σ3 Q) (
Ret [some t10] σ2 Q)
theorem f105_eq {a0 a1 a2 : AVal} : f105 C a0 a1 a2 σ Q = wC C f105.body (((E0.set 0 a0).set 1 a1).set 2 a2) σ (retK f105.res Q) := by kernel_rfl
theorem f105_wf (ht : tab 105 = some f105.fn) {a0 a1 a2 : AVal} (h : f105 (WF tab) a0 a1 a2 σ Q) : WF tab 105 [a0, a1, a2] σ Q := wf_of ht (by kernel_rfl) f105_eq h
noncomputable def f106.res : List PRes := []
noncomputable def f106.body : PC := (so [om 6 0, om 7 1, om 8 2, oq 9 (.build [(i6 0), (i6 0)] [(0, 1, 7), (1, 1, 8)]), on 10 6, ox 11 0 10, os (.store 2 11 9)] (.ops [om 12 0, om 13 1, on 14 12, ox 15 3 14, os (.store 1 15 13)]))
noncomputable def f106.fn : PFn := .code (slotsN 16) f106.body f106.res
noncomputable def f106 (C : CW) (a0 a1 a2 : AVal) (σ : S) (Q : AVal → S → Prop) : Prop :=
Som (vBuild [(i6 0), (i6 0)] [(0, 1, a1), (1, 1, a2)]) fun t9 =>
sN a0 fun t10 =>
sF 0 t10 fun t11 =>
sS 2 t11 t9 σ fun _ σ1 =>
sN a0 fun t14 =>
sF 3 t14 fun t15 =>
sS 1 t15 a1 σ1 fun _ σ2 =>
Ret [] σ2 Q
theorem f106_eq {a0 a1 a2 : AVal} : f106 C a0 a1 a2 σ Q = wC C f106.body (((E0.set 0 a0).set 1 a1).set 2 a2) σ (retK f106.res Q) := by kernel_rfl
theorem f106_wf (ht : tab 106 = some f106.fn) {a0 a1 a2 : AVal} (h : f106 (WF tab) a0 a1 a2 σ Q) : WF tab 106 [a0, a1, a2] σ Q := wf_of ht (by kernel_rfl) f106_eq h
noncomputable def f107.res : List PRes := [.tmp (sn 4)]
noncomputable def f107.body : PC := (so [oq 4 (.mov (.val .nsl))] (so [om 5 0, om 6 1, oq 7 (.lenStr 6), ob 8 .add (oi 10) 7, oe 9 (.call 100 [5, 8]), om 10 1, oq 11 (.lenStr 10), oe 12 (.call 99 [9, 11]), om 13 1, oe 14 (.append 1 1 12 13), om 4 14] .ret))
noncomputable def f107.fn : PFn := .code (slotsN 15) f107.body f107.res
noncomputable def f107 (C : CW) (a0 a1 : AVal) (σ : S) (Q : AVal → S → Prop) : Prop :=
Som (vLenStr a1) fun t7 =>
sB .add (i6 10) t7 fun t8 =>
C 100 [a0, t8] σ fun t9 σ1 =>
Som (vLenStr a1) fun t11 =>
C 99 [t9, t11] σ1 fun t12 σ2 =>
Eff (appendA 1 1 t12 a1 σ2) fun t14 σ3 =>
Ret [some t14] σ3 Q
theorem f107_eq {a0 a1 : AVal} : f107 C a0 a1 σ Q = wC C f107.body ((E0.set 0 a0).set 1 a1) σ (retK f107.res Q) := by kernel_rfl
theorem f107_wf (ht : tab 107 = some f107.fn) {a0 a1 : AVal} (h : f107 (WF tab) a0 a1 σ Q) : WF tab 107 [a0, a1] σ Q := wf_of ht (by kernel_rfl) f107_eq h
noncomputable def f108.res : List PRes := [.tmp (sn 2)]
noncomputable def f108.body : PC := (so [oq 2 (.mov (oi 0))] (.seq (.draw 8 [⟨0, om 3 0, []⟩, ⟨1, on 4 3, []⟩, ⟨2, ox 5 0 4, []⟩, ⟨3, ol 6 5, []⟩, ⟨4, om 7 0, []⟩, ⟨5, oe 8 (.call 38 [7]), [ol 6 5]⟩, ⟨6, ob 9 .sub 6 8, []⟩, ⟨7, om 2 9, []⟩]) .ret))
noncomputable def f108.fn : PFn := .code (slotsN 10) f108.body f108.res
noncomputable def f108 (C : CW) (a0 : AVal) (σ : S) (Q : AVal → S → Prop) : Prop :=
sN a0 fun t4 =>
sF 0 t4 fun t5 =>
sL t5 (σ.bumpT 8) fun t6 =>
C 38 [a0] (σ.bumpT 8) fun t8 σ1 =>
Sure (SameO (vLoad1 t5 σ1) t6) <|
sB .sub t6 t8 fun t9 =>
Ret [some t9] σ1 Q
theorem f108_eq {a0 : AVal} : f108 C a0 σ Q = wC C f108.body (E0.set 0 a0) σ (retK f108.res Q) := by kernel_rfl
theorem f108_wf (ht : tab 108 = some f108.fn) {a0 : AVal} (h : f108 (WF tab) a0 σ Q) : WF tab 108 [a0] σ Q := wf_of ht (by kernel_rfl) f108_eq h
noncomputable def f109.c0 : PC := (so [ob 9 .lss 8 7] (.seq (.cond 9 .skip (.exit 0)) (.seq (.block 1 (so [oq 10 (.ixSl 2 6 8), oq 11 (.loadN 2 10), oa 5 (.alloc [(i6 0), (.str [])]), os (.store 2 5 11)] (.ops [om 12 3, ox 13 1 5, ol 14 13, oq 15 (.lenStr 14), ob 16 .add 15 (oi 100), ob 17 .add 12 16, om 3 17]))) (.ops [ob 18 .add 8 (oi 1), om 8 18]))))
noncomputable def f109.res : List PRes := [.tmp (sn 2)]
noncomputable def f109.p0 (C : CW) (Q : AVal → S → Prop) (R0 : PC) (E : En) (σ : S) : Prop :=
sB .lss (E 8) (E 7) fun t9 =>
WIf t9 (
Som (vIxSl 2 (E 6) (E 8)) fun t10 =>
Som (vLoadN 2 t10 σ) fun t11 =>
Ala (aAllocV [(i6 0), (.str [])]) σ fun t5 σ1 =>
sS 2 t5 t11 σ1 fun _ σ2 =>
sF 1 t5 fun t13 =>
sL t13 σ2 fun t14 =>
Som (vLenStr t14) fun t15 =>
sB .add t15 (i6 100) fun t16 =>
sB .add (E 3) t16 fun t17 =>
sB .add (E 8) (i6 1) fun t18 =>
wC C (.loop R0) ((((E.q 9 t9 10 t10 11 t11 5 t5).q 12 (E 3) 13 t13 14 t14 15 t15).q 16 t16 17 t17 3 t17 18 t18).set 8 t18) σ2 (blockK 0 (seqK (wC C (so [om 19 3, om 2 19] .ret)) (retK f109.res Q)))) (
Ret [some (E 3)] σ Q)
theorem f109.p0_eq {R0 : PC} : f109.p0 C Q R0 E σ = wC C f109.c0 E σ (loopK C R0 (blockK 0 (seqK (wC C (so [om 19 3, om 2 19] .ret)) (retK f109.res Q)))) := by kernel_rfl
abbrev f109.L0 (C : CW) (Q : AVal → S → Prop) (E : En) (σ : S) : Prop := wC C (.loop f109.c0) E σ (blockK 0 (seqK (wC C (so [om 19 3, om 2 19] .ret)) (retK f109.res Q)))
theorem f109.p0_of (h : f109.p0 (WF tab) Q f109.c0 E σ) : f109.L0 (WF tab) Q E σ := wLoop_step (Eq.mp f109.p0_eq h)
noncomputable def f109.body (R0 : PC) : PC := (so [oq 2 (.mov (oi 0))] (so [oq 3 (.mov (oi 0))] (.seq (so [om 6 0, oq 7 (.lenSl 6), oq 8 (.mov (oi 0))] (.block 0 (.loop R0))) (so [om 19 3, om 2 19] .ret))))
noncomputable def f109.fn : PFn := .code (slotsN 20) (f109.body f109.c0) f109.res
noncomputable def f109 (C : CW) (R0 : PC) (a0 : AVal) (σ : S) (Q : AVal → S → Prop) : Prop :=
Som (vLenSl a0) fun t7 =>
wC C (.loop R0) (((E0.q 0 a0 2 (i6 0) 3 (i6 0) 6 a0).set 7 t7).set 8 (i6 0)) σ (blockK 0 (seqK (wC C (so [om 19 3, om 2 19] .ret)) (retK f109.res Q)))
theorem f109_eq {R0 : PC} {a0 : AVal} : f109 C R0 a0 σ Q = wC C (f109.body R0) (E0.set 0 a0) σ (retK f109.res Q) := by kernel_rfl
theorem f109_wf (ht : tab 109 = some f109.fn) {a0 : AVal} (h : f109 (WF tab) f109.c0 a0 σ Q) : WF tab 109 [a0] σ Q := wf_of ht (by kernel_rfl) f109_eq h
noncomputable def f110.res : List PRes := [.tmp (sn 2)]
noncomputable def f110.body : PC := (so [oq 2 (.mov (.val (.int .u64 0)))] (so [om 3 0, oq 4 (.toInt .u64 3), ob 5 .shl 4 (.val (.int .u64 1)), om 6 0, ob 7 .shr 6 (.val (.int .u64 63)), oq 8 (.toInt .u64 7), ob 9 .xor 5 8, om 2 9] .ret))
noncomputable def f110.fn : PFn := .code (slotsN 10) f110.body f110.res
noncomputable def f110 (C : CW) (a0 : AVal) (σ : S) (Q : AVal → S → Prop) : Prop :=
Som (vToInt .u64 a0) fun t4 =>
Som (binA .shl .num t4 (.int .u64 1)) fun t5 =>
Som (binA .shr .num a0 (.int .u64 63)) fun t7 =>
Som (vToInt .u64 t7) fun t8 =>
Som (binA .xor .num t5 t8) fun t9 =>
Ret [some t9] σ Q
theorem f110_eq {a0 : AVal} : f110 C a0 σ Q = wC C f110.body (E0.set 0 a0) σ (retK f110.res Q) := by kernel_rfl
theorem f110_wf (ht : tab 110 = some f110.fn) {a0 : AVal} (h : f110 (WF tab) a0 σ Q) : WF tab 110 [a0] σ Q := wf_of ht (by kernel_rfl) f110_eq h
noncomputable def f111.c1 : PC := (so [ob 22 .lss 21 (oi 8)] (.seq (.cond 22 .skip (.exit 2)) (.seq (.block 3 (so [om 23 5, ob 24 .and 23 (.val (.int .u32 1)), om 8 24] (.ops [om 25 5, ob 26 .shr 25 (.val (.int .u64 1)), om 27 8, ob 28 .mul (.val (.int .u32 3988292384)) 27, ob 29 .xor 26 28, om 5 29]))) (.ops [ob 30 .add 21 (oi 1), om 21 30]))))
noncomputable def f111.t0 (R1 : PC) : PC := (so [ob 14 .lss 13 12] (.seq (.cond 14 .skip (.exit 0)) (.seq (.block 1 (so [oq 15 (.ixSl 1 11 13), ol 16 15, om 7 16] (so [om 17 5, om 18 7, oq 19 (.toInt .u32 18), ob 20 .xor 17 19, om 5 20] (so [oq 21 (.mov (oi 0))] (.block 2 (.loop R1)))))) (.ops [ob 31 .add 13 (oi 1), om 13 31]))))
noncomputable def f111.c0 : PC := f111.t0 f111.c1
noncomputable def f111.res : List PRes := [.tmp (sn 4)]
noncomputable def f111.p1 (C : CW) (Q : AVal → S → Prop) (R1 R0 : PC) (E : En) (σ : S) : Prop :=
Som (binA .lss .num (E 21) (.int .i64 8)) fun t22 =>
WIf t22 (
Som (binA .and .num (E 5) (.int .u32 1)) fun t24 =>
Som (binA .shr .num (E 5) (.int .u64 1)) fun t26 =>
Som (binA .mul .num (.int .u32 3988292384) t24) fun t28 =>
Som (binA .xor .num t26 t28) fun t29 =>
Som (binA .add .num (E 21) (.int .i64 1)) fun t30 =>
wC C (.loop R1) ((((((((((((E.set 22 t22).set 23 (E 5)).set 24 t24).set 8 t24).set 25 (E 5)).set 26 t26).set 27 t24).set 28 t28).set 29 t29).set 5 t29).set 30 t30).set 21 t30) σ (blockK 2 (blockK 1 (seqK (wC C (.ops [ob 31 .add 13 (oi 1), om 13 31])) (loopK C R0 (blockK 0 (seqK (wC C (so [om 32 5, oq 33 (.un .xor 32), om 4 33] .ret)) (retK f111.res Q)))))))) (
Som (binA .add .num (E 13) (.int .i64 1)) fun t31 =>
wC C (.loop R0) (((E.set 22 t22).set 31 t31).set 13 t31) σ (blockK 0 (seqK (wC C (so [om 32 5, oq 33 (.un .xor 32), om 4 33] .ret)) (retK f111.res Q))))
theorem f111.p1_eq {R1 R0 : PC} : f111.p1 C Q R1 R0 E σ = wC C f111.c1 E σ (loopK C R1 (blockK 2 (blockK 1 (seqK (wC C (.ops [ob 31 .add 13 (oi 1), om 13 31])) (loopK C R0 (blockK 0 (seqK (wC C (so [om 32 5, oq 33 (.un .xor 32), om 4 33] .ret)) (retK f111.res Q)))))))) := by kernel_rfl
abbrev f111.L1 (C : CW) (Q : AVal → S → Prop) (E : En) (σ : S) : Prop := wC C (.loop f111.c1) E σ (blockK 2 (blockK 1 (seqK (wC C (.ops [ob 31 .add 13 (oi 1), om 13 31])) (loopK C f111.c0 (blockK 0 (seqK (wC C (so [om 32 5, oq 33 (.un .xor 32), om 4 33] .ret)) (retK f111.res Q)))))))
theorem f111.p1_of (h : f111.p1 (WF tab) Q f111.c1 f111.c0 E σ) : f111.L1 (WF tab) Q E σ := wLoop_step (Eq.mp f111.p1_eq h)
noncomputable def f111.p0 (C : CW) (Q : AVal → S → Prop) (R1 R0 : PC) (E : En) (σ : S) : Prop :=
Som (binA .lss .num (E 13) (E 12)) fun t14 =>
WIf t14 (
Som (vIxSl 1 (E 11) (E 13)) fun t15 =>
Som (vLoad1 t15 σ) fun t16 =>
Som (vToInt .u32 t16) fun t19 =>
Som (binA .xor .num (E 5) t19) fun t20 =>
wC C (.loop R1) ((((((((((E.set 14 t14).set 15 t15).set 16 t16).set 7 t16).set 17 (E 5)).set 18 t16).set 19 t19).set 20 t20).set 5 t20).set 21 (.int .i64 0)) σ (blockK 2 (blockK 1 (seqK (wC C (.ops [ob 31 .add 13 (oi 1), om 13 31])) (loopK C R0 (blockK 0 (seqK (wC C (so [om 32 5, oq 33 (.un .xor 32), om 4 33] .ret)) (retK f111.res Q)))))))) (
Som (unA .xor (E 5)) fun t33 =>
Ret [some t33] σ Q)
theorem f111.p0_eq {R1 R0 : PC} : f111.p0 C Q R1 R0 E σ = wC C (f111.t0 R1) E σ (loopK C R0 (blockK 0 (seqK (wC C (so [om 32 5, oq 33 (.un .xor 32), om 4 33] .ret)) (retK f111.res Q)))) := by kernel_rfl
abbrev f111.L0 (C : CW) (Q : AVal → S → Prop) (E : En) (σ : S) : Prop := wC C (.loop f111.c0) E σ (blockK 0 (seqK (wC C (so [om 32 5, oq 33 (.un .xor 32), om 4 33] .ret)) (retK f111.res Q)))
theorem f111.p0_of (h : f111.p0 (WF tab) Q f111.c1 f111.c0 E σ) : f111.L0 (WF tab) Q E σ := wLoop_step (Eq.mp f111.p0_eq h)
noncomputable def f111.body (R0 : PC) : PC := (so [oq 4 (.mov (.val (.int .u32 0)))] (so [om 9 0, oq 10 (.un .xor 9), om 5 10] (.seq (so [om 11 1, oq 12 (.lenSl 11), oq 13 (.mov (oi 0))] (.block 0 (.loop R0))) (so [om 32 5, oq 33 (.un .xor 32), om 4 33] .ret))))
noncomputable def f111.fn : PFn := .code (slotsN 34) (f111.body f111.c0) f111.res
noncomputable def f111 (C : CW) (R0 : PC) (a0 a1 : AVal) (σ : S) (Q : AVal → S → Prop) : Prop :=
Som (unA .xor a0) fun t10 =>
Som (vLenSl a1) fun t12 =>
wC C (.loop R0) (((((((((E0.set 0 a0).set 1 a1).set 4 (.int .u32 0)).set 9 a0).set 10 t10).set 5 t10).set 11 a1).set 12 t12).set 13 (.int .i64 0)) σ (blockK 0 (seqK (wC C (so [om 32 5, oq 33 (.un .xor 32), om 4 33] .ret)) (retK f111.res Q)))
theorem f111_eq {R0 : PC} {a0 a1 : AVal} : f111 C R0 a0 a1 σ Q = wC C (f111.body R0) ((E0.set 0 a0).set 1 a1) σ (retK f111.res Q) := by kernel_rfl
theorem f111_wf (ht : tab 111 = some f111.fn) {a0 a1 : AVal} (h : f111 (WF tab) f111.c0 a0 a1 σ Q) : WF tab 111 [a0, a1] σ Q := wf_of ht (by kernel_rfl) f111_eq h
noncomputable def f112.res : List PRes := [.tmp (sn 2)]
noncomputable def f112.body : PC := (so [oq 2 (.mov (oi 0))] (so [om 3 0, ob 4 .shr 3 (.val (.int .u64 1)), oq 5 (.toInt .i64 4), om 6 0, ob 7 .and 6 (.val (.int .u64 1)), oq 8 (.toInt .i64 7), oq 9 (.un .neg 8), ob 10 .xor 5 9, om 2 10] .ret))
noncomputable def f112.fn : PFn := .code (slotsN 11) f112.body f112.res
noncomputable def f112 (C : CW) (a0 : AVal) (σ : S) (Q : AVal → S → Prop) : Prop :=
sB .shr a0 (.int .u64 1) fun t4 =>
Som (vToInt .i64 t4) fun t5 =>
sB .and a0 (.int .u64 1) fun t7 =>
Som (vToInt .i64 t7) fun t8 =>
Som (unA .neg t8) fun t9 =>
sB .xor t5 t9 fun t10 =>
Ret [some t10] σ Q
theorem f112_eq {a0 : AVal} : f112 C a0 σ Q = wC C f112.body (E0.set 0 a0) σ (retK f112.res Q) := by kernel_rfl
theorem f112_wf (ht : tab 112 = some f112.fn) {a0 : AVal} (h : f112 (WF tab) a0 σ Q) : WF tab 112 [a0] σ Q := wf_of ht (by kernel_rfl) f112_eq h
end Go.Am
