/-
  Functions of the program as conditions. Conditions: none.
-/
import Derived.Test.YtkgjghlklniaeaaF0
import Derived.KernelRfl
namespace Go.Am
set_option maxRecDepth 20000
variable {tab : Nat → Option PFn} {C : CW} {E : En} {σ : S} {Q : AVal → S → Prop}
noncomputable def f37.res : List PRes := [.tmp (sn 2)]
noncomputable def f37.body : PC := (so [oq 2 (.mov oF)] (so [om 3 0, ob 4 .geq 3 (oi 0), om 5 4, oqg 6 5 true (.mov 0), oqg 7 5 true (.bin .lss .num 6 (oi 64)), oq 8 (.pick 5 7 oF), om 2 8] .ret))
noncomputable def f37.fn : PFn := .code (slotsN 9) f37.body f37.res
noncomputable def f37 (C : CW) (a0 : AVal) (σ : S) (Q : AVal → S → Prop) : Prop :=
sB .geq a0 (i6 0) fun t4 =>
sT t4 (some a0) fun t6 =>
sT t4 (binA .lss .num t6 (i6 64)) fun t7 =>
sP t4 t7 (.bool false) fun t8 =>
Ret [some t8] σ Q
theorem f37_eq {a0 : AVal} : f37 C a0 σ Q = wC C f37.body (E0.set 0 a0) σ (retK f37.res Q) := by kernel_rfl
theorem f37_wf (ht : tab 37 = some f37.fn) {a0 : AVal} (h : f37 (WF tab) a0 σ Q) : WF tab 37 [a0] σ Q := wf_of ht (by kernel_rfl) f37_eq h
noncomputable def f38.c0 : PC := (so [ob 12 .lss 11 10] (.seq (.cond 12 .skip (.exit 0)) (.seq (.block 1 (so [oq 13 (.ixSl 1 9 11), ol 14 13, om 5 14] (.ops [om 15 3, om 16 5, oq 17 (.lenSl 16), ob 18 .add 15 17, om 3 18]))) (.ops [ob 19 .add 11 (oi 1), om 11 19]))))
noncomputable def f38.res : List PRes := [.tmp (sn 2)]
noncomputable def f38.p0 (C : CW) (Q : AVal → S → Prop) (R0 : PC) (E : En) (σ : S) : Prop :=
sB .lss (E 11) (E 10) fun t12 =>
WIf t12 (
Som (vIxSl 1 (E 9) (E 11)) fun t13 =>
sL t13 σ fun t14 =>
Som (vLenSl t14) fun t17 =>
sB .add (E 3) t17 fun t18 =>
sB .add (E 11) (i6 1) fun t19 =>
wC C (.loop R0) (((((E.q 12 t12 13 t13 14 t14 5 t14).q 15 (E 3) 16 t14 17 t17 18 t18).set 3 t18).set 19 t19).set 11 t19) σ (blockK 0 (seqK (wC C (so [om 20 3, om 2 20] .ret)) (retK f38.res Q)))) (
Ret [some (E 3)] σ Q)
theorem f38.p0_eq {R0 : PC} : f38.p0 C Q R0 E σ = wC C f38.c0 E σ (loopK C R0 (blockK 0 (seqK (wC C (so [om 20 3, om 2 20] .ret)) (retK f38.res Q)))) := by kernel_rfl
abbrev f38.L0 (C : CW) (Q : AVal → S → Prop) (E : En) (σ : S) : Prop := wC C (.loop f38.c0) E σ (blockK 0 (seqK (wC C (so [om 20 3, om 2 20] .ret)) (retK f38.res Q)))
theorem f38.p0_of (h : f38.p0 (WF tab) Q f38.c0 E σ) : f38.L0 (WF tab) Q E σ := wLoop_step (Eq.mp f38.p0_eq h)
noncomputable def f38.body (R0 : PC) : PC := (so [oq 2 (.mov (oi 0))] (so [oq 3 (.mov (oi 0))] (.seq (so [om 6 0, on 7 6, ox 8 1 7, ol 9 8, oq 10 (.lenSl 9), oq 11 (.mov (oi 0))] (.block 0 (.loop R0))) (so [om 20 3, om 2 20] .ret))))
noncomputable def f38.fn : PFn := .code (slotsN 21) (f38.body f38.c0) f38.res
noncomputable def f38 (C : CW) (R0 : PC) (a0 : AVal) (σ : S) (Q : AVal → S → Prop) : Prop :=
sN a0 fun t7 =>
sF 1 t7 fun t8 =>
sL t8 σ fun t9 =>
Som (vLenSl t9) fun t10 =>
wC C (.loop R0) (((E0.q 0 a0 2 (i6 0) 3 (i6 0) 6 a0).q 7 t7 8 t8 9 t9 10 t10).set 11 (i6 0)) σ (blockK 0 (seqK (wC C (so [om 20 3, om 2 20] .ret)) (retK f38.res Q)))
theorem f38_eq {R0 : PC} {a0 : AVal} : f38 C R0 a0 σ Q = wC C (f38.body R0) (E0.set 0 a0) σ (retK f38.res Q) := by kernel_rfl
theorem f38_wf (ht : tab 38 = some f38.fn) {a0 : AVal} (h : f38 (WF tab) f38.c0 a0 σ Q) : WF tab 38 [a0] σ Q := wf_of ht (by kernel_rfl) f38_eq h
noncomputable def f39.res : List PRes := [.tmp (sn 6)]
noncomputable def f39.body : PC := (so [oq 6 (.mov (.val .nsl))] (so [om 8 0, oq 9 (.lenSl 8), om 10 1, om 11 2, oq 12 (.lenSl 11), ob 13 .add 10 12, oq 14 (.maxI 9 [13]), oa 15 (.mkslice 1 1 [(.int .u8 0)] 14 14), om 7 15] (so [om 16 7, om 17 0, oe 18 (.copy 1 16 17)] (so [om 19 7, om 20 1, oq 21 (.slSl 1 19 (some 20) none none), om 22 2, oe 23 (.copy 1 21 22)] (so [om 24 7, om 6 24] .ret)))))
noncomputable def f39.fn : PFn := .code (slotsN 25) f39.body f39.res
noncomputable def f39 (C : CW) (a0 a1 a2 : AVal) (σ : S) (Q : AVal → S → Prop) : Prop :=
Som (vLenSl a0) fun t9 =>
Som (vLenSl a2) fun t12 =>
sB .add a1 t12 fun t13 =>
Som (maxA t9 [t13]) fun t14 =>
Ala (aMakeV 1 1 [(.int .u8 0)] t14 t14) σ fun t15 σ1 =>
Eff (copyA 1 t15 a0 σ1) fun t18 σ2 =>
Som (vSlSl 1 t15 (some a1) none none) fun t21 =>
Eff (copyA 1 t21 a2 σ2) fun t23 σ3 =>
Ret [some t15] σ3 Q
theorem f39_eq {a0 a1 a2 : AVal} : f39 C a0 a1 a2 σ Q = wC C f39.body (((E0.set 0 a0).set 1 a1).set 2 a2) σ (retK f39.res Q) := by kernel_rfl
theorem f39_wf (ht : tab 39 = some f39.fn) {a0 a1 a2 : AVal} (h : f39 (WF tab) a0 a1 a2 σ Q) : WF tab 39 [a0, a1, a2] σ Q := wf_of ht (by kernel_rfl) f39_eq h
noncomputable def f40.res : List PRes := [.tmp (sn 2)]
noncomputable def f40.body : PC := (so [oq 2 (.mov oF)] (so [om 3 0, on 4 3, ox 5 5 4, ol 6 5, om 2 6] .ret))
noncomputable def f40.fn : PFn := .code (slotsN 7) f40.body f40.res
noncomputable def f40 (C : CW) (a0 : AVal) (σ : S) (Q : AVal → S → Prop) : Prop :=
sN a0 fun t4 =>
sF 5 t4 fun t5 =>
sL t5 σ fun t6 =>
Ret [some t6] σ Q
theorem f40_eq {a0 : AVal} : f40 C a0 σ Q = wC C f40.body (E0.set 0 a0) σ (retK f40.res Q) := by kernel_rfl
theorem f40_wf (ht : tab 40 = some f40.fn) {a0 : AVal} (h : f40 (WF tab) a0 σ Q) : WF tab 40 [a0] σ Q := wf_of ht (by kernel_rfl) f40_eq h
noncomputable def f41.c1 : PC := (.seq (so [om 103 10, ob 104 .gtr 103 (oi 0)] (.cond 104 (so [oq 4 (.mov (.val .nptr))] .ret) .skip)) (so [om 105 9, om 4 105] .ret))
noncomputable def f41.c0 : PC := (.block 1 (so [om 64 5, om 65 9, on 66 65, ox 67 5 66, ol 68 67, oe 69 (.call 73 [64, 68]), om 63 69, oq 70 (.extract 0 63), oq 71 (.extract 1 63), oq 72 (.extract 2 63), os (.store 5 6 70), om 7 71, om 8 72] (.seq (.seq (.draw 17 [⟨0, om 73 8, []⟩, ⟨1, oq 74 (.un .not 73), []⟩, ⟨2, om 75 74, []⟩, ⟨3, oqg 76 75 false (.fieldAddr 1 6), []⟩, ⟨4, oqg 77 75 false (.load1 76), []⟩, ⟨5, oqg 78 75 false (.mov 9), []⟩, ⟨6, oqg 79 75 false (.nilck 78), []⟩, ⟨7, oqg 80 75 false (.fieldAddr 2 79), []⟩, ⟨8, oqg 81 75 false (.load1 80), []⟩, ⟨9, oqg 82 75 false (.bin .neq .num 77 81), []⟩, ⟨10, oq 83 (.pick 75 oT 82), []⟩, ⟨11, om 84 83, []⟩, ⟨12, oqg 85 84 false (.mov 9), []⟩, ⟨13, oqg 86 84 false (.loadN 5 6), []⟩, ⟨14, oeg 87 84 false (.call 74 [85, 86]), []⟩, ⟨15, oqg 88 84 false (.un .not 87), []⟩, ⟨16, oq 89 (.pick 84 oT 88), []⟩]) (.cond 89 (.exit 0) .skip)) (so [om 90 9, om 91 7, on 92 90, ox 93 5 92, os (.store 1 93 91)] (so [ox 94 0 6, ol 95 94, ob 96 .eql 95 (oi 1), om 97 96, oqg 98 97 true (.mov 10), oqg 99 97 true (.bin .gtr .num 98 (oi 0)), oq 100 (.pick 97 99 oF)] (.cond 100 (.ops [om 101 10, ob 102 .sub 101 (oi 1), om 10 102]) .skip))))))
noncomputable def f41.res : List PRes := [.tmp (sn 4)]
noncomputable def f41.p1 (C : CW) (Q : AVal → S → Prop) (E : En) (σ : S) : Prop :=
sB .gtr (E 10) (i6 0) fun t104 =>
WIf t104 (
Ret [some .nptr] σ Q) (
Ret [some (E 9)] σ Q)
theorem f41.p1_eq : f41.p1 C Q E σ = wC C f41.c1 E σ (retK f41.res Q) := by kernel_rfl
abbrev f41.J1 (C : CW) (Q : AVal → S → Prop) (E : En) (σ : S) : Prop := wC C f41.c1 E σ (retK f41.res Q)
theorem f41.p1_of (h : f41.p1 C Q E σ) : f41.J1 C Q E σ := Eq.mp f41.p1_eq h
noncomputable def f41.p0 (C : CW) (Q : AVal → S → Prop) (R1 R0 : PC) (E : En) (σ : S) : Prop :=
sN (E 9) fun t66 =>
sF 5 t66 fun t67 =>
sL t67 σ fun t68 =>
C 73 [(E 5), t68] σ fun t69 σ1 =>
Som (vExtract 0 t69) fun t70 =>
Som (vExtract 1 t69) fun t71 =>
Som (vExtract 2 t69) fun t72 =>
sS 5 (E 6) t70 σ1 fun _ σ2 =>
Som (unA .not t72) fun t74 =>
sU t74 (vFieldAddr 1 (E 6)) fun t76 =>
sU t74 (vLoad1 t76 (σ2.bumpT 17)) fun t77 =>
sU t74 (some (E 9)) fun t78 =>
sU t74 (vNilck t78) fun t79 =>
sU t74 (vFieldAddr 2 t79) fun t80 =>
sU t74 (vLoad1 t80 (σ2.bumpT 17)) fun t81 =>
sU t74 (binA .neq .num t77 t81) fun t82 =>
sP t74 (.bool true) t82 fun t83 =>
sU t83 (some (E 9)) fun t85 =>
sU t83 (vLoadN 5 (E 6) (σ2.bumpT 17)) fun t86 =>
gE1 (isB t83 false) (fun K => C 74 [t85, t86] (σ2.bumpT 17) K) (σ2.bumpT 17) fun t87 σ3 =>
sU t83 (unA .not t87) fun t88 =>
sP t83 (.bool true) t88 fun t89 =>
WIf t89 (
wC C R1 ((((((((E.q 64 (E 5) 65 (E 9) 66 t66 67 t67).q 68 t68 69 t69 63 t69 70 t70).q 71 t71 72 t72 7 t71 8 t72).q 73 t72 74 t74 75 t74 76 t76).q 77 t77 78 t78 79 t79 80 t80).q 81 t81 82 t82 83 t83 84 t83).q 85 t85 86 t86 87 t87 88 t88).set 89 t89) σ3 (retK f41.res Q)) (
sN (E 9) fun t92 =>
sF 5 t92 fun t93 =>
sS 1 t93 t71 σ3 fun _ σ4 =>
sF 0 (E 6) fun t94 =>
sL t94 σ4 fun t95 =>
sB .eql t95 (i6 1) fun t96 =>
sT t96 (some (E 10)) fun t98 =>
sT t96 (binA .gtr .num t98 (i6 0)) fun t99 =>
sP t96 t99 (.bool false) fun t100 =>
WIf t100 (
sB .sub (E 10) (i6 1) fun t102 =>
wC C (.loop R0) (((((((((((((E.q 64 (E 5) 65 (E 9) 66 t66 67 t67).q 68 t68 69 t69 63 t69 70 t70).q 71 t71 72 t72 7 t71 8 t72).q 73 t72 74 t74 75 t74 76 t76).q 77 t77 78 t78 79 t79 80 t80).q 81 t81 82 t82 83 t83 84 t83).q 85 t85 86 t86 87 t87 88 t88).q 89 t89 90 (E 9) 91 t71 92 t92).q 93 t93 94 t94 95 t95 96 t96).q 97 t96 98 t98 99 t99 100 t100).set 101 (E 10)).set 102 t102).set 10 t102) σ4 (blockK 0 (seqK (wC C R1) (retK f41.res Q)))) (
wC C (.loop R0) ((((((((((E.q 64 (E 5) 65 (E 9) 66 t66 67 t67).q 68 t68 69 t69 63 t69 70 t70).q 71 t71 72 t72 7 t71 8 t72).q 73 t72 74 t74 75 t74 76 t76).q 77 t77 78 t78 79 t79 80 t80).q 81 t81 82 t82 83 t83 84 t83).q 85 t85 86 t86 87 t87 88 t88).q 89 t89 90 (E 9) 91 t71 92 t92).q 93 t93 94 t94 95 t95 96 t96).q 97 t96 98 t98 99 t99 100 t100) σ4 (blockK 0 (seqK (wC C R1) (retK f41.res Q)))))
theorem f41.p0_eq {R1 R0 : PC} : f41.p0 C Q R1 R0 E σ = wC C f41.c0 E σ (loopK C R0 (blockK 0 (seqK (wC C R1) (retK f41.res Q)))) := by kernel_rfl
abbrev f41.L0 (C : CW) (Q : AVal → S → Prop) (E : En) (σ : S) : Prop := wC C (.loop f41.c0) E σ (blockK 0 (seqK (wC C f41.c1) (retK f41.res Q)))
theorem f41.p0_of (h : f41.p0 (WF tab) Q f41.c1 f41.c0 E σ) : f41.L0 (WF tab) Q E σ := wLoop_step (Eq.mp f41.p0_eq h)
noncomputable def f41.body (R0 R1 : PC) : PC := (so [oq 4 (.mov (.val .nptr))] (so [om 11 0, om 12 1, oe 13 (.call 72 [11, 12]), om 5 13] (so [om 15 5, oe 16 (.call 73 [15, (oi 0)]), om 14 16, oq 17 (.extract 0 14), oq 18 (.extract 1 14), oq 19 (.extract 2 14), oa 6 (.alloc [(i6 0), (i6 0), (i6 0), (i6 0), (.str [])]), os (.store 5 6 17), om 7 18, om 8 19] (.seq (so [om 20 8, oq 21 (.un .not 20), om 22 21, oqg 23 22 false (.fieldAddr 0 6), oqg 24 22 false (.load1 23), oqg 25 22 false (.bin .neq .num 24 (oi 0)), oq 26 (.pick 22 oT 25), om 27 26, oqg 28 27 false (.fieldAddr 1 6), oqg 29 27 false (.load1 28), oqg 30 27 false (.bin .lss .num 29 (oi 1)), oq 31 (.pick 27 oT 30), om 32 31, oqg 33 32 false (.fieldAddr 1 6), oqg 34 32 false (.load1 33), oqg 35 32 false (.bin .geq .num 34 (oi 1125899906842624)), oq 36 (.pick 32 oT 35), om 37 36, oqg 38 37 false (.fieldAddr 2 6), oqg 39 37 false (.load1 38), oqg 40 37 false (.bin .lss .num 39 (oi 1)), oq 41 (.pick 37 oT 40), om 42 41, oqg 43 42 false (.fieldAddr 2 6), oqg 44 42 false (.load1 43), oqg 45 42 false (.bin .gtr .num 44 (oi 1099511627777)), oq 46 (.pick 42 oT 45), om 47 46, oqg 48 47 false (.fieldAddr 3 6), oqg 49 47 false (.load1 48), oqg 50 47 false (.bin .lss .num 49 (oi 0)), oq 51 (.pick 47 oT 50)] (.cond 51 (so [oq 4 (.mov (.val .nptr))] .ret) .skip)) (so [om 52 0, om 53 1, ox 54 1 6, ol 55 54, ox 56 2 6, ol 57 56, om 58 7, oq 59 (.build [.nptr, (i6 0), (i6 0), (i6 0), .nsl, (i6 0), (i6 0)] [(0, 1, 52), (1, 1, 53), (2, 1, 55), (3, 1, 57), (5, 1, 58)]), oa 60 (.box 59), om 9 60] (so [ox 61 3 6, ol 62 61, om 10 62] (.seq .skip (.seq (.block 0 (.loop R0)) R1))))))))
noncomputable def f41.fn : PFn := .code (slotsN 106) (f41.body f41.c0 f41.c1) f41.res
noncomputable def f41 (C : CW) (R0 R1 : PC) (a0 a1 : AVal) (σ : S) (Q : AVal → S → Prop) : Prop :=
C 72 [a0, a1] σ fun t13 σ1 =>
C 73 [t13, (i6 0)] σ1 fun t16 σ2 =>
Som (vExtract 0 t16) fun t17 =>
Som (vExtract 1 t16) fun t18 =>
Som (vExtract 2 t16) fun t19 =>
Ala (aAllocV [(i6 0), (i6 0), (i6 0), (i6 0), (.str [])]) σ2 fun t6 σ3 =>
sS 5 t6 t17 σ3 fun _ σ4 =>
Som (unA .not t19) fun t21 =>
sU t21 (vFieldAddr 0 t6) fun t23 =>
sU t21 (vLoad1 t23 σ4) fun t24 =>
sU t21 (binA .neq .num t24 (i6 0)) fun t25 =>
sP t21 (.bool true) t25 fun t26 =>
sU t26 (vFieldAddr 1 t6) fun t28 =>
sU t26 (vLoad1 t28 σ4) fun t29 =>
sU t26 (binA .lss .num t29 (i6 1)) fun t30 =>
sP t26 (.bool true) t30 fun t31 =>
sU t31 (vFieldAddr 1 t6) fun t33 =>
sU t31 (vLoad1 t33 σ4) fun t34 =>
sU t31 (binA .geq .num t34 (i6 1125899906842624)) fun t35 =>
sP t31 (.bool true) t35 fun t36 =>
sU t36 (vFieldAddr 2 t6) fun t38 =>
sU t36 (vLoad1 t38 σ4) fun t39 =>
sU t36 (binA .lss .num t39 (i6 1)) fun t40 =>
sP t36 (.bool true) t40 fun t41 =>
sU t41 (vFieldAddr 2 t6) fun t43 =>
sU t41 (vLoad1 t43 σ4) fun t44 =>
sU t41 (binA .gtr .num t44 (i6 1099511627777)) fun t45 =>
sP t41 (.bool true) t45 fun t46 =>
sU t46 (vFieldAddr 3 t6) fun t48 =>
sU t46 (vLoad1 t48 σ4) fun t49 =>
sU t46 (binA .lss .num t49 (i6 0)) fun t50 =>
sP t46 (.bool true) t50 fun t51 =>
WIf t51 (
Ret [some .nptr] σ4 Q) (
sF 1 t6 fun t54 =>
sL t54 σ4 fun t55 =>
sF 2 t6 fun t56 =>
sL t56 σ4 fun t57 =>
Som (vBuild [.nptr, (i6 0), (i6 0), (i6 0), .nsl, (i6 0), (i6 0)] [(0, 1, a0), (1, 1, a1), (2, 1, t55), (3, 1, t57), (5, 1, t18)]) fun t59 =>
Ala (aBoxV t59) σ4 fun t60 σ5 =>
sF 3 t6 fun t61 =>
sL t61 σ5 fun t62 =>
wC C (.loop R0) ((((((((((((((((E0.q 0 a0 1 a1 4 .nptr 11 a0).q 12 a1 13 t13 5 t13 15 t13).q 16 t16 14 t16 17 t17 18 t18).q 19 t19 6 t6 7 t18 8 t19).q 20 t19 21 t21 22 t21 23 t23).q 24 t24 25 t25 26 t26 27 t26).q 28 t28 29 t29 30 t30 31 t31).q 32 t31 33 t33 34 t34 35 t35).q 36 t36 37 t36 38 t38 39 t39).q 40 t40 41 t41 42 t41 43 t43).q 44 t44 45 t45 46 t46 47 t46).q 48 t48 49 t49 50 t50 51 t51).q 52 a0 53 a1 54 t54 55 t55).q 56 t56 57 t57 58 t18 59 t59).q 60 t60 9 t60 61 t61 62 t62).set 10 t62) σ5 (blockK 0 (seqK (wC C R1) (retK f41.res Q))))
theorem f41_eq {R0 R1 : PC} {a0 a1 : AVal} : f41 C R0 R1 a0 a1 σ Q = wC C (f41.body R0 R1) ((E0.set 0 a0).set 1 a1) σ (retK f41.res Q) := by kernel_rfl
theorem f41_wf (ht : tab 41 = some f41.fn) {a0 a1 : AVal} (h : f41 (WF tab) f41.c0 f41.c1 a0 a1 σ Q) : WF tab 41 [a0, a1] σ Q := wf_of ht (by kernel_rfl) f41_eq h
noncomputable def f42.res : List PRes := [.tmp (sn 4)]
noncomputable def f42.body : PC := (so [oq 4 (.mov (oi 0))] (.seq (so [om 5 1, oe 6 (.call 37 [5]), oq 7 (.un .not 6)] (.cond 7 (so [oq 4 (.mov (oi 0))] .ret) .skip)) (so [om 8 0, on 9 8, ox 10 1 9, ol 11 10, om 12 1, oq 13 (.ixSl 1 11 12), ol 14 13, oq 15 (.lenSl 14), om 4 15] .ret)))
noncomputable def f42.fn : PFn := .code (slotsN 16) f42.body f42.res
noncomputable def f42 (C : CW) (a0 a1 : AVal) (σ : S) (Q : AVal → S → Prop) : Prop :=
C 37 [a1] σ fun t6 σ1 =>
Som (unA .not t6) fun t7 =>
WIf t7 (
Ret [some (i6 0)] σ1 Q) (
sN a0 fun t9 =>
sF 1 t9 fun t10 =>
sL t10 σ1 fun t11 =>
Som (vIxSl 1 t11 a1) fun t13 =>
sL t13 σ1 fun t14 =>
Som (vLenSl t14) fun t15 =>
Ret [some t15] σ1 Q)
theorem f42_eq {a0 a1 : AVal} : f42 C a0 a1 σ Q = wC C f42.body ((E0.set 0 a0).set 1 a1) σ (retK f42.res Q) := by kernel_rfl
theorem f42_wf (ht : tab 42 = some f42.fn) {a0 a1 : AVal} (h : f42 (WF tab) a0 a1 σ Q) : WF tab 42 [a0, a1] σ Q := wf_of ht (by kernel_rfl) f42_eq h
noncomputable def f43.res : List PRes := [.tmp (sn 6)]
noncomputable def f43.body : PC := (so [oq 6 (.mov (oi 0))] (.seq (so [om 7 0, oe 8 (.call 36 [7]), oq 9 (.un .not 8)] (.cond 9 (so [oq 6 (.mov (oi 11))] .ret) .skip)) (.seq (so [om 10 1, oe 11 (.call 37 [10]), oq 12 (.un .not 11), om 13 12, oqg 14 13 false (.mov 2), oqg 15 13 false (.bin .lss .num 14 (oi 0)), oq 16 (.pick 13 oT 15), om 17 16, oqg 18 17 false (.mov 2), oqg 19 17 false (.mov 0), oqg 20 17 false (.nilck 19), oqg 21 17 false (.fieldAddr 1 20), oqg 22 17 false (.load1 21), oqg 23 17 false (.mov 1), oqg 24 17 false (.ixSl 1 22 23), oqg 25 17 false (.load1 24), oqg 26 17 false (.lenSl 25), oqg 27 17 false (.bin .gtr .num 18 26), oq 28 (.pick 17 oT 27)] (.cond 28 (so [oq 6 (.mov (oi 1))] .ret) .skip)) (.seq (.draw 17 [⟨0, om 29 0, []⟩, ⟨1, on 30 29, []⟩, ⟨2, ox 31 1 30, []⟩, ⟨3, ol 32 31, []⟩, ⟨4, om 33 1, []⟩, ⟨5, om 34 0, []⟩, ⟨6, on 35 34, []⟩, ⟨7, ox 36 1 35, []⟩, ⟨8, ol 37 36, []⟩, ⟨9, om 38 1, []⟩, ⟨10, oq 39 (.ixSl 1 37 38), []⟩, ⟨11, ol 40 39, []⟩, ⟨12, om 41 2, []⟩, ⟨13, oq 42 (.slSl 1 40 none (some 41) none), []⟩, ⟨14, oe 43 (.append 1 1 (.val .nsl) 42), [ol 32 31]⟩, ⟨15, oq 44 (.ixSl 1 32 33), []⟩, ⟨16, os (.store 1 44 43), []⟩]) (so [om 45 0, om 46 0, on 47 46, ox 48 3 47, ol 49 48, om 50 1, om 51 2, oq 52 (.build [(.bool false), (i6 0), (i6 0), .nsl] [(0, 1, oT), (1, 1, 50), (2, 1, 51)]), oa 53 (.bslice 4 [(.bool false), (i6 0), (i6 0), .nsl] 1 [(0, 4, 52)]), oe 54 (.append 4 48 49 53), on 55 45, ox 56 3 55, os (.store 1 56 54)] (so [oq 6 (.mov (oi 0))] .ret))))))
noncomputable def f43.fn : PFn := .code (slotsN 57) f43.body f43.res
noncomputable def f43 (C : CW) (a0 a1 a2 : AVal) (σ : S) (Q : AVal → S → Prop) : Prop :=
C 36 [a0] σ fun t8 σ1 =>
Som (unA .not t8) fun t9 =>
WIf t9 (
Ret [some (i6 11)] σ1 Q) (
C 37 [a1] σ1 fun t11 σ2 =>
Som (unA .not t11) fun t12 =>
sU t12 (some a2) fun t14 =>
sU t12 (binA .lss .num t14 (i6 0)) fun t15 =>
sP t12 (.bool true) t15 fun t16 =>
sU t16 (some a2) fun t18 =>
sU t16 (some a0) fun t19 =>
sU t16 (vNilck t19) fun t20 =>
sU t16 (vFieldAddr 1 t20) fun t21 =>
sU t16 (vLoad1 t21 σ2) fun t22 =>
sU t16 (some a1) fun t23 =>
sU t16 (vIxSl 1 t22 t23) fun t24 =>
sU t16 (vLoad1 t24 σ2) fun t25 =>
sU t16 (vLenSl t25) fun t26 =>
sU t16 (binA .gtr .num t18 t26) fun t27 =>
sP t16 (.bool true) t27 fun t28 =>
WIf t28 (
Ret [some (i6 1)] σ2 Q) (
sN a0 fun t30 =>
sF 1 t30 fun t31 =>
sL t31 (σ2.bumpT 17) fun t32 =>
sN a0 fun t35 =>
sF 1 t35 fun t36 =>
sL t36 (σ2.bumpT 17) fun t37 =>
Som (vIxSl 1 t37 a1) fun t39 =>
sL t39 (σ2.bumpT 17) fun t40 =>
Som (vSlSl 1 t40 none (some a2) none) fun t42 =>
Eff (appendA 1 1 .nsl t42 (σ2.bumpT 17)) fun t43 σ3 =>
Sure (SameO (vLoad1 t31 σ3) t32) <|
Som (vIxSl 1 t32 a1) fun t44 =>
sS 1 t44 t43 σ3 fun _ σ4 =>
sN a0 fun t47 =>
sF 3 t47 fun t48 =>
sL t48 σ4 fun t49 =>
Som (vBuild [(.bool false), (i6 0), (i6 0), .nsl] [(0, 1, (.bool true)), (1, 1, a1), (2, 1, a2)]) fun t52 =>
Ala (aSliceV 4 [(.bool false), (i6 0), (i6 0), .nsl] 1 [(0, 4, t52)]) σ4 fun t53 σ5 =>
Eff (appendA 4 48 t49 t53 σ5) fun t54 σ6 =>
sN a0 fun t55 =>
sF 3 t55 fun t56 =>
sS 1 t56 t54 σ6 fun _ σ7 =>
Ret [some (i6 0)] σ7 Q))
theorem f43_eq {a0 a1 a2 : AVal} : f43 C a0 a1 a2 σ Q = wC C f43.body (((E0.set 0 a0).set 1 a1).set 2 a2) σ (retK f43.res Q) := by kernel_rfl
theorem f43_wf (ht : tab 43 = some f43.fn) {a0 a1 a2 : AVal} (h : f43 (WF tab) a0 a1 a2 σ Q) : WF tab 43 [a0, a1, a2] σ Q := wf_of ht (by kernel_rfl) f43_eq h
noncomputable def f44.res : List PRes := [.tmp (sn 2)]
noncomputable def f44.body : PC := (so [oq 2 (.mov (oi 0))] (.seq (so [om 3 0, oe 4 (.call 36 [3]), oq 5 (.un .not 4)] (.cond 5 (so [oq 2 (.mov (oi 11))] .ret) .skip)) (.seq (.draw 9 [⟨0, om 6 0, []⟩, ⟨1, on 7 6, []⟩, ⟨2, ox 8 2 7, []⟩, ⟨3, ol 9 8, []⟩, ⟨4, om 10 0, []⟩, ⟨5, on 11 10, []⟩, ⟨6, ox 12 1 11, []⟩, ⟨7, ol 13 12, []⟩, ⟨8, oe 14 (.copy 1 9 13), []⟩]) (so [om 15 0, on 16 15, ox 17 3 16, os (.store 1 17 (.val .nsl))] (so [oq 2 (.mov (oi 0))] .ret)))))
noncomputable def f44.fn : PFn := .code (slotsN 18) f44.body f44.res
noncomputable def f44 (C : CW) (a0 : AVal) (σ : S) (Q : AVal → S → Prop) : Prop :=
C 36 [a0] σ fun t4 σ1 =>
Som (unA .not t4) fun t5 =>
WIf t5 (
Ret [some (i6 11)] σ1 Q) (
sN a0 fun t7 =>
sF 2 t7 fun t8 =>
sL t8 (σ1.bumpT 9) fun t9 =>
sN a0 fun t11 =>
sF 1 t11 fun t12 =>
sL t12 (σ1.bumpT 9) fun t13 =>
Eff (copyA 1 t9 t13 (σ1.bumpT 9)) fun t14 σ2 =>
sN a0 fun t16 =>
sF 3 t16 fun t17 =>
sS 1 t17 .nsl σ2 fun _ σ3 =>
Ret [some (i6 0)] σ3 Q)
theorem f44_eq {a0 : AVal} : f44 C a0 σ Q = wC C f44.body (E0.set 0 a0) σ (retK f44.res Q) := by kernel_rfl
theorem f44_wf (ht : tab 44 = some f44.fn) {a0 : AVal} (h : f44 (WF tab) a0 σ Q) : WF tab 44 [a0] σ Q := wf_of ht (by kernel_rfl) f44_eq h
noncomputable def f45.c1 : PC := (.seq (so [om 51 8, oe 52 (.call 51 [7, 51]), om 11 52] (so [om 53 11, ob 54 .neq 53 (oi 0)] (.cond 54 (so [om 55 11, om 6 55] .ret) .skip))) (so [om 56 1, om 57 2, oe 58 (.call 75 [7, 56, 57])] (.seq (.seq (.draw 26 [⟨0, om 59 0, []⟩, ⟨1, on 60 59, []⟩, ⟨2, ox 61 0 60, []⟩, ⟨3, ol 62 61, []⟩, ⟨4, oe 63 (.call 44 [62]), []⟩, ⟨5, ob 64 .neq 63 (oi 0), []⟩, ⟨6, om 65 64, []⟩, ⟨7, oqg 66 65 false (.mov 0), []⟩, ⟨8, oqg 67 65 false (.nilck 66), []⟩, ⟨9, oqg 68 65 false (.fieldAddr 0 67), []⟩, ⟨10, oqg 69 65 false (.load1 68), []⟩, ⟨11, oqg 70 65 false (.mov 0), []⟩, ⟨12, oqg 71 65 false (.nilck 70), []⟩, ⟨13, oqg 72 65 false (.fieldAddr 1 71), []⟩, ⟨14, oqg 73 65 false (.load1 72), []⟩, ⟨15, oeg 74 65 false (.call 43 [69, 73, (oi 0)]), []⟩, ⟨16, oqg 75 65 false (.bin .neq .num 74 (oi 0)), []⟩, ⟨17, oq 76 (.pick 65 oT 75), []⟩, ⟨18, om 77 76, []⟩, ⟨19, oqg 78 77 false (.mov 0), []⟩, ⟨20, oqg 79 77 false (.nilck 78), []⟩, ⟨21, oqg 80 77 false (.fieldAddr 0 79), []⟩, ⟨22, oqg 81 77 false (.load1 80), []⟩, ⟨23, oeg 82 77 false (.call 44 [81]), []⟩, ⟨24, oqg 83 77 false (.bin .neq .num 82 (oi 0)), []⟩, ⟨25, oq 84 (.pick 77 oT 83), []⟩]) (.cond 84 (so [oq 6 (.mov (oi 11))] .ret) .skip)) (so [om 85 0, oq 86 (.loadN 7 7), on 87 85, os (.store 7 87 86)] (so [oq 6 (.mov (oi 0))] .ret)))))
noncomputable def f45.c0 : PC := (so [ob 37 .lss 36 35] (.seq (.cond 37 .skip (.exit 0)) (.seq (.block 1 (so [om 38 36, oq 39 (.ixSl 1 34 36), ol 40 39, om 9 38, om 10 40] (.ops [om 41 8, ox 42 2 7, ol 43 42, om 44 1, om 45 9, ob 46 .add 44 45, om 47 10, oe 48 (.call 50 [(.val .nsl), (oi 1), 43, 46, (oi 0), 47]), oe 49 (.append 1 1 41 48), om 8 49]))) (.ops [ob 50 .add 36 (oi 1), om 36 50]))))
noncomputable def f45.res : List PRes := [.tmp (sn 6)]
noncomputable def f45.p1 (C : CW) (Q : AVal → S → Prop) (E : En) (σ : S) : Prop :=
C 51 [(E 7), (E 8)] σ fun t52 σ1 =>
sB .neq t52 (i6 0) fun t54 =>
WIf t54 (
Ret [some t52] σ1 Q) (
C 75 [(E 7), (E 1), (E 2)] σ1 fun t58 σ2 =>
sN (E 0) fun t60 =>
sF 0 t60 fun t61 =>
sL t61 (σ2.bumpT 26) fun t62 =>
C 44 [t62] (σ2.bumpT 26) fun t63 σ3 =>
sB .neq t63 (i6 0) fun t64 =>
sU t64 (some (E 0)) fun t66 =>
sU t64 (vNilck t66) fun t67 =>
sU t64 (vFieldAddr 0 t67) fun t68 =>
sU t64 (vLoad1 t68 σ3) fun t69 =>
sU t64 (some (E 0)) fun t70 =>
sU t64 (vNilck t70) fun t71 =>
sU t64 (vFieldAddr 1 t71) fun t72 =>
sU t64 (vLoad1 t72 σ3) fun t73 =>
gE1 (isB t64 false) (fun K => C 43 [t69, t73, (i6 0)] σ3 K) σ3 fun t74 σ4 =>
sU t64 (binA .neq .num t74 (i6 0)) fun t75 =>
sP t64 (.bool true) t75 fun t76 =>
sU t76 (some (E 0)) fun t78 =>
sU t76 (vNilck t78) fun t79 =>
sU t76 (vFieldAddr 0 t79) fun t80 =>
sU t76 (vLoad1 t80 σ4) fun t81 =>
gE1 (isB t76 false) (fun K => C 44 [t81] σ4 K) σ4 fun t82 σ5 =>
sU t76 (binA .neq .num t82 (i6 0)) fun t83 =>
sP t76 (.bool true) t83 fun t84 =>
WIf t84 (
Ret [some (i6 11)] σ5 Q) (
Som (vLoadN 7 (E 7) σ5) fun t86 =>
sN (E 0) fun t87 =>
sS 7 t87 t86 σ5 fun _ σ6 =>
Ret [some (i6 0)] σ6 Q))
theorem f45.p1_eq : f45.p1 C Q E σ = wC C f45.c1 E σ (retK f45.res Q) := by kernel_rfl
abbrev f45.J1 (C : CW) (Q : AVal → S → Prop) (E : En) (σ : S) : Prop := wC C f45.c1 E σ (retK f45.res Q)
theorem f45.p1_of (h : f45.p1 C Q E σ) : f45.J1 C Q E σ := Eq.mp f45.p1_eq h
noncomputable def f45.p0 (C : CW) (Q : AVal → S → Prop) (R0 R1 : PC) (E : En) (σ : S) : Prop :=
sB .lss (E 36) (E 35) fun t37 =>
WIf t37 (
Som (vIxSl 1 (E 34) (E 36)) fun t39 =>
sL t39 σ fun t40 =>
sF 2 (E 7) fun t42 =>
sL t42 σ fun t43 =>
sB .add (E 1) (E 36) fun t46 =>
C 50 [.nsl, (i6 1), t43, t46, (i6 0), t40] σ fun t48 σ1 =>
Eff (appendA 1 1 (E 8) t48 σ1) fun t49 σ2 =>
sB .add (E 36) (i6 1) fun t50 =>
wC C (.loop R0) ((((((E.q 37 t37 38 (E 36) 39 t39 40 t40).q 9 (E 36) 10 t40 41 (E 8) 42 t42).q 43 t43 44 (E 1) 45 (E 36) 46 t46).q 47 t40 48 t48 49 t49 8 t49).set 50 t50).set 36 t50) σ2 (blockK 0 (seqK (wC C R1) (retK f45.res Q)))) (
wC C R1 (E.set 37 t37) σ (retK f45.res Q))
theorem f45.p0_eq {R0 R1 : PC} : f45.p0 C Q R0 R1 E σ = wC C f45.c0 E σ (loopK C R0 (blockK 0 (seqK (wC C R1) (retK f45.res Q)))) := by kernel_rfl
abbrev f45.L0 (C : CW) (Q : AVal → S → Prop) (E : En) (σ : S) : Prop := wC C (.loop f45.c0) E σ (blockK 0 (seqK (wC C f45.c1) (retK f45.res Q)))
theorem f45.p0_of (h : f45.p0 (WF tab) Q f45.c0 f45.c1 E σ) : f45.L0 (WF tab) Q E σ := wLoop_step (Eq.mp f45.p0_eq h)
noncomputable def f45.body (R0 R1 : PC) : PC := (so [oq 6 (.mov (oi 0))] (.seq (.draw 18 [⟨0, om 12 0, []⟩, ⟨1, on 13 12, []⟩, ⟨2, ox 14 0 13, []⟩, ⟨3, ol 15 14, []⟩, ⟨4, om 16 0, []⟩, ⟨5, on 17 16, []⟩, ⟨6, ox 18 1 17, []⟩, ⟨7, ol 19 18, []⟩, ⟨8, ob 20 .sub (oi 17) 19, []⟩, ⟨9, om 21 0, []⟩, ⟨10, on 22 21, []⟩, ⟨11, ox 23 2 22, []⟩, ⟨12, ol 24 23, []⟩, ⟨13, ob 25 .add 24 (oi 1), []⟩, ⟨14, om 26 1, []⟩, ⟨15, oq 27 (.build [.nptr, (i6 0), (i6 0), (i6 0), .nsl, (i6 0), (i6 0)] [(0, 1, 15), (1, 1, 20), (2, 1, 25), (3, 1, 26)]), []⟩, ⟨16, oa 7 (.alloc [.nptr, (i6 0), (i6 0), (i6 0), .nsl, (i6 0), (i6 0)]), []⟩, ⟨17, os (.store 7 7 27), []⟩]) (so [ox 28 2 7, ol 29 28, om 30 1, om 31 2, oq 32 (.lenSl 31), oe 33 (.call 50 [(.val .nsl), (oi 0), 29, 30, 32, (.val (.str []))]), om 8 33] (.seq (so [om 34 2, oq 35 (.lenSl 34), oq 36 (.mov (oi 0))] (.block 0 (.loop R0))) R1))))
noncomputable def f45.fn : PFn := .code (slotsN 88) (f45.body f45.c0 f45.c1) f45.res
noncomputable def f45 (C : CW) (R0 R1 : PC) (a0 a1 a2 : AVal) (σ : S) (Q : AVal → S → Prop) : Prop :=
sN a0 fun t13 =>
sF 0 t13 fun t14 =>
sL t14 (σ.bumpT 18) fun t15 =>
sN a0 fun t17 =>
sF 1 t17 fun t18 =>
sL t18 (σ.bumpT 18) fun t19 =>
sB .sub (i6 17) t19 fun t20 =>
sN a0 fun t22 =>
sF 2 t22 fun t23 =>
sL t23 (σ.bumpT 18) fun t24 =>
sB .add t24 (i6 1) fun t25 =>
Som (vBuild [.nptr, (i6 0), (i6 0), (i6 0), .nsl, (i6 0), (i6 0)] [(0, 1, t15), (1, 1, t20), (2, 1, t25), (3, 1, a1)]) fun t27 =>
Alb (aAllocV [.nptr, (i6 0), (i6 0), (i6 0), .nsl, (i6 0), (i6 0)]) (Pos.plusT 16 σ.next) (σ.bumpT 18) fun t7 σ1 =>
sS 7 t7 t27 σ1 fun _ σ2 =>
sF 2 t7 fun t28 =>
sL t28 σ2 fun t29 =>
Som (vLenSl a2) fun t32 =>
C 50 [.nsl, (i6 0), t29, a1, t32, (.str [])] σ2 fun t33 σ3 =>
Som (vLenSl a2) fun t35 =>
wC C (.loop R0) ((((((((((E0.q 0 a0 1 a1 2 a2 6 (i6 0)).q 12 a0 13 t13 14 t14 15 t15).q 16 a0 17 t17 18 t18 19 t19).q 20 t20 21 a0 22 t22 23 t23).q 24 t24 25 t25 26 a1 27 t27).q 7 t7 28 t28 29 t29 30 a1).q 31 a2 32 t32 33 t33 8 t33).set 34 a2).set 35 t35).set 36 (i6 0)) σ3 (blockK 0 (seqK (wC C R1) (retK f45.res Q)))
theorem f45_eq {R0 R1 : PC} {a0 a1 a2 : AVal} : f45 C R0 R1 a0 a1 a2 σ Q = wC C (f45.body R0 R1) (((E0.set 0 a0).set 1 a1).set 2 a2) σ (retK f45.res Q) := by kernel_rfl
theorem f45_wf (ht : tab 45 = some f45.fn) {a0 a1 a2 : AVal} (h : f45 (WF tab) f45.c0 f45.c1 a0 a1 a2 σ Q) : WF tab 45 [a0, a1, a2] σ Q := wf_of ht (by kernel_rfl) f45_eq h
noncomputable def f46.c3 : PC := (.seq (.draw 9 [⟨0, om 124 7, []⟩, ⟨1, on 125 124, []⟩, ⟨2, ox 126 2 125, []⟩, ⟨3, ol 127 126, []⟩, ⟨4, om 128 7, []⟩, ⟨5, on 129 128, []⟩, ⟨6, ox 130 1 129, []⟩, ⟨7, ol 131 130, []⟩, ⟨8, oe 132 (.copy 1 127 131), []⟩]) (so [om 133 7, om 6 133] .ret))
noncomputable def f46.c4 : PC := (.seq (.draw 9 [⟨0, om 80 7, []⟩, ⟨1, on 81 80, []⟩, ⟨2, ox 82 1 81, []⟩, ⟨3, ol 83 82, []⟩, ⟨4, ox 84 1 11, []⟩, ⟨5, ol 85 84, []⟩, ⟨6, oq 86 (.ixSl 1 83 85), []⟩, ⟨7, ol 87 86, []⟩, ⟨8, om 13 87, []⟩]) (.block 4 (so [ox 89 0 11, ol 90 89, oq 91 (.un .not 90), om 88 91] (.cond 88 (.draw 13 [⟨0, om 92 7, []⟩, ⟨1, on 93 92, []⟩, ⟨2, ox 94 1 93, []⟩, ⟨3, ol 95 94, []⟩, ⟨4, ox 96 1 11, []⟩, ⟨5, ol 97 96, []⟩, ⟨6, om 98 13, []⟩, ⟨7, ox 99 2 11, []⟩, ⟨8, ol 100 99, []⟩, ⟨9, om 101 12, []⟩, ⟨10, oe 102 (.call 39 [98, 100, 101]), [ol 95 94, ol 97 96]⟩, ⟨11, oq 103 (.ixSl 1 95 97), []⟩, ⟨12, os (.store 1 103 102), []⟩]) (so [ox 105 2 11, ol 106 105, om 107 13, oq 108 (.lenSl 107), ob 109 .leq 106 108, om 104 109] (.cond 104 (.draw 14 [⟨0, om 110 7, []⟩, ⟨1, on 111 110, []⟩, ⟨2, ox 112 1 111, []⟩, ⟨3, ol 113 112, []⟩, ⟨4, ox 114 1 11, []⟩, ⟨5, ol 115 114, []⟩, ⟨6, om 116 13, []⟩, ⟨7, ox 117 2 11, []⟩, ⟨8, ol 118 117, []⟩, ⟨9, ox 119 2 11, []⟩, ⟨10, ol 120 119, []⟩, ⟨11, oq 121 (.slSl 1 116 none (some 118) (some 120)), []⟩, ⟨12, oq 122 (.ixSl 1 113 115), []⟩, ⟨13, os (.store 1 122 121), []⟩]) .skip))))))
noncomputable def f46.t2 (R4 : PC) : PC := (so [ob 51 .lss 50 49] (.seq (.cond 51 .skip (.exit 2)) (.seq (.block 3 (so [om 52 50, oq 53 (.ixSl 4 48 50), oq 54 (.loadN 4 53), oa 11 (.alloc [(.bool false), (i6 0), (i6 0), .nsl]), om 10 52, os (.store 4 11 54)] (.seq (so [om 55 1, om 56 10, ob 57 .rem 56 (oi 60), oq 58 (.toInt .u64 57), ob 59 .shr 55 58, ob 60 .and 59 (oi 1), ob 61 .eql 60 (oi 0)] (.cond 61 (.exit 3) .skip)) (so [ox 62 3 11, ol 63 62, om 12 63] (.seq (so [om 64 10, om 65 8, ob 66 .eql 64 65, om 67 66, oqg 68 67 true (.mov 2), oqg 69 67 true (.bin .geq .num 68 (oi 0)), oq 70 (.pick 67 69 oF), om 71 70, oqg 72 71 true (.mov 2), oqg 73 71 true (.mov 12), oqg 74 71 true (.lenSl 73), oqg 75 71 true (.bin .lss .num 72 74), oq 76 (.pick 71 75 oF)] (.cond 76 (.ops [om 77 12, om 78 2, oq 79 (.slSl 1 77 none (some 78) none), om 12 79]) .skip)) R4))))) (.ops [ob 123 .add 50 (oi 1), om 50 123]))))
noncomputable def f46.c2 : PC := f46.t2 f46.c4
noncomputable def f46.t1 (R2 R3 : PC) : PC := (.seq (so [om 45 0, on 46 45, ox 47 3 46, ol 48 47, oq 49 (.lenSl 48), oq 50 (.mov (oi 0))] (.block 2 (.loop R2))) R3)
noncomputable def f46.c1 : PC := f46.t1 f46.c2 f46.c3
noncomputable def f46.c0 : PC := (so [ob 34 .lss 33 32] (.seq (.cond 34 .skip (.exit 0)) (.seq (.block 1 (so [om 35 33, om 9 35] (so [om 36 1, om 37 9, ob 38 .rem 37 (oi 60), oq 39 (.toInt .u64 38), ob 40 .shr 36 39, ob 41 .and 40 (oi 1), ob 42 .eql 41 (oi 1)] (.cond 42 (.ops [om 43 9, om 8 43]) .skip)))) (.ops [ob 44 .add 33 (oi 1), om 33 44]))))
noncomputable def f46.res : List PRes := [.tmp (sn 6)]
noncomputable def f46.p3 (C : CW) (Q : AVal → S → Prop) (E : En) (σ : S) : Prop :=
sN (E 7) fun t125 =>
sF 2 t125 fun t126 =>
sL t126 (σ.bumpT 9) fun t127 =>
sN (E 7) fun t129 =>
sF 1 t129 fun t130 =>
sL t130 (σ.bumpT 9) fun t131 =>
Eff (copyA 1 t127 t131 (σ.bumpT 9)) fun t132 σ1 =>
Ret [some (E 7)] σ1 Q
theorem f46.p3_eq : f46.p3 C Q E σ = wC C f46.c3 E σ (retK f46.res Q) := by kernel_rfl
abbrev f46.J3 (C : CW) (Q : AVal → S → Prop) (E : En) (σ : S) : Prop := wC C f46.c3 E σ (retK f46.res Q)
theorem f46.p3_of (h : f46.p3 C Q E σ) : f46.J3 C Q E σ := Eq.mp f46.p3_eq h
noncomputable def f46.p4 (C : CW) (Q : AVal → S → Prop) (R2 R3 : PC) (E : En) (σ : S) : Prop :=
sN (E 7) fun t81 =>
sF 1 t81 fun t82 =>
sL t82 (σ.bumpT 9) fun t83 =>
sF 1 (E 11) fun t84 =>
sL t84 (σ.bumpT 9) fun t85 =>
Som (vIxSl 1 t83 t85) fun t86 =>
sL t86 (σ.bumpT 9) fun t87 =>
sF 0 (E 11) fun t89 =>
sL t89 (σ.bumpT 9) fun t90 =>
Som (unA .not t90) fun t91 =>
WIf t91 (
sN (E 7) fun t93 =>
sF 1 t93 fun t94 =>
sL t94 ((σ.bumpT 9).bumpT 13) fun t95 =>
sF 1 (E 11) fun t96 =>
sL t96 ((σ.bumpT 9).bumpT 13) fun t97 =>
sF 2 (E 11) fun t99 =>
sL t99 ((σ.bumpT 9).bumpT 13) fun t100 =>
C 39 [t87, t100, (E 12)] ((σ.bumpT 9).bumpT 13) fun t102 σ1 =>
Sure (SameO (vLoad1 t94 σ1) t95) <|
Sure (SameO (vLoad1 t96 σ1) t97) <|
Som (vIxSl 1 t95 t97) fun t103 =>
sS 1 t103 t102 σ1 fun _ σ2 =>
sB .add (E 50) (i6 1) fun t123 =>
wC C (.loop R2) (((((((((E.q 80 (E 7) 81 t81 82 t82 83 t83).q 84 t84 85 t85 86 t86 87 t87).q 13 t87 89 t89 90 t90 91 t91).q 88 t91 92 (E 7) 93 t93 94 t94).q 95 t95 96 t96 97 t97 98 t87).q 99 t99 100 t100 101 (E 12) 102 t102).set 103 t103).set 123 t123).set 50 t123) σ2 (blockK 2 (seqK (wC C R3) (retK f46.res Q)))) (
sF 2 (E 11) fun t105 =>
sL t105 (σ.bumpT 9) fun t106 =>
Som (vLenSl t87) fun t108 =>
sB .leq t106 t108 fun t109 =>
WIf t109 (
sN (E 7) fun t111 =>
sF 1 t111 fun t112 =>
sL t112 ((σ.bumpT 9).bumpT 14) fun t113 =>
sF 1 (E 11) fun t114 =>
sL t114 ((σ.bumpT 9).bumpT 14) fun t115 =>
sF 2 (E 11) fun t117 =>
sL t117 ((σ.bumpT 9).bumpT 14) fun t118 =>
sF 2 (E 11) fun t119 =>
sL t119 ((σ.bumpT 9).bumpT 14) fun t120 =>
Som (vSlSl 1 t87 none (some t118) (some t120)) fun t121 =>
Som (vIxSl 1 t113 t115) fun t122 =>
sS 1 t122 t121 ((σ.bumpT 9).bumpT 14) fun _ σ1 =>
sB .add (E 50) (i6 1) fun t123 =>
wC C (.loop R2) ((((((((((E.q 80 (E 7) 81 t81 82 t82 83 t83).q 84 t84 85 t85 86 t86 87 t87).q 13 t87 89 t89 90 t90 91 t91).q 88 t91 105 t105 106 t106 107 t87).q 108 t108 109 t109 104 t109 110 (E 7)).q 111 t111 112 t112 113 t113 114 t114).q 115 t115 116 t87 117 t117 118 t118).q 119 t119 120 t120 121 t121 122 t122).set 123 t123).set 50 t123) σ1 (blockK 2 (seqK (wC C R3) (retK f46.res Q)))) (
sB .add (E 50) (i6 1) fun t123 =>
wC C (.loop R2) ((((((E.q 80 (E 7) 81 t81 82 t82 83 t83).q 84 t84 85 t85 86 t86 87 t87).q 13 t87 89 t89 90 t90 91 t91).q 88 t91 105 t105 106 t106 107 t87).q 108 t108 109 t109 104 t109 123 t123).set 50 t123) (σ.bumpT 9) (blockK 2 (seqK (wC C R3) (retK f46.res Q)))))
theorem f46.p4_eq {R2 R3 : PC} : f46.p4 C Q R2 R3 E σ = wC C f46.c4 E σ (blockK 3 (seqK (wC C (.ops [ob 123 .add 50 (oi 1), om 50 123])) (loopK C R2 (blockK 2 (seqK (wC C R3) (retK f46.res Q)))))) := by kernel_rfl
abbrev f46.J4 (C : CW) (Q : AVal → S → Prop) (E : En) (σ : S) : Prop := wC C f46.c4 E σ (blockK 3 (seqK (wC C (.ops [ob 123 .add 50 (oi 1), om 50 123])) (loopK C f46.c2 (blockK 2 (seqK (wC C f46.c3) (retK f46.res Q))))))
theorem f46.p4_of (h : f46.p4 C Q f46.c2 f46.c3 E σ) : f46.J4 C Q E σ := Eq.mp f46.p4_eq h
noncomputable def f46.p2 (C : CW) (Q : AVal → S → Prop) (R2 R3 R4 : PC) (E : En) (σ : S) : Prop :=
sB .lss (E 50) (E 49) fun t51 =>
WIf t51 (
Som (vIxSl 4 (E 48) (E 50)) fun t53 =>
Som (vLoadN 4 t53 σ) fun t54 =>
Ala (aAllocV [(.bool false), (i6 0), (i6 0), .nsl]) σ fun t11 σ1 =>
sS 4 t11 t54 σ1 fun _ σ2 =>
sB .rem (E 50) (i6 60) fun t57 =>
Som (vToInt .u64 t57) fun t58 =>
sB .shr (E 1) t58 fun t59 =>
sB .and t59 (i6 1) fun t60 =>
sB .eql t60 (i6 0) fun t61 =>
WIf t61 (
sB .add (E 50) (i6 1) fun t123 =>
wC C (.loop R2) ((((((E.q 51 t51 52 (E 50) 53 t53 54 t54).q 11 t11 10 (E 50) 55 (E 1) 56 (E 50)).q 57 t57 58 t58 59 t59 60 t60).set 61 t61).set 123 t123).set 50 t123) σ2 (blockK 2 (seqK (wC C R3) (retK f46.res Q)))) (
sF 3 t11 fun t62 =>
sL t62 σ2 fun t63 =>
sB .eql (E 50) (E 8) fun t66 =>
sT t66 (some (E 2)) fun t68 =>
sT t66 (binA .geq .num t68 (i6 0)) fun t69 =>
sP t66 t69 (.bool false) fun t70 =>
sT t70 (some (E 2)) fun t72 =>
sT t70 (some t63) fun t73 =>
sT t70 (vLenSl t73) fun t74 =>
sT t70 (binA .lss .num t72 t74) fun t75 =>
sP t70 t75 (.bool false) fun t76 =>
WIf t76 (
Som (vSlSl 1 t63 none (some (E 2)) none) fun t79 =>
wC C R4 (((((((((E.q 51 t51 52 (E 50) 53 t53 54 t54).q 11 t11 10 (E 50) 55 (E 1) 56 (E 50)).q 57 t57 58 t58 59 t59 60 t60).q 61 t61 62 t62 63 t63 12 t63).q 64 (E 50) 65 (E 8) 66 t66 67 t66).q 68 t68 69 t69 70 t70 71 t70).q 72 t72 73 t73 74 t74 75 t75).q 76 t76 77 t63 78 (E 2) 79 t79).set 12 t79) σ2 (blockK 3 (seqK (wC C (.ops [ob 123 .add 50 (oi 1), om 50 123])) (loopK C R2 (blockK 2 (seqK (wC C R3) (retK f46.res Q))))))) (
wC C R4 ((((((((E.q 51 t51 52 (E 50) 53 t53 54 t54).q 11 t11 10 (E 50) 55 (E 1) 56 (E 50)).q 57 t57 58 t58 59 t59 60 t60).q 61 t61 62 t62 63 t63 12 t63).q 64 (E 50) 65 (E 8) 66 t66 67 t66).q 68 t68 69 t69 70 t70 71 t70).q 72 t72 73 t73 74 t74 75 t75).set 76 t76) σ2 (blockK 3 (seqK (wC C (.ops [ob 123 .add 50 (oi 1), om 50 123])) (loopK C R2 (blockK 2 (seqK (wC C R3) (retK f46.res Q))))))))) (
wC C R3 (E.set 51 t51) σ (retK f46.res Q))
theorem f46.p2_eq {R2 R3 R4 : PC} : f46.p2 C Q R2 R3 R4 E σ = wC C (f46.t2 R4) E σ (loopK C R2 (blockK 2 (seqK (wC C R3) (retK f46.res Q)))) := by kernel_rfl
abbrev f46.L2 (C : CW) (Q : AVal → S → Prop) (E : En) (σ : S) : Prop := wC C (.loop f46.c2) E σ (blockK 2 (seqK (wC C f46.c3) (retK f46.res Q)))
theorem f46.p2_of (h : f46.p2 (WF tab) Q f46.c2 f46.c3 f46.c4 E σ) : f46.L2 (WF tab) Q E σ := wLoop_step (Eq.mp f46.p2_eq h)
noncomputable def f46.p1 (C : CW) (Q : AVal → S → Prop) (R2 R3 : PC) (E : En) (σ : S) : Prop :=
sN (E 0) fun t46 =>
sF 3 t46 fun t47 =>
sL t47 σ fun t48 =>
Som (vLenSl t48) fun t49 =>
wC C (.loop R2) (((E.q 45 (E 0) 46 t46 47 t47 48 t48).set 49 t49).set 50 (i6 0)) σ (blockK 2 (seqK (wC C R3) (retK f46.res Q)))
theorem f46.p1_eq {R2 R3 : PC} : f46.p1 C Q R2 R3 E σ = wC C (f46.t1 R2 R3) E σ (retK f46.res Q) := by kernel_rfl
abbrev f46.J1 (C : CW) (Q : AVal → S → Prop) (E : En) (σ : S) : Prop := wC C f46.c1 E σ (retK f46.res Q)
theorem f46.p1_of (h : f46.p1 C Q f46.c2 f46.c3 E σ) : f46.J1 C Q E σ := Eq.mp f46.p1_eq h
noncomputable def f46.p0 (C : CW) (Q : AVal → S → Prop) (R0 R1 : PC) (E : En) (σ : S) : Prop :=
sB .lss (E 33) (E 32) fun t34 =>
WIf t34 (
sB .rem (E 33) (i6 60) fun t38 =>
Som (vToInt .u64 t38) fun t39 =>
sB .shr (E 1) t39 fun t40 =>
sB .and t40 (i6 1) fun t41 =>
sB .eql t41 (i6 1) fun t42 =>
WIf t42 (
sB .add (E 33) (i6 1) fun t44 =>
wC C (.loop R0) (((((E.q 34 t34 35 (E 33) 9 (E 33) 36 (E 1)).q 37 (E 33) 38 t38 39 t39 40 t40).q 41 t41 42 t42 43 (E 33) 8 (E 33)).set 44 t44).set 33 t44) σ (blockK 0 (seqK (wC C R1) (retK f46.res Q)))) (
sB .add (E 33) (i6 1) fun t44 =>
wC C (.loop R0) (((E.q 34 t34 35 (E 33) 9 (E 33) 36 (E 1)).q 37 (E 33) 38 t38 39 t39 40 t40).q 41 t41 42 t42 44 t44 33 t44) σ (blockK 0 (seqK (wC C R1) (retK f46.res Q))))) (
wC C R1 (E.set 34 t34) σ (retK f46.res Q))
theorem f46.p0_eq {R0 R1 : PC} : f46.p0 C Q R0 R1 E σ = wC C f46.c0 E σ (loopK C R0 (blockK 0 (seqK (wC C R1) (retK f46.res Q)))) := by kernel_rfl
abbrev f46.L0 (C : CW) (Q : AVal → S → Prop) (E : En) (σ : S) : Prop := wC C (.loop f46.c0) E σ (blockK 0 (seqK (wC C f46.c1) (retK f46.res Q)))
theorem f46.p0_of (h : f46.p0 (WF tab) Q f46.c0 f46.c1 E σ) : f46.L0 (WF tab) Q E σ := wLoop_step (Eq.mp f46.p0_eq h)
noncomputable def f46.body (R0 R1 : PC) : PC := (so [oq 6 (.mov (.val .nptr))] (so [om 14 0, on 15 14, ox 16 0 15, ol 17 16, oe 18 (.call 35 [17]), om 7 18] (.seq (.draw 9 [⟨0, om 19 7, []⟩, ⟨1, on 20 19, []⟩, ⟨2, ox 21 1 20, []⟩, ⟨3, ol 22 21, []⟩, ⟨4, om 23 0, []⟩, ⟨5, on 24 23, []⟩, ⟨6, ox 25 2 24, []⟩, ⟨7, ol 26 25, []⟩, ⟨8, oe 27 (.copy 1 22 26), []⟩]) (so [oq 8 (.mov (.val (.int .i64 (-1))))] (.seq (so [om 28 0, on 29 28, ox 30 3 29, ol 31 30, oq 32 (.lenSl 31), oq 33 (.mov (oi 0))] (.block 0 (.loop R0))) R1)))))
noncomputable def f46.fn : PFn := .code (slotsN 134) (f46.body f46.c0 f46.c1) f46.res
noncomputable def f46 (C : CW) (R0 R1 : PC) (a0 a1 a2 : AVal) (σ : S) (Q : AVal → S → Prop) : Prop :=
sN a0 fun t15 =>
sF 0 t15 fun t16 =>
sL t16 σ fun t17 =>
C 35 [t17] σ fun t18 σ1 =>
sN t18 fun t20 =>
sF 1 t20 fun t21 =>
sL t21 (σ1.bumpT 9) fun t22 =>
sN a0 fun t24 =>
sF 2 t24 fun t25 =>
sL t25 (σ1.bumpT 9) fun t26 =>
Eff (copyA 1 t22 t26 (σ1.bumpT 9)) fun t27 σ2 =>
sN a0 fun t29 =>
sF 3 t29 fun t30 =>
sL t30 σ2 fun t31 =>
Som (vLenSl t31) fun t32 =>
wC C (.loop R0) ((((((((E0.q 0 a0 1 a1 2 a2 6 .nptr).q 14 a0 15 t15 16 t16 17 t17).q 18 t18 7 t18 19 t18 20 t20).q 21 t21 22 t22 23 a0 24 t24).q 25 t25 26 t26 27 t27 8 (.int .i64 (-1))).q 28 a0 29 t29 30 t30 31 t31).set 32 t32).set 33 (i6 0)) σ2 (blockK 0 (seqK (wC C R1) (retK f46.res Q)))
theorem f46_eq {R0 R1 : PC} {a0 a1 a2 : AVal} : f46 C R0 R1 a0 a1 a2 σ Q = wC C (f46.body R0 R1) (((E0.set 0 a0).set 1 a1).set 2 a2) σ (retK f46.res Q) := by kernel_rfl
theorem f46_wf (ht : tab 46 = some f46.fn) {a0 a1 a2 : AVal} (h : f46 (WF tab) f46.c0 f46.c1 a0 a1 a2 σ Q) : WF tab 46 [a0, a1, a2] σ Q := wf_of ht (by kernel_rfl) f46_eq h
noncomputable def f47.res : List PRes := [.tmp (sn 10)]
noncomputable def f47.body : PC := (so [oq 10 (.mov (oi 0))] (so [om 15 0, oe 16 (.call 49 [15]), om 11 16] (so [om 17 1, om 18 0, on 19 18, ox 20 2 19, ol 21 20, om 22 2, oe 23 (.call 50 [(.val .nsl), 17, 21, 22, (oi 0), (.val (.str []))]), om 12 23] (so [om 24 11, om 25 12, oe 26 (.append 1 1 24 25), om 13 26] (.seq (.seq (.draw 14 [⟨0, om 27 0, []⟩, ⟨1, on 28 27, []⟩, ⟨2, ox 29 5 28, []⟩, ⟨3, ol 30 29, []⟩, ⟨4, om 31 13, []⟩, ⟨5, oq 32 (.lenSl 31), []⟩, ⟨6, ob 33 .add 30 32, []⟩, ⟨7, om 34 0, []⟩, ⟨8, om 35 3, []⟩, ⟨9, om 36 4, []⟩, ⟨10, oe 37 (.call 76 [34, 35, 36]), [ol 30 29]⟩, ⟨11, ob 38 .mul (oi 2) 37, []⟩, ⟨12, ob 39 .add 38 (oi 4096), []⟩, ⟨13, ob 40 .gtr 33 39, []⟩]) (.cond 40 (so [om 41 0, om 42 3, om 43 4, oe 44 (.call 45 [41, 42, 43]), om 10 44] .ret) .skip)) (.seq (so [om 45 0, om 46 13, oe 47 (.call 51 [45, 46]), om 14 47] (so [om 48 14, ob 49 .neq 48 (oi 0)] (.cond 49 (so [om 50 14, om 10 50] .ret) .skip))) (so [om 51 0, om 52 3, om 53 4, oe 54 (.call 75 [51, 52, 53])] (so [oq 10 (.mov (oi 0))] .ret))))))))
noncomputable def f47.fn : PFn := .code (slotsN 55) f47.body f47.res
noncomputable def f47 (C : CW) (a0 a1 a2 a3 a4 : AVal) (σ : S) (Q : AVal → S → Prop) : Prop :=
C 49 [a0] σ fun t16 σ1 =>
sN a0 fun t19 =>
sF 2 t19 fun t20 =>
sL t20 σ1 fun t21 =>
C 50 [.nsl, a1, t21, a2, (i6 0), (.str [])] σ1 fun t23 σ2 =>
Eff (appendA 1 1 t16 t23 σ2) fun t26 σ3 =>
sN a0 fun t28 =>
sF 5 t28 fun t29 =>
sL t29 (σ3.bumpT 14) fun t30 =>
Som (vLenSl t26) fun t32 =>
sB .add t30 t32 fun t33 =>
C 76 [a0, a3, a4] (σ3.bumpT 14) fun t37 σ4 =>
Sure (SameO (vLoad1 t29 σ4) t30) <|
sB .mul (i6 2) t37 fun t38 =>
sB .add t38 (i6 4096) fun t39 =>
sB .gtr t33 t39 fun t40 =>
WIf t40 (
C 45 [a0, a3, a4] σ4 fun t44 σ5 =>
Ret [some t44] σ5 Q) (
C 51 [a0, t26] σ4 fun t47 σ5 =>
sB .neq t47 (i6 0) fun t49 =>
WIf t49 (
Ret [some t47] σ5 Q) (
C 75 [a0, a3, a4] σ5 fun t54 σ6 =>
Ret [some (i6 0)] σ6 Q))
theorem f47_eq {a0 a1 a2 a3 a4 : AVal} : f47 C a0 a1 a2 a3 a4 σ Q = wC C f47.body ((E0.q 0 a0 1 a1 2 a2 3 a3).set 4 a4) σ (retK f47.res Q) := by kernel_rfl
theorem f47_wf (ht : tab 47 = some f47.fn) {a0 a1 a2 a3 a4 : AVal} (h : f47 (WF tab) a0 a1 a2 a3 a4 σ Q) : WF tab 47 [a0, a1, a2, a3, a4] σ Q := wf_of ht (by kernel_rfl) f47_eq h
noncomputable def f48.res : List PRes := [.tmp (sn 6)]
noncomputable def f48.body : PC := (so [oq 6 (.mov oF)] (.seq (so [om 7 0, on 8 7, ox 9 4 8, ol 10 9, oq 11 (.lenSl 10), ob 12 .gtr 11 (oi 0), om 13 12, oqg 14 13 true (.mov 1), oqg 15 13 true (.mov 0), oeg 16 13 true (.call 15 [15]), oqg 17 13 true (.bin .add .num 16 (oi 1)), oqg 18 13 true (.bin .neq .num 14 17), oq 19 (.pick 13 18 oF), om 20 19, oqg 21 20 false (.mov 0), oqg 22 20 false (.nilck 21), oqg 23 20 false (.fieldAddr 4 22), oqg 24 20 false (.load1 23), oqg 25 20 false (.lenSl 24), oqg 26 20 false (.bin .eql .num 25 (oi 0)), oqg 27 20 false (.mov 26), oqg 28 27 true (.mov 1), oqg 29 27 true (.bin .lss .num 28 (oi 1)), oqg 30 27 true (.mov 29), oqg 31 30 false (.mov 1), oqg 32 30 false (.bin .gtr .num 31 (oi 1099511627777)), oqg 33 27 true (.pick 30 oT 32), oqg 34 20 false (.pick 27 33 oF), oq 35 (.pick 20 oT 34)] (.cond 35 (so [oq 6 (.mov oF)] .ret) .skip)) (so [om 36 1, om 37 2, ob 38 .add 36 37, ob 39 .sub 38 (oi 1), ob 40 .leq 39 (oi 1099511627776), om 6 40] .ret)))
noncomputable def f48.fn : PFn := .code (slotsN 41) f48.body f48.res
noncomputable def f48 (C : CW) (a0 a1 a2 : AVal) (σ : S) (Q : AVal → S → Prop) : Prop :=
sN a0 fun t8 =>
sF 4 t8 fun t9 =>
sL t9 σ fun t10 =>
Som (vLenSl t10) fun t11 =>
sB .gtr t11 (i6 0) fun t12 =>
sT t12 (some a1) fun t14 =>
sT t12 (some a0) fun t15 =>
gE1 (isB t12 true) (fun K => C 15 [t15] σ K) σ fun t16 σ1 =>
sT t12 (binA .add .num t16 (i6 1)) fun t17 =>
sT t12 (binA .neq .num t14 t17) fun t18 =>
sP t12 t18 (.bool false) fun t19 =>
sU t19 (some a0) fun t21 =>
sU t19 (vNilck t21) fun t22 =>
sU t19 (vFieldAddr 4 t22) fun t23 =>
sU t19 (vLoad1 t23 σ1) fun t24 =>
sU t19 (vLenSl t24) fun t25 =>
sU t19 (binA .eql .num t25 (i6 0)) fun t26 =>
sU t19 (some t26) fun t27 =>
sT t27 (some a1) fun t28 =>
sT t27 (binA .lss .num t28 (i6 1)) fun t29 =>
sT t27 (some t29) fun t30 =>
sU t30 (some a1) fun t31 =>
sU t30 (binA .gtr .num t31 (i6 1099511627777)) fun t32 =>
sT t27 (vPick t30 (.bool true) t32) fun t33 =>
sU t19 (vPick t27 t33 (.bool false)) fun t34 =>
sP t19 (.bool true) t34 fun t35 =>
WIf t35 (
Ret [some (.bool false)] σ1 Q) (
sB .add a1 a2 fun t38 =>
sB .sub t38 (i6 1) fun t39 =>
sB .leq t39 (i6 1099511627776) fun t40 =>
Ret [some t40] σ1 Q)
theorem f48_eq {a0 a1 a2 : AVal} : f48 C a0 a1 a2 σ Q = wC C f48.body (((E0.set 0 a0).set 1 a1).set 2 a2) σ (retK f48.res Q) := by kernel_rfl
theorem f48_wf (ht : tab 48 = some f48.fn) {a0 a1 a2 : AVal} (h : f48 (WF tab) a0 a1 a2 σ Q) : WF tab 48 [a0, a1, a2] σ Q := wf_of ht (by kernel_rfl) f48_eq h
noncomputable def f49.res : List PRes := [.tmp (sn 2)]
noncomputable def f49.body : PC := (so [oq 2 (.mov (.val .nsl))] (.seq (so [om 3 0, on 4 3, ox 5 5 4, ol 6 5, ob 7 .gtr 6 (oi 0)] (.cond 7 (so [oq 2 (.mov (.val .nsl))] .ret) .skip)) (so [om 8 0, om 9 0, on 10 9, ox 11 2 10, ol 12 11, oq 13 (.maxI 12 [(oi 1)]), on 14 8, ox 15 2 14, os (.store 1 15 13)] (.seq (.draw 10 [⟨0, om 16 0, []⟩, ⟨1, on 17 16, []⟩, ⟨2, ox 18 2 17, []⟩, ⟨3, ol 19 18, []⟩, ⟨4, om 20 0, []⟩, ⟨5, on 21 20, []⟩, ⟨6, ox 22 3 21, []⟩, ⟨7, ol 23 22, []⟩, ⟨8, oe 24 (.call 50 [(.val .nsl), (oi 0), 19, 23, (oi 0), (.val (.str []))]), []⟩, ⟨9, om 2 24, []⟩]) .ret))))
noncomputable def f49.fn : PFn := .code (slotsN 25) f49.body f49.res
noncomputable def f49 (C : CW) (a0 : AVal) (σ : S) (Q : AVal → S → Prop) : Prop :=
sN a0 fun t4 =>
sF 5 t4 fun t5 =>
sL t5 σ fun t6 =>
sB .gtr t6 (i6 0) fun t7 =>
WIf t7 (
Ret [some .nsl] σ Q) (
sN a0 fun t10 =>
sF 2 t10 fun t11 =>
sL t11 σ fun t12 =>
Som (maxA t12 [(i6 1)]) fun t13 =>
sN a0 fun t14 =>
sF 2 t14 fun t15 =>
sS 1 t15 t13 σ fun _ σ1 =>
sN a0 fun t17 =>
sF 2 t17 fun t18 =>
sL t18 (σ1.bumpT 10) fun t19 =>
sN a0 fun t21 =>
sF 3 t21 fun t22 =>
sL t22 (σ1.bumpT 10) fun t23 =>
C 50 [.nsl, (i6 0), t19, t23, (i6 0), (.str [])] (σ1.bumpT 10) fun t24 σ2 =>
Ret [some t24] σ2 Q)
theorem f49_eq {a0 : AVal} : f49 C a0 σ Q = wC C f49.body (E0.set 0 a0) σ (retK f49.res Q) := by kernel_rfl
theorem f49_wf (ht : tab 49 = some f49.fn) {a0 : AVal} (h : f49 (WF tab) a0 σ Q) : WF tab 49 [a0] σ Q := wf_of ht (by kernel_rfl) f49_eq h
noncomputable def f50.res : List PRes := [.tmp (sn 12)]
noncomputable def f50.body : PC := (so [oq 12 (.mov (.val .nsl))] (so [om 14 1, oe 15 (.call 77 [(.val .nsl), 14]), om 16 2, oe 17 (.call 77 [15, 16]), om 18 3, oe 19 (.call 77 [17, 18]), om 20 4, oe 21 (.call 77 [19, 20]), om 13 21] (so [om 22 0, om 23 13, om 24 5, oe 25 (.append 1 1 23 24), oe 26 (.call 78 [22, 25]), om 12 26] .ret)))
noncomputable def f50.fn : PFn := .code (slotsN 27) f50.body f50.res
noncomputable def f50 (C : CW) (a0 a1 a2 a3 a4 a5 : AVal) (σ : S) (Q : AVal → S → Prop) : Prop :=
C 77 [.nsl, a1] σ fun t15 σ1 =>
C 77 [t15, a2] σ1 fun t17 σ2 =>
C 77 [t17, a3] σ2 fun t19 σ3 =>
C 77 [t19, a4] σ3 fun t21 σ4 =>
Eff (appendA 1 1 t21 a5 σ4) fun t25 σ5 =>
C 78 [a0, t25] σ5 fun t26 σ6 =>
Ret [some t26] σ6 Q
theorem f50_eq {a0 a1 a2 a3 a4 a5 : AVal} : f50 C a0 a1 a2 a3 a4 a5 σ Q = wC C f50.body (((E0.q 0 a0 1 a1 2 a2 3 a3).set 4 a4).set 5 a5) σ (retK f50.res Q) := by kernel_rfl
theorem f50_wf (ht : tab 50 = some f50.fn) {a0 a1 a2 a3 a4 a5 : AVal} (h : f50 (WF tab) a0 a1 a2 a3 a4 a5 σ Q) : WF tab 50 [a0, a1, a2, a3, a4, a5] σ Q := wf_of ht (by kernel_rfl) f50_eq h
noncomputable def f51.res : List PRes := [.tmp (sn 4)]
noncomputable def f51.body : PC := (so [oq 4 (.mov (oi 0))] (.seq (.draw 15 [⟨0, om 6 0, []⟩, ⟨1, on 7 6, []⟩, ⟨2, ox 8 0 7, []⟩, ⟨3, ol 9 8, []⟩, ⟨4, om 10 0, []⟩, ⟨5, on 11 10, []⟩, ⟨6, ox 12 1 11, []⟩, ⟨7, ol 13 12, []⟩, ⟨8, om 14 0, []⟩, ⟨9, on 15 14, []⟩, ⟨10, ox 16 5 15, []⟩, ⟨11, ol 17 16, []⟩, ⟨12, om 18 1, []⟩, ⟨13, oe 19 (.call 10 [9, 13, 17, 18]), []⟩, ⟨14, om 5 19, []⟩]) (.seq (so [om 20 5, ob 21 .eql 20 (oi 0)] (.cond 21 (.ops [om 22 0, on 23 22, ox 24 5 23, ol 25 24, om 26 1, oq 27 (.lenSl 26), ob 28 .add 25 27, on 29 22, ox 30 5 29, os (.store 1 30 28)]) .skip)) (so [om 31 5, om 4 31] .ret))))
noncomputable def f51.fn : PFn := .code (slotsN 32) f51.body f51.res
noncomputable def f51 (C : CW) (a0 a1 : AVal) (σ : S) (Q : AVal → S → Prop) : Prop :=
sN a0 fun t7 =>
sF 0 t7 fun t8 =>
sL t8 (σ.bumpT 15) fun t9 =>
sN a0 fun t11 =>
sF 1 t11 fun t12 =>
sL t12 (σ.bumpT 15) fun t13 =>
sN a0 fun t15 =>
sF 5 t15 fun t16 =>
sL t16 (σ.bumpT 15) fun t17 =>
C 10 [t9, t13, t17, a1] (σ.bumpT 15) fun t19 σ1 =>
sB .eql t19 (i6 0) fun t21 =>
WIf t21 (
sN a0 fun t23 =>
sF 5 t23 fun t24 =>
sL t24 σ1 fun t25 =>
Som (vLenSl a1) fun t27 =>
sB .add t25 t27 fun t28 =>
sN a0 fun t29 =>
sF 5 t29 fun t30 =>
sS 1 t30 t28 σ1 fun _ σ2 =>
Ret [some t19] σ2 Q) (
Ret [some t19] σ1 Q)
theorem f51_eq {a0 a1 : AVal} : f51 C a0 a1 σ Q = wC C f51.body ((E0.set 0 a0).set 1 a1) σ (retK f51.res Q) := by kernel_rfl
theorem f51_wf (ht : tab 51 = some f51.fn) {a0 a1 : AVal} (h : f51 (WF tab) a0 a1 σ Q) : WF tab 51 [a0, a1] σ Q := wf_of ht (by kernel_rfl) f51_eq h
noncomputable def f52.res : List PRes := []
noncomputable def f52.body : PC := (so [om 6 0, om 7 1, oe 8 (.call 79 [6, 7])] (so [om 9 0, om 10 0, on 11 10, ox 12 4 11, ol 13 12, om 14 2, oa 15 (.bslice 1 [(.str [])] 1 [(0, 1, 14)]), oe 16 (.append 1 16 13 15), on 17 9, ox 18 4 17, os (.store 1 18 16)] (.draw 15 [⟨0, om 19 0, []⟩, ⟨1, on 20 19, []⟩, ⟨2, ox 21 6 20, []⟩, ⟨3, ol 22 21, []⟩, ⟨4, om 23 0, []⟩, ⟨5, on 24 23, []⟩, ⟨6, ox 25 2 24, []⟩, ⟨7, ol 26 25, []⟩, ⟨8, om 27 1, []⟩, ⟨9, om 28 2, []⟩, ⟨10, oe 29 (.call 80 [26, 27, 28]), [ol 22 21]⟩, ⟨11, ob 30 .add 22 29, []⟩, ⟨12, on 31 19, []⟩, ⟨13, ox 32 6 31, []⟩, ⟨14, os (.store 1 32 30), []⟩])))
noncomputable def f52.fn : PFn := .code (slotsN 33) f52.body f52.res
noncomputable def f52 (C : CW) (a0 a1 a2 : AVal) (σ : S) (Q : AVal → S → Prop) : Prop :=
C 79 [a0, a1] σ fun t8 σ1 =>
sN a0 fun t11 =>
sF 4 t11 fun t12 =>
sL t12 σ1 fun t13 =>
Ala (aSliceV 1 [(.str [])] 1 [(0, 1, a2)]) σ1 fun t15 σ2 =>
Eff (appendA 1 16 t13 t15 σ2) fun t16 σ3 =>
sN a0 fun t17 =>
sF 4 t17 fun t18 =>
sS 1 t18 t16 σ3 fun _ σ4 =>
sN a0 fun t20 =>
sF 6 t20 fun t21 =>
sL t21 (σ4.bumpT 15) fun t22 =>
sN a0 fun t24 =>
sF 2 t24 fun t25 =>
sL t25 (σ4.bumpT 15) fun t26 =>
C 80 [t26, a1, a2] (σ4.bumpT 15) fun t29 σ5 =>
Sure (SameO (vLoad1 t21 σ5) t22) <|
sB .add t22 t29 fun t30 =>
sN a0 fun t31 =>
sF 6 t31 fun t32 =>
sS 1 t32 t30 σ5 fun _ σ6 =>
Ret [] σ6 Q
theorem f52_eq {a0 a1 a2 : AVal} : f52 C a0 a1 a2 σ Q = wC C f52.body (((E0.set 0 a0).set 1 a1).set 2 a2) σ (retK f52.res Q) := by kernel_rfl
theorem f52_wf (ht : tab 52 = some f52.fn) {a0 a1 a2 : AVal} (h : f52 (WF tab) a0 a1 a2 σ Q) : WF tab 52 [a0, a1, a2] σ Q := wf_of ht (by kernel_rfl) f52_eq h
noncomputable def f53.res : List PRes := [.tmp (sn 4)]
noncomputable def f53.body : PC := (so [oa 2 (.box 0), oa 3 (.box 1), oq 4 (.mov (oi 0))] (.seq (so [ox 5 5 3, ol 6 5, om 7 6, oqg 8 7 false (.fieldAddr 1 3), oqg 9 7 false (.load1 8), oqg 10 7 false (.bin .lss .num 9 (.val (.int .i64 (-100)))), oq 11 (.pick 7 oT 10), om 12 11, oqg 13 12 false (.fieldAddr 1 3), oqg 14 12 false (.load1 13), oqg 15 12 false (.bin .gtr .num 14 (oi 100)), oq 16 (.pick 12 oT 15)] (.cond 16 (so [ox 17 1 3, ol 18 17, om 4 18] .ret) .skip)) (.seq (so [ox 19 0 3, ol 20 19, ob 21 .eql 20 (oi 3)] (.cond 21 (so [ox 22 0 2, ol 23 22, ox 24 1 3, ol 25 24, ob 26 .add 23 25, om 4 26] .ret) .skip)) (.seq (.draw 7 [⟨0, oq 27 (.loadN 2 2), []⟩, ⟨3, ox 30 1 3, []⟩, ⟨4, ol 31 30, []⟩, ⟨1, oe 28 (.call 81 [27]), [ol 31 30]⟩, ⟨2, ob 29 .add 28 (oi 1), []⟩, ⟨5, ob 32 .add 29 31, []⟩, ⟨6, om 4 32, []⟩]) .ret))))
noncomputable def f53.fn : PFn := .code (slotsN 33) f53.body f53.res
noncomputable def f53 (C : CW) (a0 a1 : AVal) (σ : S) (Q : AVal → S → Prop) : Prop :=
Ala (aBoxV a0) σ fun t2 σ1 =>
Ala (aBoxV a1) σ1 fun t3 σ2 =>
sF 5 t3 fun t5 =>
sL t5 σ2 fun t6 =>
sU t6 (vFieldAddr 1 t3) fun t8 =>
sU t6 (vLoad1 t8 σ2) fun t9 =>
sU t6 (binA .lss .num t9 (.int .i64 (-100))) fun t10 =>
sP t6 (.bool true) t10 fun t11 =>
sU t11 (vFieldAddr 1 t3) fun t13 =>
sU t11 (vLoad1 t13 σ2) fun t14 =>
sU t11 (binA .gtr .num t14 (i6 100)) fun t15 =>
sP t11 (.bool true) t15 fun t16 =>
WIf t16 (
sF 1 t3 fun t17 =>
sL t17 σ2 fun t18 =>
Ret [some t18] σ2 Q) (
sF 0 t3 fun t19 =>
sL t19 σ2 fun t20 =>
sB .eql t20 (i6 3) fun t21 =>
WIf t21 (
sF 0 t2 fun t22 =>
sL t22 σ2 fun t23 =>
sF 1 t3 fun t24 =>
sL t24 σ2 fun t25 =>
sB .add t23 t25 fun t26 =>
Ret [some t26] σ2 Q) (
Som (vLoadN 2 t2 (σ2.bumpT 7)) fun t27 =>
sF 1 t3 fun t30 =>
sL t30 (σ2.bumpT 7) fun t31 =>
C 81 [t27] (σ2.bumpT 7) fun t28 σ3 =>
Sure (SameO (vLoad1 t30 σ3) t31) <|
sB .add t28 (i6 1) fun t29 =>
sB .add t29 t31 fun t32 =>
Ret [some t32] σ3 Q))
theorem f53_eq {a0 a1 : AVal} : f53 C a0 a1 σ Q = wC C f53.body ((E0.set 0 a0).set 1 a1) σ (retK f53.res Q) := by kernel_rfl
theorem f53_wf (ht : tab 53 = some f53.fn) {a0 a1 : AVal} (h : f53 (WF tab) a0 a1 σ Q) : WF tab 53 [a0, a1] σ Q := wf_of ht (by kernel_rfl) f53_eq h
noncomputable def f54.c1 : PC := (.seq (.draw 14 [⟨0, ox 54 1 3, []⟩, ⟨1, ol 55 54, []⟩, ⟨2, ox 56 0 2, []⟩, ⟨3, ol 57 56, []⟩, ⟨4, ob 58 .lss 55 57, []⟩, ⟨5, om 59 58, []⟩, ⟨6, oqg 60 59 false (.fieldAddr 1 3), []⟩, ⟨7, oqg 61 59 false (.load1 60), []⟩, ⟨8, oqg 62 59 false (.loadN 2 2), []⟩, ⟨9, oeg 63 59 false (.call 81 [62]), [oqg 61 59 false (.load1 60)]⟩, ⟨10, oqg 64 59 false (.bin .add .num 63 (oi 1)), []⟩, ⟨11, oqg 65 59 false (.bin .gtr .num 61 64), []⟩, ⟨12, oq 66 (.pick 59 oT 65), []⟩, ⟨13, om 4 66, []⟩]) .ret)
noncomputable def f54.c0 : PC := (.seq (so [om 40 5, ox 41 2 3, ol 42 41, oq 43 (.lenSl 42), ob 44 .lss 40 43] (.cond 44 .skip (.exit 1))) (.seq (.block 2 (so [ox 47 2 3, ol 48 47, om 49 5, oq 50 (.ixSl 1 48 49), ol 51 50, oq 52 (.lenStr 51), ob 53 .gtr 52 (oi 16284)] (.cond 53 (so [oq 4 (.mov oT)] .ret) .skip))) (.ops [om 45 5, ob 46 .add 45 (oi 1), om 5 46])))
noncomputable def f54.res : List PRes := [.tmp (sn 4)]
noncomputable def f54.p1 (C : CW) (Q : AVal → S → Prop) (E : En) (σ : S) : Prop :=
sF 1 (E 3) fun t54 =>
sL t54 (σ.bumpT 14) fun t55 =>
sF 0 (E 2) fun t56 =>
sL t56 (σ.bumpT 14) fun t57 =>
sB .lss t55 t57 fun t58 =>
sU t58 (vFieldAddr 1 (E 3)) fun t60 =>
sU t58 (vLoad1 t60 (σ.bumpT 14)) fun t61 =>
sU t58 (vLoadN 2 (E 2) (σ.bumpT 14)) fun t62 =>
gE1 (isB t58 false) (fun K => C 81 [t62] (σ.bumpT 14) fun t63 σ1 => Sure ((notB (isB t58 false) || SameO (vLoad1 t60 σ1) t61)) (K t63 σ1)) (σ.bumpT 14) fun t63 σ1 =>
sU t58 (binA .add .num t63 (i6 1)) fun t64 =>
sU t58 (binA .gtr .num t61 t64) fun t65 =>
sP t58 (.bool true) t65 fun t66 =>
Ret [some t66] σ1 Q
theorem f54.p1_eq : f54.p1 C Q E σ = wC C f54.c1 E σ (retK f54.res Q) := by kernel_rfl
abbrev f54.J1 (C : CW) (Q : AVal → S → Prop) (E : En) (σ : S) : Prop := wC C f54.c1 E σ (retK f54.res Q)
theorem f54.p1_of (h : f54.p1 C Q E σ) : f54.J1 C Q E σ := Eq.mp f54.p1_eq h
noncomputable def f54.p0 (C : CW) (Q : AVal → S → Prop) (R0 R1 : PC) (E : En) (σ : S) : Prop :=
sF 2 (E 3) fun t41 =>
sL t41 σ fun t42 =>
Som (vLenSl t42) fun t43 =>
sB .lss (E 5) t43 fun t44 =>
WIf t44 (
sF 2 (E 3) fun t47 =>
sL t47 σ fun t48 =>
Som (vIxSl 1 t48 (E 5)) fun t50 =>
sL t50 σ fun t51 =>
Som (vLenStr t51) fun t52 =>
sB .gtr t52 (i6 16284) fun t53 =>
WIf t53 (
Ret [some (.bool true)] σ Q) (
sB .add (E 5) (i6 1) fun t46 =>
wC C (.loop R0) ((((((E.q 40 (E 5) 41 t41 42 t42 43 t43).q 44 t44 47 t47 48 t48 49 (E 5)).q 50 t50 51 t51 52 t52 53 t53).set 45 (E 5)).set 46 t46).set 5 t46) σ (blockK 1 (seqK (wC C (so [oq 4 (.mov oF)] .ret)) (blockK 0 (seqK (wC C R1) (retK f54.res Q))))))) (
Ret [some (.bool false)] σ Q)
theorem f54.p0_eq {R0 R1 : PC} : f54.p0 C Q R0 R1 E σ = wC C f54.c0 E σ (loopK C R0 (blockK 1 (seqK (wC C (so [oq 4 (.mov oF)] .ret)) (blockK 0 (seqK (wC C R1) (retK f54.res Q)))))) := by kernel_rfl
abbrev f54.L0 (C : CW) (Q : AVal → S → Prop) (E : En) (σ : S) : Prop := wC C (.loop f54.c0) E σ (blockK 1 (seqK (wC C (so [oq 4 (.mov oF)] .ret)) (blockK 0 (seqK (wC C f54.c1) (retK f54.res Q)))))
theorem f54.p0_of (h : f54.p0 (WF tab) Q f54.c0 f54.c1 E σ) : f54.L0 (WF tab) Q E σ := wLoop_step (Eq.mp f54.p0_eq h)
noncomputable def f54.body (R0 R1 : PC) : PC := (so [oa 2 (.box 0), oa 3 (.box 1), oq 4 (.mov oF)] (.seq (so [ox 6 0 3, ol 7 6] (.block 0 (so [ob 9 .eql 7 (oi 1), om 8 9] (.cond 8 (.seq (.seq (.draw 22 [⟨0, ox 10 1 2, []⟩, ⟨1, ol 11 10, []⟩, ⟨2, oq 12 (.lenSl 11), []⟩, ⟨3, ob 13 .gtr 12 (oi 0), []⟩, ⟨4, om 14 13, []⟩, ⟨5, oqg 15 14 true (.fieldAddr 1 3), []⟩, ⟨6, oqg 16 14 true (.load1 15), []⟩, ⟨7, oqg 17 14 true (.loadN 2 2), []⟩, ⟨8, oeg 18 14 true (.call 81 [17]), [oqg 16 14 true (.load1 15)]⟩, ⟨9, oqg 19 14 true (.bin .add .num 18 (oi 1)), []⟩, ⟨10, oqg 20 14 true (.bin .neq .num 16 19), []⟩, ⟨11, oq 21 (.pick 14 20 oF), []⟩, ⟨12, om 22 21, []⟩, ⟨13, oqg 23 22 false (.fieldAddr 1 3), []⟩, ⟨14, oqg 24 22 false (.load1 23), []⟩, ⟨15, oqg 25 22 false (.bin .lss .num 24 (oi 1)), []⟩, ⟨16, oq 26 (.pick 22 oT 25), []⟩, ⟨17, om 27 26, []⟩, ⟨18, oqg 28 27 false (.fieldAddr 1 3), []⟩, ⟨19, oqg 29 27 false (.load1 28), []⟩, ⟨20, oqg 30 27 false (.bin .gtr .num 29 (oi 1099511627777)), []⟩, ⟨21, oq 31 (.pick 27 oT 30), []⟩]) (.cond 31 (so [oq 4 (.mov oT)] .ret) .skip)) (.seq (so [ox 32 1 3, ol 33 32, ox 34 2 3, ol 35 34, oq 36 (.lenSl 35), ob 37 .add 33 36, ob 38 .sub 37 (oi 1), ob 39 .gtr 38 (oi 1099511627776)] (.cond 39 (so [oq 4 (.mov oT)] .ret) .skip)) (.seq (so [oq 5 (.mov (oi 0))] (.block 1 (.loop R0))) (so [oq 4 (.mov oF)] .ret)))) .skip)))) R1))
noncomputable def f54.fn : PFn := .code (slotsN 67) (f54.body f54.c0 f54.c1) f54.res
noncomputable def f54 (C : CW) (R0 R1 : PC) (a0 a1 : AVal) (σ : S) (Q : AVal → S → Prop) : Prop :=
Ala (aBoxV a0) σ fun t2 σ1 =>
Ala (aBoxV a1) σ1 fun t3 σ2 =>
sF 0 t3 fun t6 =>
sL t6 σ2 fun t7 =>
sB .eql t7 (i6 1) fun t9 =>
WIf t9 (
sF 1 t2 fun t10 =>
sL t10 (σ2.bumpT 22) fun t11 =>
Som (vLenSl t11) fun t12 =>
sB .gtr t12 (i6 0) fun t13 =>
sT t13 (vFieldAddr 1 t3) fun t15 =>
sT t13 (vLoad1 t15 (σ2.bumpT 22)) fun t16 =>
sT t13 (vLoadN 2 t2 (σ2.bumpT 22)) fun t17 =>
gE1 (isB t13 true) (fun K => C 81 [t17] (σ2.bumpT 22) fun t18 σ3 => Sure ((notB (isB t13 true) || SameO (vLoad1 t15 σ3) t16)) (K t18 σ3)) (σ2.bumpT 22) fun t18 σ3 =>
sT t13 (binA .add .num t18 (i6 1)) fun t19 =>
sT t13 (binA .neq .num t16 t19) fun t20 =>
sP t13 t20 (.bool false) fun t21 =>
sU t21 (vFieldAddr 1 t3) fun t23 =>
sU t21 (vLoad1 t23 σ3) fun t24 =>
sU t21 (binA .lss .num t24 (i6 1)) fun t25 =>
sP t21 (.bool true) t25 fun t26 =>
sU t26 (vFieldAddr 1 t3) fun t28 =>
sU t26 (vLoad1 t28 σ3) fun t29 =>
sU t26 (binA .gtr .num t29 (i6 1099511627777)) fun t30 =>
sP t26 (.bool true) t30 fun t31 =>
WIf t31 (
Ret [some (.bool true)] σ3 Q) (
sF 1 t3 fun t32 =>
sL t32 σ3 fun t33 =>
sF 2 t3 fun t34 =>
sL t34 σ3 fun t35 =>
Som (vLenSl t35) fun t36 =>
sB .add t33 t36 fun t37 =>
sB .sub t37 (i6 1) fun t38 =>
sB .gtr t38 (i6 1099511627776) fun t39 =>
WIf t39 (
Ret [some (.bool true)] σ3 Q) (
wC C (.loop R0) ((((((((((E0.q 0 a0 1 a1 2 t2 3 t3).q 4 (.bool false) 6 t6 7 t7 9 t9).q 8 t9 10 t10 11 t11 12 t12).q 13 t13 14 t13 15 t15 16 t16).q 17 t17 18 t18 19 t19 20 t20).q 21 t21 22 t21 23 t23 24 t24).q 25 t25 26 t26 27 t26 28 t28).q 29 t29 30 t30 31 t31 32 t32).q 33 t33 34 t34 35 t35 36 t36).q 37 t37 38 t38 39 t39 5 (i6 0)) σ3 (blockK 1 (seqK (wC C (so [oq 4 (.mov oF)] .ret)) (blockK 0 (seqK (wC C R1) (retK f54.res Q)))))))) (
wC C R1 (((E0.q 0 a0 1 a1 2 t2 3 t3).q 4 (.bool false) 6 t6 7 t7 9 t9).set 8 t9) σ2 (retK f54.res Q))
theorem f54_eq {R0 R1 : PC} {a0 a1 : AVal} : f54 C R0 R1 a0 a1 σ Q = wC C (f54.body R0 R1) ((E0.set 0 a0).set 1 a1) σ (retK f54.res Q) := by kernel_rfl
theorem f54_wf (ht : tab 54 = some f54.fn) {a0 a1 : AVal} (h : f54 (WF tab) f54.c0 f54.c1 a0 a1 σ Q) : WF tab 54 [a0, a1] σ Q := wf_of ht (by kernel_rfl) f54_eq h
noncomputable def f55.c0 : PC := (.seq (.draw 11 [⟨0, ox 16 0 2, []⟩, ⟨1, ol 17 16, []⟩, ⟨3, ox 19 1 2, []⟩, ⟨4, ol 20 19, []⟩, ⟨6, ox 22 2 3, []⟩, ⟨7, ol 23 22, []⟩, ⟨2, oa 18 (.bslice 1 [(.str [])] 0 []), []⟩, ⟨5, oe 21 (.append 1 16 18 20), [ol 17 16, ol 23 22]⟩, ⟨8, oe 24 (.append 1 16 21 23), [ol 17 16]⟩, ⟨9, oq 25 (.build [(i6 0), .nsl] [(0, 1, 17), (1, 1, 24)]), []⟩, ⟨10, os (.store 2 4 25), []⟩]) .ret)
noncomputable def f55.res : List PRes := [.cellN 2 (sn 4)]
noncomputable def f55.p0 (C : CW) (Q : AVal → S → Prop) (E : En) (σ : S) : Prop :=
sF 0 (E 2) fun t16 =>
sL t16 (σ.bumpT 11) fun t17 =>
sF 1 (E 2) fun t19 =>
sL t19 (σ.bumpT 11) fun t20 =>
sF 2 (E 3) fun t22 =>
sL t22 (σ.bumpT 11) fun t23 =>
Alb (aSliceV 1 [(.str [])] 0 []) (Pos.plusT 2 σ.next) (σ.bumpT 11) fun t18 σ1 =>
Eff (appendA 1 16 t18 t20 σ1) fun t21 σ2 =>
Sure (SameO (vLoad1 t16 σ2) t17) <|
Sure (SameO (vLoad1 t22 σ2) t23) <|
Eff (appendA 1 16 t21 t23 σ2) fun t24 σ3 =>
Sure (SameO (vLoad1 t16 σ3) t17) <|
Som (vBuild [(i6 0), .nsl] [(0, 1, t17), (1, 1, t24)]) fun t25 =>
sS 2 (E 4) t25 σ3 fun _ σ4 =>
Ret [vLoadN 2 (E 4) σ4] σ4 Q
theorem f55.p0_eq : f55.p0 C Q E σ = wC C f55.c0 E σ (blockK 0 (seqK (wC C (.seq (.draw 14 [⟨0, ox 41 1 3, []⟩, ⟨1, ol 42 41, []⟩, ⟨3, ox 44 1 2, []⟩, ⟨4, ol 45 44, []⟩, ⟨5, ox 46 1 3, []⟩, ⟨6, ol 47 46, []⟩, ⟨7, ox 48 0 2, []⟩, ⟨8, ol 49 48, []⟩, ⟨9, ob 50 .sub 47 49, []⟩, ⟨10, oq 51 (.slSl 1 45 (some 50) none none), []⟩, ⟨2, oa 43 (.bslice 1 [(.str [])] 0 []), []⟩, ⟨11, oe 52 (.append 1 16 43 51), [ol 42 41]⟩, ⟨12, oq 53 (.build [(i6 0), .nsl] [(0, 1, 42), (1, 1, 52)]), []⟩, ⟨13, os (.store 2 4 53), []⟩]) .ret)) (retK f55.res Q))) := by kernel_rfl
abbrev f55.J0 (C : CW) (Q : AVal → S → Prop) (E : En) (σ : S) : Prop := wC C f55.c0 E σ (blockK 0 (seqK (wC C (.seq (.draw 14 [⟨0, ox 41 1 3, []⟩, ⟨1, ol 42 41, []⟩, ⟨3, ox 44 1 2, []⟩, ⟨4, ol 45 44, []⟩, ⟨5, ox 46 1 3, []⟩, ⟨6, ol 47 46, []⟩, ⟨7, ox 48 0 2, []⟩, ⟨8, ol 49 48, []⟩, ⟨9, ob 50 .sub 47 49, []⟩, ⟨10, oq 51 (.slSl 1 45 (some 50) none none), []⟩, ⟨2, oa 43 (.bslice 1 [(.str [])] 0 []), []⟩, ⟨11, oe 52 (.append 1 16 43 51), [ol 42 41]⟩, ⟨12, oq 53 (.build [(i6 0), .nsl] [(0, 1, 42), (1, 1, 52)]), []⟩, ⟨13, os (.store 2 4 53), []⟩]) .ret)) (retK f55.res Q)))
theorem f55.p0_of (h : f55.p0 C Q E σ) : f55.J0 C Q E σ := Eq.mp f55.p0_eq h
noncomputable def f55.body (R0 : PC) : PC := (so [oa 2 (.box 0), oa 3 (.box 1), oa 4 (.alloc [(i6 0), .nsl])] (.seq (so [ox 5 0 3, ol 6 5] (.block 0 (so [ob 8 .eql 6 (oi 1), om 7 8] (.cond 7 (.seq (so [ox 9 1 2, ol 10 9, oq 11 (.lenSl 10), ob 12 .eql 11 (oi 0)] (.cond 12 (.ops [ox 13 1 3, ol 14 13, ox 15 0 2, os (.store 1 15 14)]) .skip)) R0) (so [ob 27 .eql 6 (oi 2), om 26 27] (.cond 26 (.seq (.draw 14 [⟨0, ox 28 0 2, []⟩, ⟨1, ol 29 28, []⟩, ⟨3, ox 31 1 2, []⟩, ⟨4, ol 32 31, []⟩, ⟨5, ox 33 1 3, []⟩, ⟨6, ol 34 33, []⟩, ⟨7, ox 35 0 2, []⟩, ⟨8, ol 36 35, []⟩, ⟨9, ob 37 .sub 34 36, []⟩, ⟨10, oq 38 (.slSl 1 32 none (some 37) none), []⟩, ⟨2, oa 30 (.bslice 1 [(.str [])] 0 []), []⟩, ⟨11, oe 39 (.append 1 16 30 38), [ol 29 28]⟩, ⟨12, oq 40 (.build [(i6 0), .nsl] [(0, 1, 29), (1, 1, 39)]), []⟩, ⟨13, os (.store 2 4 40), []⟩]) .ret) .skip)))))) (.seq (.draw 14 [⟨0, ox 41 1 3, []⟩, ⟨1, ol 42 41, []⟩, ⟨3, ox 44 1 2, []⟩, ⟨4, ol 45 44, []⟩, ⟨5, ox 46 1 3, []⟩, ⟨6, ol 47 46, []⟩, ⟨7, ox 48 0 2, []⟩, ⟨8, ol 49 48, []⟩, ⟨9, ob 50 .sub 47 49, []⟩, ⟨10, oq 51 (.slSl 1 45 (some 50) none none), []⟩, ⟨2, oa 43 (.bslice 1 [(.str [])] 0 []), []⟩, ⟨11, oe 52 (.append 1 16 43 51), [ol 42 41]⟩, ⟨12, oq 53 (.build [(i6 0), .nsl] [(0, 1, 42), (1, 1, 52)]), []⟩, ⟨13, os (.store 2 4 53), []⟩]) .ret)))
noncomputable def f55.fn : PFn := .code (slotsN 54) (f55.body f55.c0) f55.res
noncomputable def f55 (C : CW) (R0 : PC) (a0 a1 : AVal) (σ : S) (Q : AVal → S → Prop) : Prop :=
Ala (aBoxV a0) σ fun t2 σ1 =>
Ala (aBoxV a1) σ1 fun t3 σ2 =>
Ala (aAllocV [(i6 0), .nsl]) σ2 fun t4 σ3 =>
sF 0 t3 fun t5 =>
sL t5 σ3 fun t6 =>
sB .eql t6 (i6 1) fun t8 =>
WIf t8 (
sF 1 t2 fun t9 =>
sL t9 σ3 fun t10 =>
Som (vLenSl t10) fun t11 =>
sB .eql t11 (i6 0) fun t12 =>
WIf t12 (
sF 1 t3 fun t13 =>
sL t13 σ3 fun t14 =>
sF 0 t2 fun t15 =>
sS 1 t15 t14 σ3 fun _ σ4 =>
wC C R0 ((((E0.q 0 a0 1 a1 2 t2 3 t3).q 4 t4 5 t5 6 t6 8 t8).q 7 t8 9 t9 10 t10 11 t11).q 12 t12 13 t13 14 t14 15 t15) σ4 (blockK 0 (seqK (wC C (.seq (.draw 14 [⟨0, ox 41 1 3, []⟩, ⟨1, ol 42 41, []⟩, ⟨3, ox 44 1 2, []⟩, ⟨4, ol 45 44, []⟩, ⟨5, ox 46 1 3, []⟩, ⟨6, ol 47 46, []⟩, ⟨7, ox 48 0 2, []⟩, ⟨8, ol 49 48, []⟩, ⟨9, ob 50 .sub 47 49, []⟩, ⟨10, oq 51 (.slSl 1 45 (some 50) none none), []⟩, ⟨2, oa 43 (.bslice 1 [(.str [])] 0 []), []⟩, ⟨11, oe 52 (.append 1 16 43 51), [ol 42 41]⟩, ⟨12, oq 53 (.build [(i6 0), .nsl] [(0, 1, 42), (1, 1, 52)]), []⟩, ⟨13, os (.store 2 4 53), []⟩]) .ret)) (retK f55.res Q)))) (
wC C R0 ((((E0.q 0 a0 1 a1 2 t2 3 t3).q 4 t4 5 t5 6 t6 8 t8).q 7 t8 9 t9 10 t10 11 t11).set 12 t12) σ3 (blockK 0 (seqK (wC C (.seq (.draw 14 [⟨0, ox 41 1 3, []⟩, ⟨1, ol 42 41, []⟩, ⟨3, ox 44 1 2, []⟩, ⟨4, ol 45 44, []⟩, ⟨5, ox 46 1 3, []⟩, ⟨6, ol 47 46, []⟩, ⟨7, ox 48 0 2, []⟩, ⟨8, ol 49 48, []⟩, ⟨9, ob 50 .sub 47 49, []⟩, ⟨10, oq 51 (.slSl 1 45 (some 50) none none), []⟩, ⟨2, oa 43 (.bslice 1 [(.str [])] 0 []), []⟩, ⟨11, oe 52 (.append 1 16 43 51), [ol 42 41]⟩, ⟨12, oq 53 (.build [(i6 0), .nsl] [(0, 1, 42), (1, 1, 52)]), []⟩, ⟨13, os (.store 2 4 53), []⟩]) .ret)) (retK f55.res Q))))) (
sB .eql t6 (i6 2) fun t27 =>
WIf t27 (
sF 0 t2 fun t28 =>
sL t28 (σ3.bumpT 14) fun t29 =>
sF 1 t2 fun t31 =>
sL t31 (σ3.bumpT 14) fun t32 =>
sF 1 t3 fun t33 =>
sL t33 (σ3.bumpT 14) fun t34 =>
sF 0 t2 fun t35 =>
sL t35 (σ3.bumpT 14) fun t36 =>
sB .sub t34 t36 fun t37 =>
Som (vSlSl 1 t32 none (some t37) none) fun t38 =>
Alb (aSliceV 1 [(.str [])] 0 []) (Pos.plusT 2 σ3.next) (σ3.bumpT 14) fun t30 σ4 =>
Eff (appendA 1 16 t30 t38 σ4) fun t39 σ5 =>
Sure (SameO (vLoad1 t28 σ5) t29) <|
Som (vBuild [(i6 0), .nsl] [(0, 1, t29), (1, 1, t39)]) fun t40 =>
sS 2 t4 t40 σ5 fun _ σ6 =>
Ret [vLoadN 2 t4 σ6] σ6 Q) (
sF 1 t3 fun t41 =>
sL t41 (σ3.bumpT 14) fun t42 =>
sF 1 t2 fun t44 =>
sL t44 (σ3.bumpT 14) fun t45 =>
sF 1 t3 fun t46 =>
sL t46 (σ3.bumpT 14) fun t47 =>
sF 0 t2 fun t48 =>
sL t48 (σ3.bumpT 14) fun t49 =>
sB .sub t47 t49 fun t50 =>
Som (vSlSl 1 t45 (some t50) none none) fun t51 =>
Alb (aSliceV 1 [(.str [])] 0 []) (Pos.plusT 2 σ3.next) (σ3.bumpT 14) fun t43 σ4 =>
Eff (appendA 1 16 t43 t51 σ4) fun t52 σ5 =>
Sure (SameO (vLoad1 t41 σ5) t42) <|
Som (vBuild [(i6 0), .nsl] [(0, 1, t42), (1, 1, t52)]) fun t53 =>
sS 2 t4 t53 σ5 fun _ σ6 =>
Ret [vLoadN 2 t4 σ6] σ6 Q))
theorem f55_eq {R0 : PC} {a0 a1 : AVal} : f55 C R0 a0 a1 σ Q = wC C (f55.body R0) ((E0.set 0 a0).set 1 a1) σ (retK f55.res Q) := by kernel_rfl
theorem f55_wf (ht : tab 55 = some f55.fn) {a0 a1 : AVal} (h : f55 (WF tab) f55.c0 a0 a1 σ Q) : WF tab 55 [a0, a1] σ Q := wf_of ht (by kernel_rfl) f55_eq h
noncomputable def f56.c2 : PC := (.seq (so [om 24 7, ox 25 2 3, ol 26 25, oq 27 (.lenSl 26), ob 28 .lss 24 27] (.cond 28 .skip (.exit 2))) (.seq (.block 3 (.ops [om 31 5, ox 32 2 3, ol 33 32, om 34 7, oq 35 (.ixSl 1 33 34), ol 36 35, oq 37 (.lenStr 36), ob 38 .add 31 37, ob 39 .add 38 (oi 100), om 5 39])) (.ops [om 29 7, ob 30 .add 29 (oi 1), om 7 30])))
noncomputable def f56.t1 (R2 : PC) : PC := (.seq (so [oq 7 (.mov (oi 0))] (.block 2 (.loop R2))) (so [om 40 5, ob 41 .mul (oi 4) 40, ob 42 .add 41 (oi 8192), om 4 42] .ret))
noncomputable def f56.c1 : PC := f56.t1 f56.c2
noncomputable def f56.c0 : PC := (.seq (so [om 8 6, ox 9 1 2, ol 10 9, oq 11 (.lenSl 10), ob 12 .lss 8 11] (.cond 12 .skip (.exit 0))) (.seq (.block 1 (.ops [om 15 5, ox 16 1 2, ol 17 16, om 18 6, oq 19 (.ixSl 1 17 18), ol 20 19, oq 21 (.lenStr 20), ob 22 .add 15 21, ob 23 .add 22 (oi 100), om 5 23])) (.ops [om 13 6, ob 14 .add 13 (oi 1), om 6 14])))
noncomputable def f56.res : List PRes := [.tmp (sn 4)]
noncomputable def f56.p2 (C : CW) (Q : AVal → S → Prop) (R2 : PC) (E : En) (σ : S) : Prop :=
sF 2 (E 3) fun t25 =>
sL t25 σ fun t26 =>
Som (vLenSl t26) fun t27 =>
sB .lss (E 7) t27 fun t28 =>
WIf t28 (
sF 2 (E 3) fun t32 =>
sL t32 σ fun t33 =>
Som (vIxSl 1 t33 (E 7)) fun t35 =>
sL t35 σ fun t36 =>
Som (vLenStr t36) fun t37 =>
sB .add (E 5) t37 fun t38 =>
sB .add t38 (i6 100) fun t39 =>
sB .add (E 7) (i6 1) fun t30 =>
wC C (.loop R2) ((((((E.q 24 (E 7) 25 t25 26 t26 27 t27).q 28 t28 31 (E 5) 32 t32 33 t33).q 34 (E 7) 35 t35 36 t36 37 t37).q 38 t38 39 t39 5 t39 29 (E 7)).set 30 t30).set 7 t30) σ (blockK 2 (seqK (wC C (so [om 40 5, ob 41 .mul (oi 4) 40, ob 42 .add 41 (oi 8192), om 4 42] .ret)) (retK f56.res Q)))) (
sB .mul (i6 4) (E 5) fun t41 =>
sB .add t41 (i6 8192) fun t42 =>
Ret [some t42] σ Q)
theorem f56.p2_eq {R2 : PC} : f56.p2 C Q R2 E σ = wC C f56.c2 E σ (loopK C R2 (blockK 2 (seqK (wC C (so [om 40 5, ob 41 .mul (oi 4) 40, ob 42 .add 41 (oi 8192), om 4 42] .ret)) (retK f56.res Q)))) := by kernel_rfl
abbrev f56.L2 (C : CW) (Q : AVal → S → Prop) (E : En) (σ : S) : Prop := wC C (.loop f56.c2) E σ (blockK 2 (seqK (wC C (so [om 40 5, ob 41 .mul (oi 4) 40, ob 42 .add 41 (oi 8192), om 4 42] .ret)) (retK f56.res Q)))
theorem f56.p2_of (h : f56.p2 (WF tab) Q f56.c2 E σ) : f56.L2 (WF tab) Q E σ := wLoop_step (Eq.mp f56.p2_eq h)
noncomputable def f56.p1 (C : CW) (Q : AVal → S → Prop) (R2 : PC) (E : En) (σ : S) : Prop :=
wC C (.loop R2) (E.set 7 (i6 0)) σ (blockK 2 (seqK (wC C (so [om 40 5, ob 41 .mul (oi 4) 40, ob 42 .add 41 (oi 8192), om 4 42] .ret)) (retK f56.res Q)))
theorem f56.p1_eq {R2 : PC} : f56.p1 C Q R2 E σ = wC C (f56.t1 R2) E σ (retK f56.res Q) := by kernel_rfl
abbrev f56.J1 (C : CW) (Q : AVal → S → Prop) (E : En) (σ : S) : Prop := wC C f56.c1 E σ (retK f56.res Q)
theorem f56.p1_of (h : f56.p1 C Q f56.c2 E σ) : f56.J1 C Q E σ := Eq.mp f56.p1_eq h
noncomputable def f56.p0 (C : CW) (Q : AVal → S → Prop) (R0 R1 : PC) (E : En) (σ : S) : Prop :=
sF 1 (E 2) fun t9 =>
sL t9 σ fun t10 =>
Som (vLenSl t10) fun t11 =>
sB .lss (E 6) t11 fun t12 =>
WIf t12 (
sF 1 (E 2) fun t16 =>
sL t16 σ fun t17 =>
Som (vIxSl 1 t17 (E 6)) fun t19 =>
sL t19 σ fun t20 =>
Som (vLenStr t20) fun t21 =>
sB .add (E 5) t21 fun t22 =>
sB .add t22 (i6 100) fun t23 =>
sB .add (E 6) (i6 1) fun t14 =>
wC C (.loop R0) ((((((E.q 8 (E 6) 9 t9 10 t10 11 t11).q 12 t12 15 (E 5) 16 t16 17 t17).q 18 (E 6) 19 t19 20 t20 21 t21).q 22 t22 23 t23 5 t23 13 (E 6)).set 14 t14).set 6 t14) σ (blockK 0 (seqK (wC C R1) (retK f56.res Q)))) (
wC C R1 ((E.q 8 (E 6) 9 t9 10 t10 11 t11).set 12 t12) σ (retK f56.res Q))
theorem f56.p0_eq {R0 R1 : PC} : f56.p0 C Q R0 R1 E σ = wC C f56.c0 E σ (loopK C R0 (blockK 0 (seqK (wC C R1) (retK f56.res Q)))) := by kernel_rfl
abbrev f56.L0 (C : CW) (Q : AVal → S → Prop) (E : En) (σ : S) : Prop := wC C (.loop f56.c0) E σ (blockK 0 (seqK (wC C f56.c1) (retK f56.res Q)))
theorem f56.p0_of (h : f56.p0 (WF tab) Q f56.c0 f56.c1 E σ) : f56.L0 (WF tab) Q E σ := wLoop_step (Eq.mp f56.p0_eq h)
noncomputable def f56.body (R0 R1 : PC) : PC := (so [oa 2 (.box 0), oa 3 (.box 1), oq 4 (.mov (oi 0))] (so [oq 5 (.mov (oi 0))] (.seq (so [oq 6 (.mov (oi 0))] (.block 0 (.loop R0))) R1)))
noncomputable def f56.fn : PFn := .code (slotsN 43) (f56.body f56.c0 f56.c1) f56.res
noncomputable def f56 (C : CW) (R0 R1 : PC) (a0 a1 : AVal) (σ : S) (Q : AVal → S → Prop) : Prop :=
Ala (aBoxV a0) σ fun t2 σ1 =>
Ala (aBoxV a1) σ1 fun t3 σ2 =>
wC C (.loop R0) ((((E0.q 0 a0 1 a1 2 t2 3 t3).set 4 (i6 0)).set 5 (i6 0)).set 6 (i6 0)) σ2 (blockK 0 (seqK (wC C R1) (retK f56.res Q)))
theorem f56_eq {R0 R1 : PC} {a0 a1 : AVal} : f56 C R0 R1 a0 a1 σ Q = wC C (f56.body R0 R1) ((E0.set 0 a0).set 1 a1) σ (retK f56.res Q) := by kernel_rfl
theorem f56_wf (ht : tab 56 = some f56.fn) {a0 a1 : AVal} (h : f56 (WF tab) f56.c0 f56.c1 a0 a1 σ Q) : WF tab 56 [a0, a1] σ Q := wf_of ht (by kernel_rfl) f56_eq h
noncomputable def f57.c2 : PC := (so [oq 46 (.loadN 2 7), oq 47 (.loadN 3 9), oe 48 (.call 55 [46, 47]), os (.store 2 7 48)] (so [oq 49 (.loadN 2 7), oq 50 (.loadN 2 5), oe 51 (.call 28 [49, 50])] (.cond 51 (so [oq 6 (.mov oT)] .ret) .skip)))
noncomputable def f57.c1 : PC := (.seq (so [om 28 10, ox 29 2 9, ol 30 29, oq 31 (.lenSl 30), ob 32 .lss 28 31] (.cond 32 .skip (.exit 2))) (.seq (.block 3 (.seq (.draw 11 [⟨0, oq 35 (.loadN 2 7), []⟩, ⟨1, ox 36 1 9, []⟩, ⟨2, ol 37 36, []⟩, ⟨3, ox 38 2 9, []⟩, ⟨4, ol 39 38, []⟩, ⟨5, om 40 10, []⟩, ⟨6, oq 41 (.slSl 1 39 none (some 40) none), []⟩, ⟨7, oq 42 (.build [(i6 0), (i6 0), .nsl] [(0, 1, (oi 1)), (1, 1, 37), (2, 1, 41)]), []⟩, ⟨9, oq 44 (.loadN 2 5), []⟩, ⟨8, oe 43 (.call 55 [35, 42]), [oq 44 (.loadN 2 5)]⟩, ⟨10, oe 45 (.call 28 [43, 44]), []⟩]) (.cond 45 (so [oq 6 (.mov oT)] .ret) .skip))) (.ops [om 33 10, ob 34 .add 33 (oi 1), om 10 34])))
noncomputable def f57.t0 (R1 R2 : PC) : PC := (.seq (so [om 15 8, om 16 1, oq 17 (.lenSl 16), ob 18 .lss 15 17] (.cond 18 .skip (.exit 0))) (.seq (.block 1 (so [om 21 1, om 22 8, oq 23 (.ixSl 3 21 22), oq 24 (.loadN 3 23), oa 9 (.alloc [(i6 0), (i6 0), .nsl]), os (.store 3 9 24)] (.seq (so [ox 25 0 9, ol 26 25, ob 27 .eql 26 (oi 1)] (.cond 27 (so [oq 10 (.mov (oi 0))] (.block 2 (.loop R1))) .skip)) R2))) (.ops [om 19 8, ob 20 .add 19 (oi 1), om 8 20])))
noncomputable def f57.c0 : PC := f57.t0 f57.c1 f57.c2
noncomputable def f57.res : List PRes := [.tmp (sn 6)]
noncomputable def f57.p2 (C : CW) (Q : AVal → S → Prop) (R0 : PC) (E : En) (σ : S) : Prop :=
Som (vLoadN 2 (E 7) σ) fun t46 =>
Som (vLoadN 3 (E 9) σ) fun t47 =>
C 55 [t46, t47] σ fun t48 σ1 =>
sS 2 (E 7) t48 σ1 fun _ σ2 =>
Som (vLoadN 2 (E 7) σ2) fun t49 =>
Som (vLoadN 2 (E 5) σ2) fun t50 =>
C 28 [t49, t50] σ2 fun t51 σ3 =>
WIf t51 (
Ret [some (.bool true)] σ3 Q) (
sB .add (E 8) (i6 1) fun t20 =>
wC C (.loop R0) (((E.q 46 t46 47 t47 48 t48 49 t49).q 50 t50 51 t51 19 (E 8) 20 t20).set 8 t20) σ3 (blockK 0 (seqK (wC C (so [oq 6 (.mov oF)] .ret)) (retK f57.res Q))))
theorem f57.p2_eq {R0 : PC} : f57.p2 C Q R0 E σ = wC C f57.c2 E σ (blockK 1 (seqK (wC C (.ops [om 19 8, ob 20 .add 19 (oi 1), om 8 20])) (loopK C R0 (blockK 0 (seqK (wC C (so [oq 6 (.mov oF)] .ret)) (retK f57.res Q)))))) := by kernel_rfl
abbrev f57.J2 (C : CW) (Q : AVal → S → Prop) (E : En) (σ : S) : Prop := wC C f57.c2 E σ (blockK 1 (seqK (wC C (.ops [om 19 8, ob 20 .add 19 (oi 1), om 8 20])) (loopK C f57.c0 (blockK 0 (seqK (wC C (so [oq 6 (.mov oF)] .ret)) (retK f57.res Q))))))
theorem f57.p2_of (h : f57.p2 C Q f57.c0 E σ) : f57.J2 C Q E σ := Eq.mp f57.p2_eq h
noncomputable def f57.p1 (C : CW) (Q : AVal → S → Prop) (R1 R2 R0 : PC) (E : En) (σ : S) : Prop :=
sF 2 (E 9) fun t29 =>
sL t29 σ fun t30 =>
Som (vLenSl t30) fun t31 =>
sB .lss (E 10) t31 fun t32 =>
WIf t32 (
Som (vLoadN 2 (E 7) (σ.bumpT 11)) fun t35 =>
sF 1 (E 9) fun t36 =>
sL t36 (σ.bumpT 11) fun t37 =>
sF 2 (E 9) fun t38 =>
sL t38 (σ.bumpT 11) fun t39 =>
Som (vSlSl 1 t39 none (some (E 10)) none) fun t41 =>
Som (vBuild [(i6 0), (i6 0), .nsl] [(0, 1, (i6 1)), (1, 1, t37), (2, 1, t41)]) fun t42 =>
Som (vLoadN 2 (E 5) (σ.bumpT 11)) fun t44 =>
C 55 [t35, t42] (σ.bumpT 11) fun t43 σ1 =>
Sure (SameO (vLoadN 2 (E 5) σ1) t44) <|
C 28 [t43, t44] σ1 fun t45 σ2 =>
WIf t45 (
Ret [some (.bool true)] σ2 Q) (
sB .add (E 10) (i6 1) fun t34 =>
wC C (.loop R1) (((((((E.q 28 (E 10) 29 t29 30 t30 31 t31).q 32 t32 35 t35 36 t36 37 t37).q 38 t38 39 t39 40 (E 10) 41 t41).q 42 t42 44 t44 43 t43 45 t45).set 33 (E 10)).set 34 t34).set 10 t34) σ2 (blockK 2 (seqK (wC C R2) (blockK 1 (seqK (wC C (.ops [om 19 8, ob 20 .add 19 (oi 1), om 8 20])) (loopK C R0 (blockK 0 (seqK (wC C (so [oq 6 (.mov oF)] .ret)) (retK f57.res Q)))))))))) (
wC C R2 ((E.q 28 (E 10) 29 t29 30 t30 31 t31).set 32 t32) σ (blockK 1 (seqK (wC C (.ops [om 19 8, ob 20 .add 19 (oi 1), om 8 20])) (loopK C R0 (blockK 0 (seqK (wC C (so [oq 6 (.mov oF)] .ret)) (retK f57.res Q)))))))
theorem f57.p1_eq {R1 R2 R0 : PC} : f57.p1 C Q R1 R2 R0 E σ = wC C f57.c1 E σ (loopK C R1 (blockK 2 (seqK (wC C R2) (blockK 1 (seqK (wC C (.ops [om 19 8, ob 20 .add 19 (oi 1), om 8 20])) (loopK C R0 (blockK 0 (seqK (wC C (so [oq 6 (.mov oF)] .ret)) (retK f57.res Q))))))))) := by kernel_rfl
abbrev f57.L1 (C : CW) (Q : AVal → S → Prop) (E : En) (σ : S) : Prop := wC C (.loop f57.c1) E σ (blockK 2 (seqK (wC C f57.c2) (blockK 1 (seqK (wC C (.ops [om 19 8, ob 20 .add 19 (oi 1), om 8 20])) (loopK C f57.c0 (blockK 0 (seqK (wC C (so [oq 6 (.mov oF)] .ret)) (retK f57.res Q))))))))
theorem f57.p1_of (h : f57.p1 (WF tab) Q f57.c1 f57.c2 f57.c0 E σ) : f57.L1 (WF tab) Q E σ := wLoop_step (Eq.mp f57.p1_eq h)
noncomputable def f57.p0 (C : CW) (Q : AVal → S → Prop) (R1 R2 R0 : PC) (E : En) (σ : S) : Prop :=
Som (vLenSl (E 1)) fun t17 =>
sB .lss (E 8) t17 fun t18 =>
WIf t18 (
Som (vIxSl 3 (E 1) (E 8)) fun t23 =>
Som (vLoadN 3 t23 σ) fun t24 =>
Ala (aAllocV [(i6 0), (i6 0), .nsl]) σ fun t9 σ1 =>
sS 3 t9 t24 σ1 fun _ σ2 =>
sF 0 t9 fun t25 =>
sL t25 σ2 fun t26 =>
sB .eql t26 (i6 1) fun t27 =>
WIf t27 (
wC C (.loop R1) ((((E.q 15 (E 8) 16 (E 1) 17 t17 18 t18).q 21 (E 1) 22 (E 8) 23 t23 24 t24).q 9 t9 25 t25 26 t26 27 t27).set 10 (i6 0)) σ2 (blockK 2 (seqK (wC C R2) (blockK 1 (seqK (wC C (.ops [om 19 8, ob 20 .add 19 (oi 1), om 8 20])) (loopK C R0 (blockK 0 (seqK (wC C (so [oq 6 (.mov oF)] .ret)) (retK f57.res Q))))))))) (
wC C R2 (((E.q 15 (E 8) 16 (E 1) 17 t17 18 t18).q 21 (E 1) 22 (E 8) 23 t23 24 t24).q 9 t9 25 t25 26 t26 27 t27) σ2 (blockK 1 (seqK (wC C (.ops [om 19 8, ob 20 .add 19 (oi 1), om 8 20])) (loopK C R0 (blockK 0 (seqK (wC C (so [oq 6 (.mov oF)] .ret)) (retK f57.res Q)))))))) (
Ret [some (.bool false)] σ Q)
theorem f57.p0_eq {R1 R2 R0 : PC} : f57.p0 C Q R1 R2 R0 E σ = wC C (f57.t0 R1 R2) E σ (loopK C R0 (blockK 0 (seqK (wC C (so [oq 6 (.mov oF)] .ret)) (retK f57.res Q)))) := by kernel_rfl
abbrev f57.L0 (C : CW) (Q : AVal → S → Prop) (E : En) (σ : S) : Prop := wC C (.loop f57.c0) E σ (blockK 0 (seqK (wC C (so [oq 6 (.mov oF)] .ret)) (retK f57.res Q)))
theorem f57.p0_of (h : f57.p0 (WF tab) Q f57.c1 f57.c2 f57.c0 E σ) : f57.L0 (WF tab) Q E σ := wLoop_step (Eq.mp f57.p0_eq h)
noncomputable def f57.body (R0 : PC) : PC := (so [oa 3 (.box 0), oa 5 (.box 2), oq 6 (.mov oF)] (so [oq 11 (.loadN 2 3), oa 7 (.alloc [(i6 0), .nsl]), os (.store 2 7 11)] (.seq (so [oq 12 (.loadN 2 7), oq 13 (.loadN 2 5), oe 14 (.call 28 [12, 13])] (.cond 14 (so [oq 6 (.mov oT)] .ret) .skip)) (.seq (so [oq 8 (.mov (oi 0))] (.block 0 (.loop R0))) (so [oq 6 (.mov oF)] .ret)))))
noncomputable def f57.fn : PFn := .code (slotsN 52) (f57.body f57.c0) f57.res
noncomputable def f57 (C : CW) (R0 : PC) (a0 a1 a2 : AVal) (σ : S) (Q : AVal → S → Prop) : Prop :=
Ala (aBoxV a0) σ fun t3 σ1 =>
Ala (aBoxV a2) σ1 fun t5 σ2 =>
Som (vLoadN 2 t3 σ2) fun t11 =>
Ala (aAllocV [(i6 0), .nsl]) σ2 fun t7 σ3 =>
sS 2 t7 t11 σ3 fun _ σ4 =>
Som (vLoadN 2 t7 σ4) fun t12 =>
Som (vLoadN 2 t5 σ4) fun t13 =>
C 28 [t12, t13] σ4 fun t14 σ5 =>
WIf t14 (
Ret [some (.bool true)] σ5 Q) (
wC C (.loop R0) (((E0.q 0 a0 1 a1 2 a2 3 t3).q 5 t5 6 (.bool false) 11 t11 7 t7).q 12 t12 13 t13 14 t14 8 (i6 0)) σ5 (blockK 0 (seqK (wC C (so [oq 6 (.mov oF)] .ret)) (retK f57.res Q))))
theorem f57_eq {R0 : PC} {a0 a1 a2 : AVal} : f57 C R0 a0 a1 a2 σ Q = wC C (f57.body R0) (((E0.set 0 a0).set 1 a1).set 2 a2) σ (retK f57.res Q) := by kernel_rfl
theorem f57_wf (ht : tab 57 = some f57.fn) {a0 a1 a2 : AVal} (h : f57 (WF tab) f57.c0 a0 a1 a2 σ Q) : WF tab 57 [a0, a1, a2] σ Q := wf_of ht (by kernel_rfl) f57_eq h
noncomputable def f72.res : List PRes := [.tmp (sn 4)]
noncomputable def f72.body : PC := (so [oq 4 (.mov (.val .nsl))] (.seq (so [om 5 0, on 6 5, ox 7 5 6, ol 8 7, om 9 8, oqg 10 9 false (.mov 1), oeg 11 9 false (.call 37 [10]), oqg 12 9 false (.un .not 11), oq 13 (.pick 9 oT 12)] (.cond 13 (so [oq 4 (.mov (.val .nsl))] .ret) .skip)) (so [om 14 0, on 15 14, ox 16 1 15, ol 17 16, om 18 1, oq 19 (.ixSl 1 17 18), ol 20 19, oe 21 (.append 1 1 (.val .nsl) 20), om 4 21] .ret)))
noncomputable def f72.fn : PFn := .code (slotsN 22) f72.body f72.res
noncomputable def f72 (C : CW) (a0 a1 : AVal) (σ : S) (Q : AVal → S → Prop) : Prop :=
sN a0 fun t6 =>
sF 5 t6 fun t7 =>
sL t7 σ fun t8 =>
sU t8 (some a1) fun t10 =>
gE1 (isB t8 false) (fun K => C 37 [t10] σ K) σ fun t11 σ1 =>
sU t8 (unA .not t11) fun t12 =>
sP t8 (.bool true) t12 fun t13 =>
WIf t13 (
Ret [some .nsl] σ1 Q) (
sN a0 fun t15 =>
sF 1 t15 fun t16 =>
sL t16 σ1 fun t17 =>
Som (vIxSl 1 t17 a1) fun t19 =>
sL t19 σ1 fun t20 =>
Eff (appendA 1 1 .nsl t20 σ1) fun t21 σ2 =>
Ret [some t21] σ2 Q)
theorem f72_eq {a0 a1 : AVal} : f72 C a0 a1 σ Q = wC C f72.body ((E0.set 0 a0).set 1 a1) σ (retK f72.res Q) := by kernel_rfl
theorem f72_wf (ht : tab 72 = some f72.fn) {a0 a1 : AVal} (h : f72 (WF tab) a0 a1 σ Q) : WF tab 72 [a0, a1] σ Q := wf_of ht (by kernel_rfl) f72_eq h
noncomputable def f73.res : List PRes := [.cellN 5 (sn 4), .tmp (sn 5), .tmp (sn 6)]
noncomputable def f73.body : PC := (so [oa 4 (.alloc [(i6 0), (i6 0), (i6 0), (i6 0), (.str [])]), oq 5 (.mov (oi 0)), oq 6 (.mov oF)] (so [om 13 0, om 14 1, oe 15 (.call 83 [13, 14]), om 12 15, oq 16 (.extract 0 12), oq 17 (.extract 1 12), oq 18 (.extract 2 12), om 7 16, om 8 17, om 9 18] (.seq (so [om 19 9, ob 20 .neq 19 (oi 0)] (.cond 20 (so [oq 21 (.build [(i6 0), (i6 0), (i6 0), (i6 0), (.str [])] []), os (.store 5 4 21), oq 5 (.mov (oi 0)), oq 6 (.mov oF)] .ret) .skip)) (so [om 22 7, oe 23 (.call 84 [22]), om 10 23] (so [oa 11 (.alloc [(i6 0), (i6 0), (i6 0), (i6 0), (.str [])])] (so [om 24 10, oe 25 (.call 85 [24]), ox 26 0 11, os (.store 1 26 25)] (so [om 27 10, oe 28 (.call 85 [27]), ox 29 1 11, os (.store 1 29 28)] (so [om 30 10, oe 31 (.call 85 [30]), ox 32 2 11, os (.store 1 32 31)] (so [om 33 10, oe 34 (.call 85 [33]), ox 35 3 11, os (.store 1 35 34)] (.seq (so [om 36 10, on 37 36, ox 38 0 37, oq 39 (.loadN 2 38), oe 40 (.call 97 [39]), oq 41 (.un .not 40)] (.cond 41 (so [oq 42 (.build [(i6 0), (i6 0), (i6 0), (i6 0), (.str [])] []), os (.store 5 4 42), oq 5 (.mov (oi 0)), oq 6 (.mov oF)] .ret) .skip)) (so [om 43 7, om 44 10, oe 45 (.call 98 [44]), oq 46 (.slSl 1 43 (some 45) none none), oq 47 (.bytesStr 46), ox 48 4 11, os (.store 1 48 47)] (so [oq 49 (.loadN 5 11), om 50 8, os (.store 5 4 49), om 5 50, oq 6 (.mov oT)] .ret))))))))))))
noncomputable def f73.fn : PFn := .code (slotsN 51) f73.body f73.res
noncomputable def f73 (C : CW) (a0 a1 : AVal) (σ : S) (Q : AVal → S → Prop) : Prop :=
Ala (aAllocV [(i6 0), (i6 0), (i6 0), (i6 0), (.str [])]) σ fun t4 σ1 =>
C 83 [a0, a1] σ1 fun t15 σ2 =>
Som (vExtract 0 t15) fun t16 =>
Som (vExtract 1 t15) fun t17 =>
Som (vExtract 2 t15) fun t18 =>
sB .neq t18 (i6 0) fun t20 =>
WIf t20 (
Som (vBuild [(i6 0), (i6 0), (i6 0), (i6 0), (.str [])] []) fun t21 =>
sS 5 t4 t21 σ2 fun _ σ3 =>
Ret [vLoadN 5 t4 σ3, some (i6 0), some (.bool false)] σ3 Q) (
C 84 [t16] σ2 fun t23 σ3 =>
Ala (aAllocV [(i6 0), (i6 0), (i6 0), (i6 0), (.str [])]) σ3 fun t11 σ4 =>
C 85 [t23] σ4 fun t25 σ5 =>
sF 0 t11 fun t26 =>
sS 1 t26 t25 σ5 fun _ σ6 =>
C 85 [t23] σ6 fun t28 σ7 =>
sF 1 t11 fun t29 =>
sS 1 t29 t28 σ7 fun _ σ8 =>
C 85 [t23] σ8 fun t31 σ9 =>
sF 2 t11 fun t32 =>
sS 1 t32 t31 σ9 fun _ σ10 =>
C 85 [t23] σ10 fun t34 σ11 =>
sF 3 t11 fun t35 =>
sS 1 t35 t34 σ11 fun _ σ12 =>
sN t23 fun t37 =>
sF 0 t37 fun t38 =>
Som (vLoadN 2 t38 σ12) fun t39 =>
C 97 [t39] σ12 fun t40 σ13 =>
Som (unA .not t40) fun t41 =>
WIf t41 (
Som (vBuild [(i6 0), (i6 0), (i6 0), (i6 0), (.str [])] []) fun t42 =>
sS 5 t4 t42 σ13 fun _ σ14 =>
Ret [vLoadN 5 t4 σ14, some (i6 0), some (.bool false)] σ14 Q) (
C 98 [t23] σ13 fun t45 σ14 =>
Som (vSlSl 1 t16 (some t45) none none) fun t46 =>
Som (vBytesStr t46 σ14) fun t47 =>
sF 4 t11 fun t48 =>
sS 1 t48 t47 σ14 fun _ σ15 =>
Som (vLoadN 5 t11 σ15) fun t49 =>
sS 5 t4 t49 σ15 fun _ σ16 =>
Ret [vLoadN 5 t4 σ16, some t17, some (.bool true)] σ16 Q))
theorem f73_eq {a0 a1 : AVal} : f73 C a0 a1 σ Q = wC C f73.body ((E0.set 0 a0).set 1 a1) σ (retK f73.res Q) := by kernel_rfl
theorem f73_wf (ht : tab 73 = some f73.fn) {a0 a1 : AVal} (h : f73 (WF tab) a0 a1 σ Q) : WF tab 73 [a0, a1] σ Q := wf_of ht (by kernel_rfl) f73_eq h
noncomputable def f74.res : List PRes := [.tmp (sn 4)]
noncomputable def f74.body : PC := (so [oa 3 (.box 1), oq 4 (.mov oF)] (.seq (so [ox 5 0 3, ol 6 5] (.block 0 (so [ob 8 .eql 6 (oi 1), om 7 8] (.cond 7 (.seq (so [om 9 0, ox 10 2 3, ol 11 10, oe 12 (.call 48 [9, 11, (oi 1)]), oq 13 (.un .not 12)] (.cond 13 (so [oq 4 (.mov oF)] .ret) .skip)) (.ops [om 14 0, ox 15 2 3, ol 16 15, ox 17 4 3, ol 18 17, oe 19 (.call 52 [14, 16, 18])])) (so [ob 21 .eql 6 (oi 2), om 20 21] (.cond 20 (.seq (.seq (.draw 15 [⟨0, ox 22 2 3, []⟩, ⟨1, ol 23 22, []⟩, ⟨2, om 24 0, []⟩, ⟨3, on 25 24, []⟩, ⟨4, ox 26 3 25, []⟩, ⟨5, ol 27 26, []⟩, ⟨6, ob 28 .lss 23 27, []⟩, ⟨7, om 29 28, []⟩, ⟨8, oqg 30 29 false (.fieldAddr 2 3), []⟩, ⟨9, oqg 31 29 false (.load1 30), []⟩, ⟨10, oqg 32 29 false (.mov 0), []⟩, ⟨11, oeg 33 29 false (.call 15 [32]), [oqg 31 29 false (.load1 30)]⟩, ⟨12, oqg 34 29 false (.bin .add .num 33 (oi 1)), []⟩, ⟨13, oqg 35 29 false (.bin .gtr .num 31 34), []⟩, ⟨14, oq 36 (.pick 29 oT 35), []⟩]) (.cond 36 (so [oq 4 (.mov oF)] .ret) .skip)) (.draw 18 [⟨0, om 37 0, []⟩, ⟨1, om 38 0, []⟩, ⟨2, on 39 38, []⟩, ⟨3, ox 40 3 39, []⟩, ⟨4, ol 41 40, []⟩, ⟨5, om 42 0, []⟩, ⟨6, on 43 42, []⟩, ⟨7, ox 44 4 43, []⟩, ⟨8, ol 45 44, []⟩, ⟨9, ox 46 2 3, []⟩, ⟨10, ol 47 46, []⟩, ⟨11, om 48 0, []⟩, ⟨12, on 49 48, []⟩, ⟨13, ox 50 3 49, []⟩, ⟨14, ol 51 50, []⟩, ⟨15, ob 52 .sub 47 51, []⟩, ⟨16, oq 53 (.slSl 1 45 none (some 52) none), []⟩, ⟨17, oe 54 (.call 75 [37, 41, 53]), []⟩])) (so [ob 56 .eql 6 (oi 3), om 55 56] (.cond 55 (.seq (.seq (.draw 15 [⟨0, ox 57 2 3, []⟩, ⟨1, ol 58 57, []⟩, ⟨2, om 59 0, []⟩, ⟨3, on 60 59, []⟩, ⟨4, ox 61 3 60, []⟩, ⟨5, ol 62 61, []⟩, ⟨6, ob 63 .lss 58 62, []⟩, ⟨7, om 64 63, []⟩, ⟨8, oqg 65 64 false (.fieldAddr 2 3), []⟩, ⟨9, oqg 66 64 false (.load1 65), []⟩, ⟨10, oqg 67 64 false (.mov 0), []⟩, ⟨11, oeg 68 64 false (.call 15 [67]), [oqg 66 64 false (.load1 65)]⟩, ⟨12, oqg 69 64 false (.bin .add .num 68 (oi 1)), []⟩, ⟨13, oqg 70 64 false (.bin .gtr .num 66 69), []⟩, ⟨14, oq 71 (.pick 64 oT 70), []⟩]) (.cond 71 (so [oq 4 (.mov oF)] .ret) .skip)) (.draw 16 [⟨0, om 72 0, []⟩, ⟨1, ox 73 2 3, []⟩, ⟨2, ol 74 73, []⟩, ⟨3, om 75 0, []⟩, ⟨4, on 76 75, []⟩, ⟨5, ox 77 4 76, []⟩, ⟨6, ol 78 77, []⟩, ⟨7, ox 79 2 3, []⟩, ⟨8, ol 80 79, []⟩, ⟨9, om 81 0, []⟩, ⟨10, on 82 81, []⟩, ⟨11, ox 83 3 82, []⟩, ⟨12, ol 84 83, []⟩, ⟨13, ob 85 .sub 80 84, []⟩, ⟨14, oq 86 (.slSl 1 78 (some 85) none none), []⟩, ⟨15, oe 87 (.call 75 [72, 74, 86]), []⟩])) (so [ob 89 .eql 6 (oi 4), om 88 89] (.cond 88 (.seq (so [om 90 0, ox 91 2 3, ol 92 91, oe 93 (.call 48 [90, 92, (oi 0)]), oq 94 (.un .not 93)] (.cond 94 (so [oq 4 (.mov oF)] .ret) .skip)) (.ops [om 95 0, ox 96 2 3, ol 97 96, oe 98 (.call 79 [95, 97])])) (so [oq 4 (.mov oF)] .ret))))))))))) (so [oq 4 (.mov oT)] .ret)))
noncomputable def f74.fn : PFn := .code (slotsN 99) f74.body f74.res
noncomputable def f74 (C : CW) (a0 a1 : AVal) (σ : S) (Q : AVal → S → Prop) : Prop :=
Ala (aBoxV a1) σ fun t3 σ1 =>
sF 0 t3 fun t5 =>
sL t5 σ1 fun t6 =>
sB .eql t6 (i6 1) fun t8 =>
WIf t8 (
sF 2 t3 fun t10 =>
sL t10 σ1 fun t11 =>
C 48 [a0, t11, (i6 1)] σ1 fun t12 σ2 =>
Som (unA .not t12) fun t13 =>
WIf t13 (
Ret [some (.bool false)] σ2 Q) (
sF 2 t3 fun t15 =>
sL t15 σ2 fun t16 =>
sF 4 t3 fun t17 =>
sL t17 σ2 fun t18 =>
C 52 [a0, t16, t18] σ2 fun t19 σ3 =>
Ret [some (.bool true)] σ3 Q)) (
sB .eql t6 (i6 2) fun t21 =>
WIf t21 (
sF 2 t3 fun t22 =>
sL t22 (σ1.bumpT 15) fun t23 =>
sN a0 fun t25 =>
sF 3 t25 fun t26 =>
sL t26 (σ1.bumpT 15) fun t27 =>
sB .lss t23 t27 fun t28 =>
sU t28 (vFieldAddr 2 t3) fun t30 =>
sU t28 (vLoad1 t30 (σ1.bumpT 15)) fun t31 =>
sU t28 (some a0) fun t32 =>
gE1 (isB t28 false) (fun K => C 15 [t32] (σ1.bumpT 15) fun t33 σ2 => Sure ((notB (isB t28 false) || SameO (vLoad1 t30 σ2) t31)) (K t33 σ2)) (σ1.bumpT 15) fun t33 σ2 =>
sU t28 (binA .add .num t33 (i6 1)) fun t34 =>
sU t28 (binA .gtr .num t31 t34) fun t35 =>
sP t28 (.bool true) t35 fun t36 =>
WIf t36 (
Ret [some (.bool false)] σ2 Q) (
sN a0 fun t39 =>
sF 3 t39 fun t40 =>
sL t40 (σ2.bumpT 18) fun t41 =>
sN a0 fun t43 =>
sF 4 t43 fun t44 =>
sL t44 (σ2.bumpT 18) fun t45 =>
sF 2 t3 fun t46 =>
sL t46 (σ2.bumpT 18) fun t47 =>
sN a0 fun t49 =>
sF 3 t49 fun t50 =>
sL t50 (σ2.bumpT 18) fun t51 =>
sB .sub t47 t51 fun t52 =>
Som (vSlSl 1 t45 none (some t52) none) fun t53 =>
C 75 [a0, t41, t53] (σ2.bumpT 18) fun t54 σ3 =>
Ret [some (.bool true)] σ3 Q)) (
sB .eql t6 (i6 3) fun t56 =>
WIf t56 (
sF 2 t3 fun t57 =>
sL t57 (σ1.bumpT 15) fun t58 =>
sN a0 fun t60 =>
sF 3 t60 fun t61 =>
sL t61 (σ1.bumpT 15) fun t62 =>
sB .lss t58 t62 fun t63 =>
sU t63 (vFieldAddr 2 t3) fun t65 =>
sU t63 (vLoad1 t65 (σ1.bumpT 15)) fun t66 =>
sU t63 (some a0) fun t67 =>
gE1 (isB t63 false) (fun K => C 15 [t67] (σ1.bumpT 15) fun t68 σ2 => Sure ((notB (isB t63 false) || SameO (vLoad1 t65 σ2) t66)) (K t68 σ2)) (σ1.bumpT 15) fun t68 σ2 =>
sU t63 (binA .add .num t68 (i6 1)) fun t69 =>
sU t63 (binA .gtr .num t66 t69) fun t70 =>
sP t63 (.bool true) t70 fun t71 =>
WIf t71 (
Ret [some (.bool false)] σ2 Q) (
sF 2 t3 fun t73 =>
sL t73 (σ2.bumpT 16) fun t74 =>
sN a0 fun t76 =>
sF 4 t76 fun t77 =>
sL t77 (σ2.bumpT 16) fun t78 =>
sF 2 t3 fun t79 =>
sL t79 (σ2.bumpT 16) fun t80 =>
sN a0 fun t82 =>
sF 3 t82 fun t83 =>
sL t83 (σ2.bumpT 16) fun t84 =>
sB .sub t80 t84 fun t85 =>
Som (vSlSl 1 t78 (some t85) none none) fun t86 =>
C 75 [a0, t74, t86] (σ2.bumpT 16) fun t87 σ3 =>
Ret [some (.bool true)] σ3 Q)) (
sB .eql t6 (i6 4) fun t89 =>
WIf t89 (
sF 2 t3 fun t91 =>
sL t91 σ1 fun t92 =>
C 48 [a0, t92, (i6 0)] σ1 fun t93 σ2 =>
Som (unA .not t93) fun t94 =>
WIf t94 (
Ret [some (.bool false)] σ2 Q) (
sF 2 t3 fun t96 =>
sL t96 σ2 fun t97 =>
C 79 [a0, t97] σ2 fun t98 σ3 =>
Ret [some (.bool true)] σ3 Q)) (
Ret [some (.bool false)] σ1 Q))))
theorem f74_eq {a0 a1 : AVal} : f74 C a0 a1 σ Q = wC C f74.body ((E0.set 0 a0).set 1 a1) σ (retK f74.res Q) := by kernel_rfl
theorem f74_wf (ht : tab 74 = some f74.fn) {a0 a1 : AVal} (h : f74 (WF tab) a0 a1 σ Q) : WF tab 74 [a0, a1] σ Q := wf_of ht (by kernel_rfl) f74_eq h
end Go.Am
