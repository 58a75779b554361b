/-
  Functions of the program as conditions. Conditions: none.
-/
import Derived.Test.YtkgjghlklniaeaaF0
import Derived.KernelRfl
namespace Go.Am
set_option maxRecDepth 20000
variable {tab : Nat → Option PFn} {C : CW} {E : En} {σ : S} {Q : AVal → S → Prop}
noncomputable def f39.res : List PRes := [.tmp (sn 6)]
noncomputable def f39.body : PC := (so [oq 6 (.mov (.val .nsl))] (so [om 8 0, oq 9 (.lenSl 8), om 10 1, om 11 2, oq 12 (.lenSl 11), ob 13 .add 10 12, oq 14 (.maxI 9 [13]), oa 15 (.mkslice 1 1 [(.int .u8 0)] 14 14), om 7 15] (so [om 16 7, om 17 0, oe 18 (.copy 1 16 17)] (so [om 19 7, om 20 1, oq 21 (.slSl 1 19 (some 20) none none), om 22 2, oe 23 (.copy 1 21 22)] (so [om 24 7, om 6 24] .ret)))))
noncomputable def f39.fn : PFn := .code (slotsN 25) f39.body f39.res
noncomputable def f39 (C : CW) (a0 a1 a2 : AVal) (σ : S) (Q : AVal → S → Prop) : Prop :=
Som (vLenSl a0) fun t9 =>
Som (vLenSl a2) fun t12 =>
sB .add a1 t12 fun t13 =>
Som (maxA t9 [t13]) fun t14 =>
Ala (aMakeV 1 1 [(.int .u8 0)] t14 t14) σ fun t15 σ1 =>
Eff (copyA 1 t15 a0 σ1) fun t18 σ2 =>
Som (vSlSl 1 t15 (some a1) none none) fun t21 =>
Eff (copyA 1 t21 a2 σ2) fun t23 σ3 =>
Ret [some t15] σ3 Q
theorem f39_eq {a0 a1 a2 : AVal} : f39 C a0 a1 a2 σ Q = wC C f39.body (((E0.set 0 a0).set 1 a1).set 2 a2) σ (retK f39.res Q) := by kernel_rfl
theorem f39_wf (ht : tab 39 = some f39.fn) {a0 a1 a2 : AVal} (h : f39 (WF tab) a0 a1 a2 σ Q) : WF tab 39 [a0, a1, a2] σ Q := wf_of ht (by kernel_rfl) f39_eq h
noncomputable def f40.res : List PRes := [.tmp (sn 2)]
noncomputable def f40.body : PC := (so [oq 2 (.mov oF)] (so [om 3 0, on 4 3, ox 5 5 4, ol 6 5, om 2 6] .ret))
noncomputable def f40.fn : PFn := .code (slotsN 7) f40.body f40.res
noncomputable def f40 (C : CW) (a0 : AVal) (σ : S) (Q : AVal → S → Prop) : Prop :=
sN a0 fun t4 =>
sF 5 t4 fun t5 =>
sL t5 σ fun t6 =>
Ret [some t6] σ Q
theorem f40_eq {a0 : AVal} : f40 C a0 σ Q = wC C f40.body (E0.set 0 a0) σ (retK f40.res Q) := by kernel_rfl
theorem f40_wf (ht : tab 40 = some f40.fn) {a0 : AVal} (h : f40 (WF tab) a0 σ Q) : WF tab 40 [a0] σ Q := wf_of ht (by kernel_rfl) f40_eq h
noncomputable def f41.c1 : PC := (.seq (so [om 103 10, ob 104 .gtr 103 (oi 0)] (.cond 104 (so [oq 4 (.mov (.val .nptr))] .ret) .skip)) (so [om 105 9, om 4 105] .ret))
noncomputable def f41.c0 : PC := (.block 1 (so [om 64 5, om 65 9, on 66 65, ox 67 5 66, ol 68 67, oe 69 (.call 73 [64, 68]), om 63 69, oq 70 (.extract 0 63), oq 71 (.extract 1 63), oq 72 (.extract 2 63), os (.store 5 6 70), om 7 71, om 8 72] (.seq (.seq (.draw 17 [⟨0, om 73 8, []⟩, ⟨1, oq 74 (.un .not 73), []⟩, ⟨2, om 75 74, []⟩, ⟨3, oqg 76 75 false (.fieldAddr 1 6), []⟩, ⟨4, oqg 77 75 false (.load1 76), []⟩, ⟨5, oqg 78 75 false (.mov 9), []⟩, ⟨6, oqg 79 75 false (.nilck 78), []⟩, ⟨7, oqg 80 75 false (.fieldAddr 2 79), []⟩, ⟨8, oqg 81 75 false (.load1 80), []⟩, ⟨9, oqg 82 75 false (.bin .neq .num 77 81), []⟩, ⟨10, oq 83 (.pick 75 oT 82), []⟩, ⟨11, om 84 83, []⟩, ⟨12, oqg 85 84 false (.mov 9), []⟩, ⟨13, oqg 86 84 false (.loadN 5 6), []⟩, ⟨14, oeg 87 84 false (.call 74 [85, 86]), []⟩, ⟨15, oqg 88 84 false (.un .not 87), []⟩, ⟨16, oq 89 (.pick 84 oT 88), []⟩]) (.cond 89 (.exit 0) .skip)) (so [om 90 9, om 91 7, on 92 90, ox 93 5 92, os (.store 1 93 91)] (so [ox 94 0 6, ol 95 94, ob 96 .eql 95 (oi 1), om 97 96, oqg 98 97 true (.mov 10), oqg 99 97 true (.bin .gtr .num 98 (oi 0)), oq 100 (.pick 97 99 oF)] (.cond 100 (.ops [om 101 10, ob 102 .sub 101 (oi 1), om 10 102]) .skip))))))
noncomputable def f41.res : List PRes := [.tmp (sn 4)]
noncomputable def f41.p1 (C : CW) (Q : AVal → S → Prop) (E : En) (σ : S) : Prop :=
sB .gtr (E 10) (i6 0) fun t104 =>
WIf t104 (
Ret [some .nptr] σ Q) (
Ret [some (E 9)] σ Q)
theorem f41.p1_eq : f41.p1 C Q E σ = wC C f41.c1 E σ (retK f41.res Q) := by kernel_rfl
abbrev f41.J1 (C : CW) (Q : AVal → S → Prop) (E : En) (σ : S) : Prop := wC C f41.c1 E σ (retK f41.res Q)
theorem f41.p1_of (h : f41.p1 C Q E σ) : f41.J1 C Q E σ := Eq.mp f41.p1_eq h
noncomputable def f41.p0 (C : CW) (Q : AVal → S → Prop) (R1 R0 : PC) (E : En) (σ : S) : Prop :=
sN (E 9) fun t66 =>
sF 5 t66 fun t67 =>
sL t67 σ fun t68 =>
C 73 [(E 5), t68] σ fun t69 σ1 =>
Som (vExtract 0 t69) fun t70 =>
Som (vExtract 1 t69) fun t71 =>
Som (vExtract 2 t69) fun t72 =>
sS 5 (E 6) t70 σ1 fun _ σ2 =>
Som (unA .not t72) fun t74 =>
sU t74 (vFieldAddr 1 (E 6)) fun t76 =>
sU t74 (vLoad1 t76 (σ2.bumpT 17)) fun t77 =>
sU t74 (some (E 9)) fun t78 =>
sU t74 (vNilck t78) fun t79 =>
sU t74 (vFieldAddr 2 t79) fun t80 =>
sU t74 (vLoad1 t80 (σ2.bumpT 17)) fun t81 =>
sU t74 (binA .neq .num t77 t81) fun t82 =>
sP t74 (.bool true) t82 fun t83 =>
sU t83 (some (E 9)) fun t85 =>
sU t83 (vLoadN 5 (E 6) (σ2.bumpT 17)) fun t86 =>
gE1 (isB t83 false) (fun K => C 74 [t85, t86] (σ2.bumpT 17) K) (σ2.bumpT 17) fun t87 σ3 =>
sU t83 (unA .not t87) fun t88 =>
sP t83 (.bool true) t88 fun t89 =>
WIf t89 (
wC C R1 ((((((((E.q 64 (E 5) 65 (E 9) 66 t66 67 t67).q 68 t68 69 t69 63 t69 70 t70).q 71 t71 72 t72 7 t71 8 t72).q 73 t72 74 t74 75 t74 76 t76).q 77 t77 78 t78 79 t79 80 t80).q 81 t81 82 t82 83 t83 84 t83).q 85 t85 86 t86 87 t87 88 t88).set 89 t89) σ3 (retK f41.res Q)) (
sN (E 9) fun t92 =>
sF 5 t92 fun t93 =>
sS 1 t93 t71 σ3 fun _ σ4 =>
sF 0 (E 6) fun t94 =>
sL t94 σ4 fun t95 =>
sB .eql t95 (i6 1) fun t96 =>
sT t96 (some (E 10)) fun t98 =>
sT t96 (binA .gtr .num t98 (i6 0)) fun t99 =>
sP t96 t99 (.bool false) fun t100 =>
WIf t100 (
sB .sub (E 10) (i6 1) fun t102 =>
wC C (.loop R0) (((((((((((((E.q 64 (E 5) 65 (E 9) 66 t66 67 t67).q 68 t68 69 t69 63 t69 70 t70).q 71 t71 72 t72 7 t71 8 t72).q 73 t72 74 t74 75 t74 76 t76).q 77 t77 78 t78 79 t79 80 t80).q 81 t81 82 t82 83 t83 84 t83).q 85 t85 86 t86 87 t87 88 t88).q 89 t89 90 (E 9) 91 t71 92 t92).q 93 t93 94 t94 95 t95 96 t96).q 97 t96 98 t98 99 t99 100 t100).set 101 (E 10)).set 102 t102).set 10 t102) σ4 (blockK 0 (seqK (wC C R1) (retK f41.res Q)))) (
wC C (.loop R0) ((((((((((E.q 64 (E 5) 65 (E 9) 66 t66 67 t67).q 68 t68 69 t69 63 t69 70 t70).q 71 t71 72 t72 7 t71 8 t72).q 73 t72 74 t74 75 t74 76 t76).q 77 t77 78 t78 79 t79 80 t80).q 81 t81 82 t82 83 t83 84 t83).q 85 t85 86 t86 87 t87 88 t88).q 89 t89 90 (E 9) 91 t71 92 t92).q 93 t93 94 t94 95 t95 96 t96).q 97 t96 98 t98 99 t99 100 t100) σ4 (blockK 0 (seqK (wC C R1) (retK f41.res Q)))))
theorem f41.p0_eq {R1 R0 : PC} : f41.p0 C Q R1 R0 E σ = wC C f41.c0 E σ (loopK C R0 (blockK 0 (seqK (wC C R1) (retK f41.res Q)))) := by kernel_rfl
abbrev f41.L0 (C : CW) (Q : AVal → S → Prop) (E : En) (σ : S) : Prop := wC C (.loop f41.c0) E σ (blockK 0 (seqK (wC C f41.c1) (retK f41.res Q)))
theorem f41.p0_of (h : f41.p0 (WF tab) Q f41.c1 f41.c0 E σ) : f41.L0 (WF tab) Q E σ := wLoop_step (Eq.mp f41.p0_eq h)
noncomputable def f41.body (R0 R1 : PC) : PC := (so [oq 4 (.mov (.val .nptr))] (so [om 11 0, om 12 1, oe 13 (.call 72 [11, 12]), om 5 13] (so [om 15 5, oe 16 (.call 73 [15, (oi 0)]), om 14 16, oq 17 (.extract 0 14), oq 18 (.extract 1 14), oq 19 (.extract 2 14), oa 6 (.alloc [(i6 0), (i6 0), (i6 0), (i6 0), (.str [])]), os (.store 5 6 17), om 7 18, om 8 19] (.seq (so [om 20 8, oq 21 (.un .not 20), om 22 21, oqg 23 22 false (.fieldAddr 0 6), oqg 24 22 false (.load1 23), oqg 25 22 false (.bin .neq .num 24 (oi 0)), oq 26 (.pick 22 oT 25), om 27 26, oqg 28 27 false (.fieldAddr 1 6), oqg 29 27 false (.load1 28), oqg 30 27 false (.bin .lss .num 29 (oi 1)), oq 31 (.pick 27 oT 30), om 32 31, oqg 33 32 false (.fieldAddr 1 6), oqg 34 32 false (.load1 33), oqg 35 32 false (.bin .geq .num 34 (oi 1125899906842624)), oq 36 (.pick 32 oT 35), om 37 36, oqg 38 37 false (.fieldAddr 2 6), oqg 39 37 false (.load1 38), oqg 40 37 false (.bin .lss .num 39 (oi 1)), oq 41 (.pick 37 oT 40), om 42 41, oqg 43 42 false (.fieldAddr 2 6), oqg 44 42 false (.load1 43), oqg 45 42 false (.bin .gtr .num 44 (oi 1099511627777)), oq 46 (.pick 42 oT 45), om 47 46, oqg 48 47 false (.fieldAddr 3 6), oqg 49 47 false (.load1 48), oqg 50 47 false (.bin .lss .num 49 (oi 0)), oq 51 (.pick 47 oT 50)] (.cond 51 (so [oq 4 (.mov (.val .nptr))] .ret) .skip)) (so [om 52 0, om 53 1, ox 54 1 6, ol 55 54, ox 56 2 6, ol 57 56, om 58 7, oq 59 (.build [.nptr, (i6 0), (i6 0), (i6 0), .nsl, (i6 0), (i6 0)] [(0, 1, 52), (1, 1, 53), (2, 1, 55), (3, 1, 57), (5, 1, 58)]), oa 60 (.box 59), om 9 60] (so [ox 61 3 6, ol 62 61, om 10 62] (.seq .skip (.seq (.block 0 (.loop R0)) R1))))))))
noncomputable def f41.fn : PFn := .code (slotsN 106) (f41.body f41.c0 f41.c1) f41.res
noncomputable def f41 (C : CW) (R0 R1 : PC) (a0 a1 : AVal) (σ : S) (Q : AVal → S → Prop) : Prop :=
C 72 [a0, a1] σ fun t13 σ1 =>
C 73 [t13, (i6 0)] σ1 fun t16 σ2 =>
Som (vExtract 0 t16) fun t17 =>
Som (vExtract 1 t16) fun t18 =>
Som (vExtract 2 t16) fun t19 =>
Ala (aAllocV [(i6 0), (i6 0), (i6 0), (i6 0), (.str [])]) σ2 fun t6 σ3 =>
sS 5 t6 t17 σ3 fun _ σ4 =>
Som (unA .not t19) fun t21 =>
sU t21 (vFieldAddr 0 t6) fun t23 =>
sU t21 (vLoad1 t23 σ4) fun t24 =>
sU t21 (binA .neq .num t24 (i6 0)) fun t25 =>
sP t21 (.bool true) t25 fun t26 =>
sU t26 (vFieldAddr 1 t6) fun t28 =>
sU t26 (vLoad1 t28 σ4) fun t29 =>
sU t26 (binA .lss .num t29 (i6 1)) fun t30 =>
sP t26 (.bool true) t30 fun t31 =>
sU t31 (vFieldAddr 1 t6) fun t33 =>
sU t31 (vLoad1 t33 σ4) fun t34 =>
sU t31 (binA .geq .num t34 (i6 1125899906842624)) fun t35 =>
sP t31 (.bool true) t35 fun t36 =>
sU t36 (vFieldAddr 2 t6) fun t38 =>
sU t36 (vLoad1 t38 σ4) fun t39 =>
sU t36 (binA .lss .num t39 (i6 1)) fun t40 =>
sP t36 (.bool true) t40 fun t41 =>
sU t41 (vFieldAddr 2 t6) fun t43 =>
sU t41 (vLoad1 t43 σ4) fun t44 =>
sU t41 (binA .gtr .num t44 (i6 1099511627777)) fun t45 =>
sP t41 (.bool true) t45 fun t46 =>
sU t46 (vFieldAddr 3 t6) fun t48 =>
sU t46 (vLoad1 t48 σ4) fun t49 =>
sU t46 (binA .lss .num t49 (i6 0)) fun t50 =>
sP t46 (.bool true) t50 fun t51 =>
WIf t51 (
Ret [some .nptr] σ4 Q) (
sF 1 t6 fun t54 =>
sL t54 σ4 fun t55 =>
sF 2 t6 fun t56 =>
sL t56 σ4 fun t57 =>
Som (vBuild [.nptr, (i6 0), (i6 0), (i6 0), .nsl, (i6 0), (i6 0)] [(0, 1, a0), (1, 1, a1), (2, 1, t55), (3, 1, t57), (5, 1, t18)]) fun t59 =>
Ala (aBoxV t59) σ4 fun t60 σ5 =>
sF 3 t6 fun t61 =>
sL t61 σ5 fun t62 =>
wC C (.loop R0) ((((((((((((((((E0.q 0 a0 1 a1 4 .nptr 11 a0).q 12 a1 13 t13 5 t13 15 t13).q 16 t16 14 t16 17 t17 18 t18).q 19 t19 6 t6 7 t18 8 t19).q 20 t19 21 t21 22 t21 23 t23).q 24 t24 25 t25 26 t26 27 t26).q 28 t28 29 t29 30 t30 31 t31).q 32 t31 33 t33 34 t34 35 t35).q 36 t36 37 t36 38 t38 39 t39).q 40 t40 41 t41 42 t41 43 t43).q 44 t44 45 t45 46 t46 47 t46).q 48 t48 49 t49 50 t50 51 t51).q 52 a0 53 a1 54 t54 55 t55).q 56 t56 57 t57 58 t18 59 t59).q 60 t60 9 t60 61 t61 62 t62).set 10 t62) σ5 (blockK 0 (seqK (wC C R1) (retK f41.res Q))))
theorem f41_eq {R0 R1 : PC} {a0 a1 : AVal} : f41 C R0 R1 a0 a1 σ Q = wC C (f41.body R0 R1) ((E0.set 0 a0).set 1 a1) σ (retK f41.res Q) := by kernel_rfl
theorem f41_wf (ht : tab 41 = some f41.fn) {a0 a1 : AVal} (h : f41 (WF tab) f41.c0 f41.c1 a0 a1 σ Q) : WF tab 41 [a0, a1] σ Q := wf_of ht (by kernel_rfl) f41_eq h
noncomputable def f42.res : List PRes := [.tmp (sn 4)]
noncomputable def f42.body : PC := (so [oq 4 (.mov (oi 0))] (.seq (so [om 5 1, oe 6 (.call 37 [5]), oq 7 (.un .not 6)] (.cond 7 (so [oq 4 (.mov (oi 0))] .ret) .skip)) (so [om 8 0, on 9 8, ox 10 1 9, ol 11 10, om 12 1, oq 13 (.ixSl 1 11 12), ol 14 13, oq 15 (.lenSl 14), om 4 15] .ret)))
noncomputable def f42.fn : PFn := .code (slotsN 16) f42.body f42.res
noncomputable def f42 (C : CW) (a0 a1 : AVal) (σ : S) (Q : AVal → S → Prop) : Prop :=
C 37 [a1] σ fun t6 σ1 =>
Som (unA .not t6) fun t7 =>
WIf t7 (
Ret [some (i6 0)] σ1 Q) (
sN a0 fun t9 =>
sF 1 t9 fun t10 =>
sL t10 σ1 fun t11 =>
Som (vIxSl 1 t11 a1) fun t13 =>
sL t13 σ1 fun t14 =>
Som (vLenSl t14) fun t15 =>
Ret [some t15] σ1 Q)
theorem f42_eq {a0 a1 : AVal} : f42 C a0 a1 σ Q = wC C f42.body ((E0.set 0 a0).set 1 a1) σ (retK f42.res Q) := by kernel_rfl
theorem f42_wf (ht : tab 42 = some f42.fn) {a0 a1 : AVal} (h : f42 (WF tab) a0 a1 σ Q) : WF tab 42 [a0, a1] σ Q := wf_of ht (by kernel_rfl) f42_eq h
noncomputable def f43.res : List PRes := [.tmp (sn 6)]
noncomputable def f43.body : PC := (so [oq 6 (.mov (oi 0))] (.seq (so [om 7 0, oe 8 (.call 36 [7]), oq 9 (.un .not 8)] (.cond 9 (so [oq 6 (.mov (oi 11))] .ret) .skip)) (.seq (so [om 10 1, oe 11 (.call 37 [10]), oq 12 (.un .not 11), om 13 12, oqg 14 13 false (.mov 2), oqg 15 13 false (.bin .lss .num 14 (oi 0)), oq 16 (.pick 13 oT 15), om 17 16, oqg 18 17 false (.mov 2), oqg 19 17 false (.mov 0), oqg 20 17 false (.nilck 19), oqg 21 17 false (.fieldAddr 1 20), oqg 22 17 false (.load1 21), oqg 23 17 false (.mov 1), oqg 24 17 false (.ixSl 1 22 23), oqg 25 17 false (.load1 24), oqg 26 17 false (.lenSl 25), oqg 27 17 false (.bin .gtr .num 18 26), oq 28 (.pick 17 oT 27)] (.cond 28 (so [oq 6 (.mov (oi 1))] .ret) .skip)) (.seq (.draw 17 [⟨0, om 29 0, []⟩, ⟨1, on 30 29, []⟩, ⟨2, ox 31 1 30, []⟩, ⟨3, ol 32 31, []⟩, ⟨4, om 33 1, []⟩, ⟨5, om 34 0, []⟩, ⟨6, on 35 34, []⟩, ⟨7, ox 36 1 35, []⟩, ⟨8, ol 37 36, []⟩, ⟨9, om 38 1, []⟩, ⟨10, oq 39 (.ixSl 1 37 38), []⟩, ⟨11, ol 40 39, []⟩, ⟨12, om 41 2, []⟩, ⟨13, oq 42 (.slSl 1 40 none (some 41) none), []⟩, ⟨14, oe 43 (.append 1 1 (.val .nsl) 42), [ol 32 31]⟩, ⟨15, oq 44 (.ixSl 1 32 33), []⟩, ⟨16, os (.store 1 44 43), []⟩]) (so [om 45 0, om 46 0, on 47 46, ox 48 3 47, ol 49 48, om 50 1, om 51 2, oq 52 (.build [(.bool false), (i6 0), (i6 0), .nsl] [(0, 1, oT), (1, 1, 50), (2, 1, 51)]), oa 53 (.bslice 4 [(.bool false), (i6 0), (i6 0), .nsl] 1 [(0, 4, 52)]), oe 54 (.append 4 48 49 53), on 55 45, ox 56 3 55, os (.store 1 56 54)] (so [oq 6 (.mov (oi 0))] .ret))))))
noncomputable def f43.fn : PFn := .code (slotsN 57) f43.body f43.res
noncomputable def f43 (C : CW) (a0 a1 a2 : AVal) (σ : S) (Q : AVal → S → Prop) : Prop :=
C 36 [a0] σ fun t8 σ1 =>
Som (unA .not t8) fun t9 =>
WIf t9 (
Ret [some (i6 11)] σ1 Q) (
C 37 [a1] σ1 fun t11 σ2 =>
Som (unA .not t11) fun t12 =>
sU t12 (some a2) fun t14 =>
sU t12 (binA .lss .num t14 (i6 0)) fun t15 =>
sP t12 (.bool true) t15 fun t16 =>
sU t16 (some a2) fun t18 =>
sU t16 (some a0) fun t19 =>
sU t16 (vNilck t19) fun t20 =>
sU t16 (vFieldAddr 1 t20) fun t21 =>
sU t16 (vLoad1 t21 σ2) fun t22 =>
sU t16 (some a1) fun t23 =>
sU t16 (vIxSl 1 t22 t23) fun t24 =>
sU t16 (vLoad1 t24 σ2) fun t25 =>
sU t16 (vLenSl t25) fun t26 =>
sU t16 (binA .gtr .num t18 t26) fun t27 =>
sP t16 (.bool true) t27 fun t28 =>
WIf t28 (
Ret [some (i6 1)] σ2 Q) (
sN a0 fun t30 =>
sF 1 t30 fun t31 =>
sL t31 (σ2.bumpT 17) fun t32 =>
sN a0 fun t35 =>
sF 1 t35 fun t36 =>
sL t36 (σ2.bumpT 17) fun t37 =>
Som (vIxSl 1 t37 a1) fun t39 =>
sL t39 (σ2.bumpT 17) fun t40 =>
Som (vSlSl 1 t40 none (some a2) none) fun t42 =>
Eff (appendA 1 1 .nsl t42 (σ2.bumpT 17)) fun t43 σ3 =>
Sure (SameO (vLoad1 t31 σ3) t32) <|
Som (vIxSl 1 t32 a1) fun t44 =>
sS 1 t44 t43 σ3 fun _ σ4 =>
sN a0 fun t47 =>
sF 3 t47 fun t48 =>
sL t48 σ4 fun t49 =>
Som (vBuild [(.bool false), (i6 0), (i6 0), .nsl] [(0, 1, (.bool true)), (1, 1, a1), (2, 1, a2)]) fun t52 =>
Ala (aSliceV 4 [(.bool false), (i6 0), (i6 0), .nsl] 1 [(0, 4, t52)]) σ4 fun t53 σ5 =>
Eff (appendA 4 48 t49 t53 σ5) fun t54 σ6 =>
sN a0 fun t55 =>
sF 3 t55 fun t56 =>
sS 1 t56 t54 σ6 fun _ σ7 =>
Ret [some (i6 0)] σ7 Q))
theorem f43_eq {a0 a1 a2 : AVal} : f43 C a0 a1 a2 σ Q = wC C f43.body (((E0.set 0 a0).set 1 a1).set 2 a2) σ (retK f43.res Q) := by kernel_rfl
theorem f43_wf (ht : tab 43 = some f43.fn) {a0 a1 a2 : AVal} (h : f43 (WF tab) a0 a1 a2 σ Q) : WF tab 43 [a0, a1, a2] σ Q := wf_of ht (by kernel_rfl) f43_eq h
noncomputable def f44.res : List PRes := [.tmp (sn 2)]
noncomputable def f44.body : PC := (so [oq 2 (.mov (oi 0))] (.seq (so [om 3 0, oe 4 (.call 36 [3]), oq 5 (.un .not 4)] (.cond 5 (so [oq 2 (.mov (oi 11))] .ret) .skip)) (.seq (.draw 9 [⟨0, om 6 0, []⟩, ⟨1, on 7 6, []⟩, ⟨2, ox 8 2 7, []⟩, ⟨3, ol 9 8, []⟩, ⟨4, om 10 0, []⟩, ⟨5, on 11 10, []⟩, ⟨6, ox 12 1 11, []⟩, ⟨7, ol 13 12, []⟩, ⟨8, oe 14 (.copy 1 9 13), []⟩]) (so [om 15 0, on 16 15, ox 17 3 16, os (.store 1 17 (.val .nsl))] (so [oq 2 (.mov (oi 0))] .ret)))))
noncomputable def f44.fn : PFn := .code (slotsN 18) f44.body f44.res
noncomputable def f44 (C : CW) (a0 : AVal) (σ : S) (Q : AVal → S → Prop) : Prop :=
C 36 [a0] σ fun t4 σ1 =>
Som (unA .not t4) fun t5 =>
WIf t5 (
Ret [some (i6 11)] σ1 Q) (
sN a0 fun t7 =>
sF 2 t7 fun t8 =>
sL t8 (σ1.bumpT 9) fun t9 =>
sN a0 fun t11 =>
sF 1 t11 fun t12 =>
sL t12 (σ1.bumpT 9) fun t13 =>
Eff (copyA 1 t9 t13 (σ1.bumpT 9)) fun t14 σ2 =>
sN a0 fun t16 =>
sF 3 t16 fun t17 =>
sS 1 t17 .nsl σ2 fun _ σ3 =>
Ret [some (i6 0)] σ3 Q)
theorem f44_eq {a0 : AVal} : f44 C a0 σ Q = wC C f44.body (E0.set 0 a0) σ (retK f44.res Q) := by kernel_rfl
theorem f44_wf (ht : tab 44 = some f44.fn) {a0 : AVal} (h : f44 (WF tab) a0 σ Q) : WF tab 44 [a0] σ Q := wf_of ht (by kernel_rfl) f44_eq h
noncomputable def f45.c1 : PC := (.seq (so [om 51 8, oe 52 (.call 51 [7, 51]), om 11 52] (so [om 53 11, ob 54 .neq 53 (oi 0)] (.cond 54 (so [om 55 11, om 6 55] .ret) .skip))) (so [om 56 1, om 57 2, oe 58 (.call 75 [7, 56, 57])] (.seq (.seq (.draw 26 [⟨0, om 59 0, []⟩, ⟨1, on 60 59, []⟩, ⟨2, ox 61 0 60, []⟩, ⟨3, ol 62 61, []⟩, ⟨4, oe 63 (.call 44 [62]), []⟩, ⟨5, ob 64 .neq 63 (oi 0), []⟩, ⟨6, om 65 64, []⟩, ⟨7, oqg 66 65 false (.mov 0), []⟩, ⟨8, oqg 67 65 false (.nilck 66), []⟩, ⟨9, oqg 68 65 false (.fieldAddr 0 67), []⟩, ⟨10, oqg 69 65 false (.load1 68), []⟩, ⟨11, oqg 70 65 false (.mov 0), []⟩, ⟨12, oqg 71 65 false (.nilck 70), []⟩, ⟨13, oqg 72 65 false (.fieldAddr 1 71), []⟩, ⟨14, oqg 73 65 false (.load1 72), []⟩, ⟨15, oeg 74 65 false (.call 43 [69, 73, (oi 0)]), []⟩, ⟨16, oqg 75 65 false (.bin .neq .num 74 (oi 0)), []⟩, ⟨17, oq 76 (.pick 65 oT 75), []⟩, ⟨18, om 77 76, []⟩, ⟨19, oqg 78 77 false (.mov 0), []⟩, ⟨20, oqg 79 77 false (.nilck 78), []⟩, ⟨21, oqg 80 77 false (.fieldAddr 0 79), []⟩, ⟨22, oqg 81 77 false (.load1 80), []⟩, ⟨23, oeg 82 77 false (.call 44 [81]), []⟩, ⟨24, oqg 83 77 false (.bin .neq .num 82 (oi 0)), []⟩, ⟨25, oq 84 (.pick 77 oT 83), []⟩]) (.cond 84 (so [oq 6 (.mov (oi 11))] .ret) .skip)) (so [om 85 0, oq 86 (.loadN 7 7), on 87 85, os (.store 7 87 86)] (so [oq 6 (.mov (oi 0))] .ret)))))
noncomputable def f45.c0 : PC := (so [ob 37 .lss 36 35] (.seq (.cond 37 .skip (.exit 0)) (.seq (.block 1 (so [om 38 36, oq 39 (.ixSl 1 34 36), ol 40 39, om 9 38, om 10 40] (.ops [om 41 8, ox 42 2 7, ol 43 42, om 44 1, om 45 9, ob 46 .add 44 45, om 47 10, oe 48 (.call 50 [(.val .nsl), (oi 1), 43, 46, (oi 0), 47]), oe 49 (.append 1 1 41 48), om 8 49]))) (.ops [ob 50 .add 36 (oi 1), om 36 50]))))
noncomputable def f45.res : List PRes := [.tmp (sn 6)]
noncomputable def f45.p1 (C : CW) (Q : AVal → S → Prop) (E : En) (σ : S) : Prop :=
C 51 [(E 7), (E 8)] σ fun t52 σ1 =>
sB .neq t52 (i6 0) fun t54 =>
WIf t54 (
Ret [some t52] σ1 Q) (
C 75 [(E 7), (E 1), (E 2)] σ1 fun t58 σ2 =>
sN (E 0) fun t60 =>
sF 0 t60 fun t61 =>
sL t61 (σ2.bumpT 26) fun t62 =>
C 44 [t62] (σ2.bumpT 26) fun t63 σ3 =>
sB .neq t63 (i6 0) fun t64 =>
sU t64 (some (E 0)) fun t66 =>
sU t64 (vNilck t66) fun t67 =>
sU t64 (vFieldAddr 0 t67) fun t68 =>
sU t64 (vLoad1 t68 σ3) fun t69 =>
sU t64 (some (E 0)) fun t70 =>
sU t64 (vNilck t70) fun t71 =>
sU t64 (vFieldAddr 1 t71) fun t72 =>
sU t64 (vLoad1 t72 σ3) fun t73 =>
gE1 (isB t64 false) (fun K => C 43 [t69, t73, (i6 0)] σ3 K) σ3 fun t74 σ4 =>
sU t64 (binA .neq .num t74 (i6 0)) fun t75 =>
sP t64 (.bool true) t75 fun t76 =>
sU t76 (some (E 0)) fun t78 =>
sU t76 (vNilck t78) fun t79 =>
sU t76 (vFieldAddr 0 t79) fun t80 =>
sU t76 (vLoad1 t80 σ4) fun t81 =>
gE1 (isB t76 false) (fun K => C 44 [t81] σ4 K) σ4 fun t82 σ5 =>
sU t76 (binA .neq .num t82 (i6 0)) fun t83 =>
sP t76 (.bool true) t83 fun t84 =>
WIf t84 (
Ret [some (i6 11)] σ5 Q) (
Som (vLoadN 7 (E 7) σ5) fun t86 =>
sN (E 0) fun t87 =>
sS 7 t87 t86 σ5 fun _ σ6 =>
Ret [some (i6 0)] σ6 Q))
theorem f45.p1_eq : f45.p1 C Q E σ = wC C f45.c1 E σ (retK f45.res Q) := by kernel_rfl
abbrev f45.J1 (C : CW) (Q : AVal → S → Prop) (E : En) (σ : S) : Prop := wC C f45.c1 E σ (retK f45.res Q)
theorem f45.p1_of (h : f45.p1 C Q E σ) : f45.J1 C Q E σ := Eq.mp f45.p1_eq h
noncomputable def f45.p0 (C : CW) (Q : AVal → S → Prop) (R0 R1 : PC) (E : En) (σ : S) : Prop :=
sB .lss (E 36) (E 35) fun t37 =>
WIf t37 (
Som (vIxSl 1 (E 34) (E 36)) fun t39 =>
sL t39 σ fun t40 =>
sF 2 (E 7) fun t42 =>
sL t42 σ fun t43 =>
sB .add (E 1) (E 36) fun t46 =>
C 50 [.nsl, (i6 1), t43, t46, (i6 0), t40] σ fun t48 σ1 =>
Eff (appendA 1 1 (E 8) t48 σ1) fun t49 σ2 =>
sB .add (E 36) (i6 1) fun t50 =>
wC C (.loop R0) ((((((E.q 37 t37 38 (E 36) 39 t39 40 t40).q 9 (E 36) 10 t40 41 (E 8) 42 t42).q 43 t43 44 (E 1) 45 (E 36) 46 t46).q 47 t40 48 t48 49 t49 8 t49).set 50 t50).set 36 t50) σ2 (blockK 0 (seqK (wC C R1) (retK f45.res Q)))) (
wC C R1 (E.set 37 t37) σ (retK f45.res Q))
theorem f45.p0_eq {R0 R1 : PC} : f45.p0 C Q R0 R1 E σ = wC C f45.c0 E σ (loopK C R0 (blockK 0 (seqK (wC C R1) (retK f45.res Q)))) := by kernel_rfl
abbrev f45.L0 (C : CW) (Q : AVal → S → Prop) (E : En) (σ : S) : Prop := wC C (.loop f45.c0) E σ (blockK 0 (seqK (wC C f45.c1) (retK f45.res Q)))
theorem f45.p0_of (h : f45.p0 (WF tab) Q f45.c0 f45.c1 E σ) : f45.L0 (WF tab) Q E σ := wLoop_step (Eq.mp f45.p0_eq h)
noncomputable def f45.body (R0 R1 : PC) : PC := (so [oq 6 (.mov (oi 0))] (.seq (.draw 18 [⟨0, om 12 0, []⟩, ⟨1, on 13 12, []⟩, ⟨2, ox 14 0 13, []⟩, ⟨3, ol 15 14, []⟩, ⟨4, om 16 0, []⟩, ⟨5, on 17 16, []⟩, ⟨6, ox 18 1 17, []⟩, ⟨7, ol 19 18, []⟩, ⟨8, ob 20 .sub (oi 17) 19, []⟩, ⟨9, om 21 0, []⟩, ⟨10, on 22 21, []⟩, ⟨11, ox 23 2 22, []⟩, ⟨12, ol 24 23, []⟩, ⟨13, ob 25 .add 24 (oi 1), []⟩, ⟨14, om 26 1, []⟩, ⟨15, oq 27 (.build [.nptr, (i6 0), (i6 0), (i6 0), .nsl, (i6 0), (i6 0)] [(0, 1, 15), (1, 1, 20), (2, 1, 25), (3, 1, 26)]), []⟩, ⟨16, oa 7 (.alloc [.nptr, (i6 0), (i6 0), (i6 0), .nsl, (i6 0), (i6 0)]), []⟩, ⟨17, os (.store 7 7 27), []⟩]) (so [ox 28 2 7, ol 29 28, om 30 1, om 31 2, oq 32 (.lenSl 31), oe 33 (.call 50 [(.val .nsl), (oi 0), 29, 30, 32, (.val (.str []))]), om 8 33] (.seq (so [om 34 2, oq 35 (.lenSl 34), oq 36 (.mov (oi 0))] (.block 0 (.loop R0))) R1))))
noncomputable def f45.fn : PFn := .code (slotsN 88) (f45.body f45.c0 f45.c1) f45.res
noncomputable def f45 (C : CW) (R0 R1 : PC) (a0 a1 a2 : AVal) (σ : S) (Q : AVal → S → Prop) : Prop :=
sN a0 fun t13 =>
sF 0 t13 fun t14 =>
sL t14 (σ.bumpT 18) fun t15 =>
sN a0 fun t17 =>
sF 1 t17 fun t18 =>
sL t18 (σ.bumpT 18) fun t19 =>
sB .sub (i6 17) t19 fun t20 =>
sN a0 fun t22 =>
sF 2 t22 fun t23 =>
sL t23 (σ.bumpT 18) fun t24 =>
sB .add t24 (i6 1) fun t25 =>
Som (vBuild [.nptr, (i6 0), (i6 0), (i6 0), .nsl, (i6 0), (i6 0)] [(0, 1, t15), (1, 1, t20), (2, 1, t25), (3, 1, a1)]) fun t27 =>
Alb (aAllocV [.nptr, (i6 0), (i6 0), (i6 0), .nsl, (i6 0), (i6 0)]) (Pos.plusT 16 σ.next) (σ.bumpT 18) fun t7 σ1 =>
sS 7 t7 t27 σ1 fun _ σ2 =>
sF 2 t7 fun t28 =>
sL t28 σ2 fun t29 =>
Som (vLenSl a2) fun t32 =>
C 50 [.nsl, (i6 0), t29, a1, t32, (.str [])] σ2 fun t33 σ3 =>
Som (vLenSl a2) fun t35 =>
wC C (.loop R0) ((((((((((E0.q 0 a0 1 a1 2 a2 6 (i6 0)).q 12 a0 13 t13 14 t14 15 t15).q 16 a0 17 t17 18 t18 19 t19).q 20 t20 21 a0 22 t22 23 t23).q 24 t24 25 t25 26 a1 27 t27).q 7 t7 28 t28 29 t29 30 a1).q 31 a2 32 t32 33 t33 8 t33).set 34 a2).set 35 t35).set 36 (i6 0)) σ3 (blockK 0 (seqK (wC C R1) (retK f45.res Q)))
theorem f45_eq {R0 R1 : PC} {a0 a1 a2 : AVal} : f45 C R0 R1 a0 a1 a2 σ Q = wC C (f45.body R0 R1) (((E0.set 0 a0).set 1 a1).set 2 a2) σ (retK f45.res Q) := by kernel_rfl
theorem f45_wf (ht : tab 45 = some f45.fn) {a0 a1 a2 : AVal} (h : f45 (WF tab) f45.c0 f45.c1 a0 a1 a2 σ Q) : WF tab 45 [a0, a1, a2] σ Q := wf_of ht (by kernel_rfl) f45_eq h
noncomputable def f47.res : List PRes := [.tmp (sn 10)]
noncomputable def f47.body : PC := (so [oq 10 (.mov (oi 0))] (so [om 15 0, oe 16 (.call 49 [15]), om 11 16] (so [om 17 1, om 18 0, on 19 18, ox 20 2 19, ol 21 20, om 22 2, oe 23 (.call 50 [(.val .nsl), 17, 21, 22, (oi 0), (.val (.str []))]), om 12 23] (so [om 24 11, om 25 12, oe 26 (.append 1 1 24 25), om 13 26] (.seq (.seq (.draw 14 [⟨0, om 27 0, []⟩, ⟨1, on 28 27, []⟩, ⟨2, ox 29 5 28, []⟩, ⟨3, ol 30 29, []⟩, ⟨4, om 31 13, []⟩, ⟨5, oq 32 (.lenSl 31), []⟩, ⟨6, ob 33 .add 30 32, []⟩, ⟨7, om 34 0, []⟩, ⟨8, om 35 3, []⟩, ⟨9, om 36 4, []⟩, ⟨10, oe 37 (.call 76 [34, 35, 36]), [ol 30 29]⟩, ⟨11, ob 38 .mul (oi 2) 37, []⟩, ⟨12, ob 39 .add 38 (oi 4096), []⟩, ⟨13, ob 40 .gtr 33 39, []⟩]) (.cond 40 (so [om 41 0, om 42 3, om 43 4, oe 44 (.call 45 [41, 42, 43]), om 10 44] .ret) .skip)) (.seq (so [om 45 0, om 46 13, oe 47 (.call 51 [45, 46]), om 14 47] (so [om 48 14, ob 49 .neq 48 (oi 0)] (.cond 49 (so [om 50 14, om 10 50] .ret) .skip))) (so [om 51 0, om 52 3, om 53 4, oe 54 (.call 75 [51, 52, 53])] (so [oq 10 (.mov (oi 0))] .ret))))))))
noncomputable def f47.fn : PFn := .code (slotsN 55) f47.body f47.res
noncomputable def f47 (C : CW) (a0 a1 a2 a3 a4 : AVal) (σ : S) (Q : AVal → S → Prop) : Prop :=
C 49 [a0] σ fun t16 σ1 =>
sN a0 fun t19 =>
sF 2 t19 fun t20 =>
sL t20 σ1 fun t21 =>
C 50 [.nsl, a1, t21, a2, (i6 0), (.str [])] σ1 fun t23 σ2 =>
Eff (appendA 1 1 t16 t23 σ2) fun t26 σ3 =>
sN a0 fun t28 =>
sF 5 t28 fun t29 =>
sL t29 (σ3.bumpT 14) fun t30 =>
Som (vLenSl t26) fun t32 =>
sB .add t30 t32 fun t33 =>
C 76 [a0, a3, a4] (σ3.bumpT 14) fun t37 σ4 =>
Sure (SameO (vLoad1 t29 σ4) t30) <|
sB .mul (i6 2) t37 fun t38 =>
sB .add t38 (i6 4096) fun t39 =>
sB .gtr t33 t39 fun t40 =>
WIf t40 (
C 45 [a0, a3, a4] σ4 fun t44 σ5 =>
Ret [some t44] σ5 Q) (
C 51 [a0, t26] σ4 fun t47 σ5 =>
sB .neq t47 (i6 0) fun t49 =>
WIf t49 (
Ret [some t47] σ5 Q) (
C 75 [a0, a3, a4] σ5 fun t54 σ6 =>
Ret [some (i6 0)] σ6 Q))
theorem f47_eq {a0 a1 a2 a3 a4 : AVal} : f47 C a0 a1 a2 a3 a4 σ Q = wC C f47.body ((E0.q 0 a0 1 a1 2 a2 3 a3).set 4 a4) σ (retK f47.res Q) := by kernel_rfl
theorem f47_wf (ht : tab 47 = some f47.fn) {a0 a1 a2 a3 a4 : AVal} (h : f47 (WF tab) a0 a1 a2 a3 a4 σ Q) : WF tab 47 [a0, a1, a2, a3, a4] σ Q := wf_of ht (by kernel_rfl) f47_eq h
noncomputable def f48.res : List PRes := [.tmp (sn 6)]
noncomputable def f48.body : PC := (so [oq 6 (.mov oF)] (.seq (so [om 7 0, on 8 7, ox 9 4 8, ol 10 9, oq 11 (.lenSl 10), ob 12 .gtr 11 (oi 0), om 13 12, oqg 14 13 true (.mov 1), oqg 15 13 true (.mov 0), oeg 16 13 true (.call 15 [15]), oqg 17 13 true (.bin .add .num 16 (oi 1)), oqg 18 13 true (.bin .neq .num 14 17), oq 19 (.pick 13 18 oF), om 20 19, oqg 21 20 false (.mov 0), oqg 22 20 false (.nilck 21), oqg 23 20 false (.fieldAddr 4 22), oqg 24 20 false (.load1 23), oqg 25 20 false (.lenSl 24), oqg 26 20 false (.bin .eql .num 25 (oi 0)), oqg 27 20 false (.mov 26), oqg 28 27 true (.mov 1), oqg 29 27 true (.bin .lss .num 28 (oi 1)), oqg 30 27 true (.mov 29), oqg 31 30 false (.mov 1), oqg 32 30 false (.bin .gtr .num 31 (oi 1099511627777)), oqg 33 27 true (.pick 30 oT 32), oqg 34 20 false (.pick 27 33 oF), oq 35 (.pick 20 oT 34)] (.cond 35 (so [oq 6 (.mov oF)] .ret) .skip)) (so [om 36 1, om 37 2, ob 38 .add 36 37, ob 39 .sub 38 (oi 1), ob 40 .leq 39 (oi 1099511627776), om 6 40] .ret)))
noncomputable def f48.fn : PFn := .code (slotsN 41) f48.body f48.res
noncomputable def f48 (C : CW) (a0 a1 a2 : AVal) (σ : S) (Q : AVal → S → Prop) : Prop :=
sN a0 fun t8 =>
sF 4 t8 fun t9 =>
sL t9 σ fun t10 =>
Som (vLenSl t10) fun t11 =>
sB .gtr t11 (i6 0) fun t12 =>
sT t12 (some a1) fun t14 =>
sT t12 (some a0) fun t15 =>
gE1 (isB t12 true) (fun K => C 15 [t15] σ K) σ fun t16 σ1 =>
sT t12 (binA .add .num t16 (i6 1)) fun t17 =>
sT t12 (binA .neq .num t14 t17) fun t18 =>
sP t12 t18 (.bool false) fun t19 =>
sU t19 (some a0) fun t21 =>
sU t19 (vNilck t21) fun t22 =>
sU t19 (vFieldAddr 4 t22) fun t23 =>
sU t19 (vLoad1 t23 σ1) fun t24 =>
sU t19 (vLenSl t24) fun t25 =>
sU t19 (binA .eql .num t25 (i6 0)) fun t26 =>
sU t19 (some t26) fun t27 =>
sT t27 (some a1) fun t28 =>
sT t27 (binA .lss .num t28 (i6 1)) fun t29 =>
sT t27 (some t29) fun t30 =>
sU t30 (some a1) fun t31 =>
sU t30 (binA .gtr .num t31 (i6 1099511627777)) fun t32 =>
sT t27 (vPick t30 (.bool true) t32) fun t33 =>
sU t19 (vPick t27 t33 (.bool false)) fun t34 =>
sP t19 (.bool true) t34 fun t35 =>
WIf t35 (
Ret [some (.bool false)] σ1 Q) (
sB .add a1 a2 fun t38 =>
sB .sub t38 (i6 1) fun t39 =>
sB .leq t39 (i6 1099511627776) fun t40 =>
Ret [some t40] σ1 Q)
theorem f48_eq {a0 a1 a2 : AVal} : f48 C a0 a1 a2 σ Q = wC C f48.body (((E0.set 0 a0).set 1 a1).set 2 a2) σ (retK f48.res Q) := by kernel_rfl
theorem f48_wf (ht : tab 48 = some f48.fn) {a0 a1 a2 : AVal} (h : f48 (WF tab) a0 a1 a2 σ Q) : WF tab 48 [a0, a1, a2] σ Q := wf_of ht (by kernel_rfl) f48_eq h
noncomputable def f49.res : List PRes := [.tmp (sn 2)]
noncomputable def f49.body : PC := (so [oq 2 (.mov (.val .nsl))] (.seq (so [om 3 0, on 4 3, ox 5 5 4, ol 6 5, ob 7 .gtr 6 (oi 0)] (.cond 7 (so [oq 2 (.mov (.val .nsl))] .ret) .skip)) (so [om 8 0, om 9 0, on 10 9, ox 11 2 10, ol 12 11, oq 13 (.maxI 12 [(oi 1)]), on 14 8, ox 15 2 14, os (.store 1 15 13)] (.seq (.draw 10 [⟨0, om 16 0, []⟩, ⟨1, on 17 16, []⟩, ⟨2, ox 18 2 17, []⟩, ⟨3, ol 19 18, []⟩, ⟨4, om 20 0, []⟩, ⟨5, on 21 20, []⟩, ⟨6, ox 22 3 21, []⟩, ⟨7, ol 23 22, []⟩, ⟨8, oe 24 (.call 50 [(.val .nsl), (oi 0), 19, 23, (oi 0), (.val (.str []))]), []⟩, ⟨9, om 2 24, []⟩]) .ret))))
noncomputable def f49.fn : PFn := .code (slotsN 25) f49.body f49.res
noncomputable def f49 (C : CW) (a0 : AVal) (σ : S) (Q : AVal → S → Prop) : Prop :=
sN a0 fun t4 =>
sF 5 t4 fun t5 =>
sL t5 σ fun t6 =>
sB .gtr t6 (i6 0) fun t7 =>
WIf t7 (
Ret [some .nsl] σ Q) (
sN a0 fun t10 =>
sF 2 t10 fun t11 =>
sL t11 σ fun t12 =>
Som (maxA t12 [(i6 1)]) fun t13 =>
sN a0 fun t14 =>
sF 2 t14 fun t15 =>
sS 1 t15 t13 σ fun _ σ1 =>
sN a0 fun t17 =>
sF 2 t17 fun t18 =>
sL t18 (σ1.bumpT 10) fun t19 =>
sN a0 fun t21 =>
sF 3 t21 fun t22 =>
sL t22 (σ1.bumpT 10) fun t23 =>
C 50 [.nsl, (i6 0), t19, t23, (i6 0), (.str [])] (σ1.bumpT 10) fun t24 σ2 =>
Ret [some t24] σ2 Q)
theorem f49_eq {a0 : AVal} : f49 C a0 σ Q = wC C f49.body (E0.set 0 a0) σ (retK f49.res Q) := by kernel_rfl
theorem f49_wf (ht : tab 49 = some f49.fn) {a0 : AVal} (h : f49 (WF tab) a0 σ Q) : WF tab 49 [a0] σ Q := wf_of ht (by kernel_rfl) f49_eq h
noncomputable def f50.res : List PRes := [.tmp (sn 12)]
noncomputable def f50.body : PC := (so [oq 12 (.mov (.val .nsl))] (so [om 14 1, oe 15 (.call 77 [(.val .nsl), 14]), om 16 2, oe 17 (.call 77 [15, 16]), om 18 3, oe 19 (.call 77 [17, 18]), om 20 4, oe 21 (.call 77 [19, 20]), om 13 21] (so [om 22 0, om 23 13, om 24 5, oe 25 (.append 1 1 23 24), oe 26 (.call 78 [22, 25]), om 12 26] .ret)))
noncomputable def f50.fn : PFn := .code (slotsN 27) f50.body f50.res
noncomputable def f50 (C : CW) (a0 a1 a2 a3 a4 a5 : AVal) (σ : S) (Q : AVal → S → Prop) : Prop :=
C 77 [.nsl, a1] σ fun t15 σ1 =>
C 77 [t15, a2] σ1 fun t17 σ2 =>
C 77 [t17, a3] σ2 fun t19 σ3 =>
C 77 [t19, a4] σ3 fun t21 σ4 =>
Eff (appendA 1 1 t21 a5 σ4) fun t25 σ5 =>
C 78 [a0, t25] σ5 fun t26 σ6 =>
Ret [some t26] σ6 Q
theorem f50_eq {a0 a1 a2 a3 a4 a5 : AVal} : f50 C a0 a1 a2 a3 a4 a5 σ Q = wC C f50.body (((E0.q 0 a0 1 a1 2 a2 3 a3).set 4 a4).set 5 a5) σ (retK f50.res Q) := by kernel_rfl
theorem f50_wf (ht : tab 50 = some f50.fn) {a0 a1 a2 a3 a4 a5 : AVal} (h : f50 (WF tab) a0 a1 a2 a3 a4 a5 σ Q) : WF tab 50 [a0, a1, a2, a3, a4, a5] σ Q := wf_of ht (by kernel_rfl) f50_eq h
noncomputable def f51.res : List PRes := [.tmp (sn 4)]
noncomputable def f51.body : PC := (so [oq 4 (.mov (oi 0))] (.seq (.draw 15 [⟨0, om 6 0, []⟩, ⟨1, on 7 6, []⟩, ⟨2, ox 8 0 7, []⟩, ⟨3, ol 9 8, []⟩, ⟨4, om 10 0, []⟩, ⟨5, on 11 10, []⟩, ⟨6, ox 12 1 11, []⟩, ⟨7, ol 13 12, []⟩, ⟨8, om 14 0, []⟩, ⟨9, on 15 14, []⟩, ⟨10, ox 16 5 15, []⟩, ⟨11, ol 17 16, []⟩, ⟨12, om 18 1, []⟩, ⟨13, oe 19 (.call 10 [9, 13, 17, 18]), []⟩, ⟨14, om 5 19, []⟩]) (.seq (so [om 20 5, ob 21 .eql 20 (oi 0)] (.cond 21 (.ops [om 22 0, on 23 22, ox 24 5 23, ol 25 24, om 26 1, oq 27 (.lenSl 26), ob 28 .add 25 27, on 29 22, ox 30 5 29, os (.store 1 30 28)]) .skip)) (so [om 31 5, om 4 31] .ret))))
noncomputable def f51.fn : PFn := .code (slotsN 32) f51.body f51.res
noncomputable def f51 (C : CW) (a0 a1 : AVal) (σ : S) (Q : AVal → S → Prop) : Prop :=
sN a0 fun t7 =>
sF 0 t7 fun t8 =>
sL t8 (σ.bumpT 15) fun t9 =>
sN a0 fun t11 =>
sF 1 t11 fun t12 =>
sL t12 (σ.bumpT 15) fun t13 =>
sN a0 fun t15 =>
sF 5 t15 fun t16 =>
sL t16 (σ.bumpT 15) fun t17 =>
C 10 [t9, t13, t17, a1] (σ.bumpT 15) fun t19 σ1 =>
sB .eql t19 (i6 0) fun t21 =>
WIf t21 (
sN a0 fun t23 =>
sF 5 t23 fun t24 =>
sL t24 σ1 fun t25 =>
Som (vLenSl a1) fun t27 =>
sB .add t25 t27 fun t28 =>
sN a0 fun t29 =>
sF 5 t29 fun t30 =>
sS 1 t30 t28 σ1 fun _ σ2 =>
Ret [some t19] σ2 Q) (
Ret [some t19] σ1 Q)
theorem f51_eq {a0 a1 : AVal} : f51 C a0 a1 σ Q = wC C f51.body ((E0.set 0 a0).set 1 a1) σ (retK f51.res Q) := by kernel_rfl
theorem f51_wf (ht : tab 51 = some f51.fn) {a0 a1 : AVal} (h : f51 (WF tab) a0 a1 σ Q) : WF tab 51 [a0, a1] σ Q := wf_of ht (by kernel_rfl) f51_eq h
noncomputable def f52.res : List PRes := []
noncomputable def f52.body : PC := (so [om 6 0, om 7 1, oe 8 (.call 79 [6, 7])] (so [om 9 0, om 10 0, on 11 10, ox 12 4 11, ol 13 12, om 14 2, oa 15 (.bslice 1 [(.str [])] 1 [(0, 1, 14)]), oe 16 (.append 1 16 13 15), on 17 9, ox 18 4 17, os (.store 1 18 16)] (.draw 15 [⟨0, om 19 0, []⟩, ⟨1, on 20 19, []⟩, ⟨2, ox 21 6 20, []⟩, ⟨3, ol 22 21, []⟩, ⟨4, om 23 0, []⟩, ⟨5, on 24 23, []⟩, ⟨6, ox 25 2 24, []⟩, ⟨7, ol 26 25, []⟩, ⟨8, om 27 1, []⟩, ⟨9, om 28 2, []⟩, ⟨10, oe 29 (.call 80 [26, 27, 28]), [ol 22 21]⟩, ⟨11, ob 30 .add 22 29, []⟩, ⟨12, on 31 19, []⟩, ⟨13, ox 32 6 31, []⟩, ⟨14, os (.store 1 32 30), []⟩])))
noncomputable def f52.fn : PFn := .code (slotsN 33) f52.body f52.res
noncomputable def f52 (C : CW) (a0 a1 a2 : AVal) (σ : S) (Q : AVal → S → Prop) : Prop :=
C 79 [a0, a1] σ fun t8 σ1 =>
sN a0 fun t11 =>
sF 4 t11 fun t12 =>
sL t12 σ1 fun t13 =>
Ala (aSliceV 1 [(.str [])] 1 [(0, 1, a2)]) σ1 fun t15 σ2 =>
Eff (appendA 1 16 t13 t15 σ2) fun t16 σ3 =>
sN a0 fun t17 =>
sF 4 t17 fun t18 =>
sS 1 t18 t16 σ3 fun _ σ4 =>
sN a0 fun t20 =>
sF 6 t20 fun t21 =>
sL t21 (σ4.bumpT 15) fun t22 =>
sN a0 fun t24 =>
sF 2 t24 fun t25 =>
sL t25 (σ4.bumpT 15) fun t26 =>
C 80 [t26, a1, a2] (σ4.bumpT 15) fun t29 σ5 =>
Sure (SameO (vLoad1 t21 σ5) t22) <|
sB .add t22 t29 fun t30 =>
sN a0 fun t31 =>
sF 6 t31 fun t32 =>
sS 1 t32 t30 σ5 fun _ σ6 =>
Ret [] σ6 Q
theorem f52_eq {a0 a1 a2 : AVal} : f52 C a0 a1 a2 σ Q = wC C f52.body (((E0.set 0 a0).set 1 a1).set 2 a2) σ (retK f52.res Q) := by kernel_rfl
theorem f52_wf (ht : tab 52 = some f52.fn) {a0 a1 a2 : AVal} (h : f52 (WF tab) a0 a1 a2 σ Q) : WF tab 52 [a0, a1, a2] σ Q := wf_of ht (by kernel_rfl) f52_eq h
noncomputable def f58.c3 : PC := (.seq (so [om 50 0, oe 51 (.call 44 [50]), ob 52 .neq 51 (oi 0)] (.cond 52 (so [oq 2 (.mov (.val .nptr)), oq 3 (.mov (oi 11))] .ret) .skip)) (so [om 53 4, om 2 53, oq 3 (.mov (oi 0))] .ret))
noncomputable def f58.c2 : PC := (.seq (so [om 36 7, ob 37 .lss 36 (oi 4)] (.cond 37 .skip (.exit 2))) (.seq (.block 3 (so [om 40 0, om 41 7, oe 42 (.call 42 [40, 41]), ob 43 .gtr 42 (oi 0), om 44 43, oqg 45 44 true (.mov 0), oqg 46 44 true (.mov 7), oeg 47 44 true (.call 43 [45, 46, (oi 0)]), oqg 48 44 true (.bin .neq .num 47 (oi 0)), oq 49 (.pick 44 48 oF)] (.cond 49 (so [oq 2 (.mov (.val .nptr)), oq 3 (.mov (oi 11))] .ret) .skip))) (.ops [om 38 7, ob 39 .add 38 (oi 1), om 7 39])))
noncomputable def f58.t1 (R2 R3 : PC) : PC := (.seq (so [oq 7 (.mov (oi 2))] (.block 2 (.loop R2))) R3)
noncomputable def f58.c1 : PC := f58.t1 f58.c2 f58.c3
noncomputable def f58.c0 : PC := (so [ob 16 .lss 15 (oi 2)] (.seq (.cond 16 .skip (.exit 0)) (.seq (.block 1 (so [om 17 15, om 5 17] (so [om 18 0, om 19 5, oe 20 (.call 82 [18, 19]), om 6 20] (.seq (.draw 13 [⟨0, om 21 6, []⟩, ⟨1, oq 22 (.bin .neq .ptr 21 (.val .nptr)), []⟩, ⟨2, om 23 22, []⟩, ⟨3, oqg 24 23 true (.mov 6), []⟩, ⟨4, oqg 25 23 true (.nilck 24), []⟩, ⟨5, oqg 26 23 true (.fieldAddr 2 25), []⟩, ⟨6, oqg 27 23 true (.load1 26), []⟩, ⟨7, oqg 28 23 true (.mov 4), []⟩, ⟨8, oqg 29 23 true (.nilck 28), []⟩, ⟨9, oqg 30 23 true (.fieldAddr 2 29), []⟩, ⟨10, oqg 31 23 true (.load1 30), []⟩, ⟨11, oqg 32 23 true (.bin .gtr .num 27 31), []⟩, ⟨12, oq 33 (.pick 23 32 oF), []⟩]) (.cond 33 (.ops [om 34 6, om 4 34]) .skip))))) (.ops [ob 35 .add 15 (oi 1), om 15 35]))))
noncomputable def f58.res : List PRes := [.tmp (sn 2), .tmp (sn 3)]
noncomputable def f58.p3 (C : CW) (Q : AVal → S → Prop) (E : En) (σ : S) : Prop :=
C 44 [(E 0)] σ fun t51 σ1 =>
sB .neq t51 (i6 0) fun t52 =>
WIf t52 (
Ret [some .nptr, some (i6 11)] σ1 Q) (
Ret [some (E 4), some (i6 0)] σ1 Q)
theorem f58.p3_eq : f58.p3 C Q E σ = wC C f58.c3 E σ (retK f58.res Q) := by kernel_rfl
abbrev f58.J3 (C : CW) (Q : AVal → S → Prop) (E : En) (σ : S) : Prop := wC C f58.c3 E σ (retK f58.res Q)
theorem f58.p3_of (h : f58.p3 C Q E σ) : f58.J3 C Q E σ := Eq.mp f58.p3_eq h
noncomputable def f58.p2 (C : CW) (Q : AVal → S → Prop) (R2 R3 : PC) (E : En) (σ : S) : Prop :=
sB .lss (E 7) (i6 4) fun t37 =>
WIf t37 (
C 42 [(E 0), (E 7)] σ fun t42 σ1 =>
sB .gtr t42 (i6 0) fun t43 =>
sT t43 (some (E 0)) fun t45 =>
sT t43 (some (E 7)) fun t46 =>
gE1 (isB t43 true) (fun K => C 43 [t45, t46, (i6 0)] σ1 K) σ1 fun t47 σ2 =>
sT t43 (binA .neq .num t47 (i6 0)) fun t48 =>
sP t43 t48 (.bool false) fun t49 =>
WIf t49 (
Ret [some .nptr, some (i6 11)] σ2 Q) (
sB .add (E 7) (i6 1) fun t39 =>
wC C (.loop R2) ((((((E.q 36 (E 7) 37 t37 40 (E 0) 41 (E 7)).q 42 t42 43 t43 44 t43 45 t45).q 46 t46 47 t47 48 t48 49 t49).set 38 (E 7)).set 39 t39).set 7 t39) σ2 (blockK 2 (seqK (wC C R3) (retK f58.res Q))))) (
wC C R3 ((E.set 36 (E 7)).set 37 t37) σ (retK f58.res Q))
theorem f58.p2_eq {R2 R3 : PC} : f58.p2 C Q R2 R3 E σ = wC C f58.c2 E σ (loopK C R2 (blockK 2 (seqK (wC C R3) (retK f58.res Q)))) := by kernel_rfl
abbrev f58.L2 (C : CW) (Q : AVal → S → Prop) (E : En) (σ : S) : Prop := wC C (.loop f58.c2) E σ (blockK 2 (seqK (wC C f58.c3) (retK f58.res Q)))
theorem f58.p2_of (h : f58.p2 (WF tab) Q f58.c2 f58.c3 E σ) : f58.L2 (WF tab) Q E σ := wLoop_step (Eq.mp f58.p2_eq h)
noncomputable def f58.p1 (C : CW) (Q : AVal → S → Prop) (R2 R3 : PC) (E : En) (σ : S) : Prop :=
wC C (.loop R2) (E.set 7 (i6 2)) σ (blockK 2 (seqK (wC C R3) (retK f58.res Q)))
theorem f58.p1_eq {R2 R3 : PC} : f58.p1 C Q R2 R3 E σ = wC C (f58.t1 R2 R3) E σ (retK f58.res Q) := by kernel_rfl
abbrev f58.J1 (C : CW) (Q : AVal → S → Prop) (E : En) (σ : S) : Prop := wC C f58.c1 E σ (retK f58.res Q)
theorem f58.p1_of (h : f58.p1 C Q f58.c2 f58.c3 E σ) : f58.J1 C Q E σ := Eq.mp f58.p1_eq h
noncomputable def f58.p0 (C : CW) (Q : AVal → S → Prop) (R0 R1 : PC) (E : En) (σ : S) : Prop :=
sB .lss (E 15) (i6 2) fun t16 =>
WIf t16 (
C 82 [(E 0), (E 15)] σ fun t20 σ1 =>
Som (binA .neq .ptr t20 .nptr) fun t22 =>
sT t22 (some t20) fun t24 =>
sT t22 (vNilck t24) fun t25 =>
sT t22 (vFieldAddr 2 t25) fun t26 =>
sT t22 (vLoad1 t26 (σ1.bumpT 13)) fun t27 =>
sT t22 (some (E 4)) fun t28 =>
sT t22 (vNilck t28) fun t29 =>
sT t22 (vFieldAddr 2 t29) fun t30 =>
sT t22 (vLoad1 t30 (σ1.bumpT 13)) fun t31 =>
sT t22 (binA .gtr .num t27 t31) fun t32 =>
sP t22 t32 (.bool false) fun t33 =>
WIf t33 (
sB .add (E 15) (i6 1) fun t35 =>
wC C (.loop R0) ((((((E.q 16 t16 17 (E 15) 5 (E 15) 18 (E 0)).q 19 (E 15) 20 t20 6 t20 21 t20).q 22 t22 23 t22 24 t24 25 t25).q 26 t26 27 t27 28 t28 29 t29).q 30 t30 31 t31 32 t32 33 t33).q 34 t20 4 t20 35 t35 15 t35) (σ1.bumpT 13) (blockK 0 (seqK (wC C R1) (retK f58.res Q)))) (
sB .add (E 15) (i6 1) fun t35 =>
wC C (.loop R0) (((((((E.q 16 t16 17 (E 15) 5 (E 15) 18 (E 0)).q 19 (E 15) 20 t20 6 t20 21 t20).q 22 t22 23 t22 24 t24 25 t25).q 26 t26 27 t27 28 t28 29 t29).q 30 t30 31 t31 32 t32 33 t33).set 35 t35).set 15 t35) (σ1.bumpT 13) (blockK 0 (seqK (wC C R1) (retK f58.res Q))))) (
wC C R1 (E.set 16 t16) σ (retK f58.res Q))
theorem f58.p0_eq {R0 R1 : PC} : f58.p0 C Q R0 R1 E σ = wC C f58.c0 E σ (loopK C R0 (blockK 0 (seqK (wC C R1) (retK f58.res Q)))) := by kernel_rfl
abbrev f58.L0 (C : CW) (Q : AVal → S → Prop) (E : En) (σ : S) : Prop := wC C (.loop f58.c0) E σ (blockK 0 (seqK (wC C f58.c1) (retK f58.res Q)))
theorem f58.p0_of (h : f58.p0 (WF tab) Q f58.c0 f58.c1 E σ) : f58.L0 (WF tab) Q E σ := wLoop_step (Eq.mp f58.p0_eq h)
noncomputable def f58.body (R0 R1 : PC) : PC := (so [oq 2 (.mov (.val .nptr)), oq 3 (.mov (oi 0))] (.seq (so [om 8 0, oq 9 (.bin .eql .ptr 8 (.val .nptr))] (.cond 9 (so [oq 2 (.mov (.val .nptr)), oq 3 (.mov (oi 1))] .ret) .skip)) (.seq (so [om 10 0, oe 11 (.call 40 [10])] (.cond 11 (so [oq 2 (.mov (.val .nptr)), oq 3 (.mov (oi 11))] .ret) .skip)) (so [om 12 0, oq 13 (.build [.nptr, (i6 0), (i6 0), (i6 0), (i6 0)] [(0, 1, 12), (1, 1, (oi 1)), (4, 1, (.val (.int .i64 (-1))))]), oa 14 (.box 13), om 4 14] (.seq (so [oq 15 (.mov (oi 0))] (.block 0 (.loop R0))) R1)))))
noncomputable def f58.fn : PFn := .code (slotsN 54) (f58.body f58.c0 f58.c1) f58.res
noncomputable def f58 (C : CW) (R0 R1 : PC) (a0 : AVal) (σ : S) (Q : AVal → S → Prop) : Prop :=
Som (binA .eql .ptr a0 .nptr) fun t9 =>
WIf t9 (
Ret [some .nptr, some (i6 1)] σ Q) (
C 40 [a0] σ fun t11 σ1 =>
WIf t11 (
Ret [some .nptr, some (i6 11)] σ1 Q) (
Som (vBuild [.nptr, (i6 0), (i6 0), (i6 0), (i6 0)] [(0, 1, a0), (1, 1, (i6 1)), (4, 1, (.int .i64 (-1)))]) fun t13 =>
Ala (aBoxV t13) σ1 fun t14 σ2 =>
wC C (.loop R0) (((E0.q 0 a0 2 .nptr 3 (i6 0) 8 a0).q 9 t9 10 a0 11 t11 12 a0).q 13 t13 14 t14 4 t14 15 (i6 0)) σ2 (blockK 0 (seqK (wC C R1) (retK f58.res Q)))))
theorem f58_eq {R0 R1 : PC} {a0 : AVal} : f58 C R0 R1 a0 σ Q = wC C (f58.body R0 R1) (E0.set 0 a0) σ (retK f58.res Q) := by kernel_rfl
theorem f58_wf (ht : tab 58 = some f58.fn) {a0 : AVal} (h : f58 (WF tab) f58.c0 f58.c1 a0 σ Q) : WF tab 58 [a0] σ Q := wf_of ht (by kernel_rfl) f58_eq h
noncomputable def f59.res : List PRes := [.tmp (sn 2)]
noncomputable def f59.body : PC := (so [oq 2 (.mov (oi 0))] (so [om 3 0, on 4 3, ox 5 3 4, ol 6 5, om 2 6] .ret))
noncomputable def f59.fn : PFn := .code (slotsN 7) f59.body f59.res
noncomputable def f59 (C : CW) (a0 : AVal) (σ : S) (Q : AVal → S → Prop) : Prop :=
sN a0 fun t4 =>
sF 3 t4 fun t5 =>
sL t5 σ fun t6 =>
Ret [some t6] σ Q
theorem f59_eq {a0 : AVal} : f59 C a0 σ Q = wC C f59.body (E0.set 0 a0) σ (retK f59.res Q) := by kernel_rfl
theorem f59_wf (ht : tab 59 = some f59.fn) {a0 : AVal} (h : f59 (WF tab) a0 σ Q) : WF tab 59 [a0] σ Q := wf_of ht (by kernel_rfl) f59_eq h
noncomputable def f60.res : List PRes := [.tmp (sn 2)]
noncomputable def f60.body : PC := (so [oq 2 (.mov (oi 0))] (so [om 3 0, on 4 3, ox 5 4 4, ol 6 5, om 2 6] .ret))
noncomputable def f60.fn : PFn := .code (slotsN 7) f60.body f60.res
noncomputable def f60 (C : CW) (a0 : AVal) (σ : S) (Q : AVal → S → Prop) : Prop :=
sN a0 fun t4 =>
sF 4 t4 fun t5 =>
sL t5 σ fun t6 =>
Ret [some t6] σ Q
theorem f60_eq {a0 : AVal} : f60 C a0 σ Q = wC C f60.body (E0.set 0 a0) σ (retK f60.res Q) := by kernel_rfl
theorem f60_wf (ht : tab 60 = some f60.fn) {a0 : AVal} (h : f60 (WF tab) a0 σ Q) : WF tab 60 [a0] σ Q := wf_of ht (by kernel_rfl) f60_eq h
noncomputable def f61.res : List PRes := [.cellN 6 (sn 4), .tmp (sn 5)]
noncomputable def f61.body : PC := (so [oa 4 (.alloc [(i6 0), (i6 0), (i6 0), (i6 0), (.str []), .nsl]), oq 5 (.mov (oi 0))] (so [om 13 0, om 14 1, oe 15 (.call 72 [13, 14]), oe 16 (.call 83 [15, (oi 0)]), om 12 16, oq 17 (.extract 0 12), oq 18 (.extract 1 12), oq 19 (.extract 2 12), om 6 17, om 7 18, om 8 19] (.seq (so [om 20 8, ob 21 .neq 20 (oi 0)] (.cond 21 (so [oq 22 (.build [(i6 0), (i6 0), (i6 0), (i6 0), (.str []), .nsl] []), os (.store 6 4 22), oq 5 (.mov (oi 0))] .ret) .skip)) (so [om 23 6, oe 24 (.call 84 [23]), om 9 24] (so [oa 10 (.alloc [(i6 0), (i6 0), (i6 0), (i6 0), (.str []), .nsl])] (so [om 25 9, oe 26 (.call 85 [25]), om 11 26] (so [om 27 9, oe 28 (.call 85 [27]), ox 29 2 10, os (.store 1 29 28)] (so [om 30 9, oe 31 (.call 85 [30]), ox 32 3 10, os (.store 1 32 31)] (so [om 33 9, oe 34 (.call 86 [33, (oi 16384)]), ox 35 4 10, os (.store 1 35 34)] (.seq (so [om 36 9, oe 37 (.call 87 [36]), ob 38 .neq 37 (oi 0), om 39 38, oqg 40 39 false (.mov 11), oqg 41 39 false (.bin .lss .num 40 (oi 1)), oq 42 (.pick 39 oT 41), om 43 42, oqg 44 43 false (.mov 11), oqg 45 43 false (.bin .geq .num 44 (oi 1125899906842624)), oq 46 (.pick 43 oT 45)] (.cond 46 (so [oq 47 (.build [(i6 0), (i6 0), (i6 0), (i6 0), (.str []), .nsl] []), os (.store 6 4 47), oq 5 (.mov (oi 0))] .ret) .skip)) (so [oq 48 (.loadN 6 10), om 49 11, os (.store 6 4 48), om 5 49] .ret)))))))))))
noncomputable def f61.fn : PFn := .code (slotsN 50) f61.body f61.res
noncomputable def f61 (C : CW) (a0 a1 : AVal) (σ : S) (Q : AVal → S → Prop) : Prop :=
Ala (aAllocV [(i6 0), (i6 0), (i6 0), (i6 0), (.str []), .nsl]) σ fun t4 σ1 =>
C 72 [a0, a1] σ1 fun t15 σ2 =>
C 83 [t15, (i6 0)] σ2 fun t16 σ3 =>
Som (vExtract 0 t16) fun t17 =>
Som (vExtract 1 t16) fun t18 =>
Som (vExtract 2 t16) fun t19 =>
sB .neq t19 (i6 0) fun t21 =>
WIf t21 (
Som (vBuild [(i6 0), (i6 0), (i6 0), (i6 0), (.str []), .nsl] []) fun t22 =>
sS 6 t4 t22 σ3 fun _ σ4 =>
Ret [vLoadN 6 t4 σ4, some (i6 0)] σ4 Q) (
C 84 [t17] σ3 fun t24 σ4 =>
Ala (aAllocV [(i6 0), (i6 0), (i6 0), (i6 0), (.str []), .nsl]) σ4 fun t10 σ5 =>
C 85 [t24] σ5 fun t26 σ6 =>
C 85 [t24] σ6 fun t28 σ7 =>
sF 2 t10 fun t29 =>
sS 1 t29 t28 σ7 fun _ σ8 =>
C 85 [t24] σ8 fun t31 σ9 =>
sF 3 t10 fun t32 =>
sS 1 t32 t31 σ9 fun _ σ10 =>
C 86 [t24, (i6 16384)] σ10 fun t34 σ11 =>
sF 4 t10 fun t35 =>
sS 1 t35 t34 σ11 fun _ σ12 =>
C 87 [t24] σ12 fun t37 σ13 =>
sB .neq t37 (i6 0) fun t38 =>
sU t38 (some t26) fun t40 =>
sU t38 (binA .lss .num t40 (i6 1)) fun t41 =>
sP t38 (.bool true) t41 fun t42 =>
sU t42 (some t26) fun t44 =>
sU t42 (binA .geq .num t44 (i6 1125899906842624)) fun t45 =>
sP t42 (.bool true) t45 fun t46 =>
WIf t46 (
Som (vBuild [(i6 0), (i6 0), (i6 0), (i6 0), (.str []), .nsl] []) fun t47 =>
sS 6 t4 t47 σ13 fun _ σ14 =>
Ret [vLoadN 6 t4 σ14, some (i6 0)] σ14 Q) (
Som (vLoadN 6 t10 σ13) fun t48 =>
sS 6 t4 t48 σ13 fun _ σ14 =>
Ret [vLoadN 6 t4 σ14, some t26] σ14 Q))
theorem f61_eq {a0 a1 : AVal} : f61 C a0 a1 σ Q = wC C f61.body ((E0.set 0 a0).set 1 a1) σ (retK f61.res Q) := by kernel_rfl
theorem f61_wf (ht : tab 61 = some f61.fn) {a0 a1 : AVal} (h : f61 (WF tab) a0 a1 σ Q) : WF tab 61 [a0, a1] σ Q := wf_of ht (by kernel_rfl) f61_eq h
noncomputable def f62.res : List PRes := [.tmp (sn 2)]
noncomputable def f62.body : PC := (so [oa 1 (.box 0), oq 2 (.mov oF)] (.seq (.block 0 (so [ox 4 0 1, ol 5 4, ob 6 .lss 5 (oi 0), om 7 6, oqg 8 7 false (.fieldAddr 0 1), oqg 9 7 false (.load1 8), oqg 10 7 false (.bin .gtr .num 9 (oi 1099511627776)), oq 11 (.pick 7 oT 10), om 12 11, oqg 13 12 false (.fieldAddr 1 1), oqg 14 12 false (.load1 13), oqg 15 12 false (.bin .lss .num 14 (.val (.int .i64 (-1)))), oq 16 (.pick 12 oT 15), om 17 16, oqg 18 17 false (.fieldAddr 1 1), oqg 19 17 false (.load1 18), oqg 20 17 false (.bin .geq .num 19 (oi 7)), oq 21 (.pick 17 oT 20), om 3 21] (.cond 3 (so [oq 2 (.mov oF)] .ret) (so [ox 23 2 1, ol 24 23, ob 25 .lss 24 (oi 0), om 26 25, oqg 27 26 false (.fieldAddr 2 1), oqg 28 26 false (.load1 27), oqg 29 26 false (.fieldAddr 5 1), oqg 30 26 false (.load1 29), oqg 31 26 false (.lenSl 30), oqg 32 26 false (.bin .sub .num (oi 1099511627776) 31), oqg 33 26 false (.bin .gtr .num 28 32), oq 34 (.pick 26 oT 33), om 35 34, oqg 36 35 false (.fieldAddr 3 1), oqg 37 35 false (.load1 36), oqg 38 35 false (.bin .lss .num 37 (oi 0)), oq 39 (.pick 35 oT 38), om 40 39, oqg 41 40 false (.fieldAddr 3 1), oqg 42 40 false (.load1 41), oqg 43 40 false (.fieldAddr 0 1), oqg 44 40 false (.load1 43), oqg 45 40 false (.bin .gtr .num 42 44), oq 46 (.pick 40 oT 45), om 22 46] (.cond 22 (so [oq 2 (.mov oF)] .ret) (so [ox 48 4 1, ol 49 48, oq 50 (.lenStr 49), ob 51 .gtr 50 (oi 16284), om 52 51, oqg 53 52 false (.fieldAddr 2 1), oqg 54 52 false (.load1 53), oqg 55 52 false (.bin .eql .num 54 (oi 0)), oqg 56 52 false (.fieldAddr 3 1), oqg 57 52 false (.load1 56), oqg 58 52 false (.bin .eql .num 57 (oi 0)), oqg 59 52 false (.bin .neq .bool 55 58), oq 60 (.pick 52 oT 59), om 61 60, oqg 62 61 false (.fieldAddr 2 1), oqg 63 61 false (.load1 62), oqg 64 61 false (.bin .eql .num 63 (oi 0)), oqg 65 61 false (.mov 64), oqg 66 65 true (.fieldAddr 4 1), oqg 67 65 true (.load1 66), oqg 68 65 true (.bin .neq .num 67 (.val (.str []))), oqg 69 61 false (.pick 65 68 oF), oq 70 (.pick 61 oT 69), om 47 70] (.cond 47 (so [oq 2 (.mov oF)] .ret) .skip))))))) (so [oq 71 (.loadN 6 1), oe 72 (.call 88 [71]), om 2 72] .ret)))
noncomputable def f62.fn : PFn := .code (slotsN 73) f62.body f62.res
noncomputable def f62 (C : CW) (a0 : AVal) (σ : S) (Q : AVal → S → Prop) : Prop :=
Ala (aBoxV a0) σ fun t1 σ1 =>
sF 0 t1 fun t4 =>
sL t4 σ1 fun t5 =>
sB .lss t5 (i6 0) fun t6 =>
sU t6 (vFieldAddr 0 t1) fun t8 =>
sU t6 (vLoad1 t8 σ1) fun t9 =>
sU t6 (binA .gtr .num t9 (i6 1099511627776)) fun t10 =>
sP t6 (.bool true) t10 fun t11 =>
sU t11 (vFieldAddr 1 t1) fun t13 =>
sU t11 (vLoad1 t13 σ1) fun t14 =>
sU t11 (binA .lss .num t14 (.int .i64 (-1))) fun t15 =>
sP t11 (.bool true) t15 fun t16 =>
sU t16 (vFieldAddr 1 t1) fun t18 =>
sU t16 (vLoad1 t18 σ1) fun t19 =>
sU t16 (binA .geq .num t19 (i6 7)) fun t20 =>
sP t16 (.bool true) t20 fun t21 =>
WIf t21 (
Ret [some (.bool false)] σ1 Q) (
sF 2 t1 fun t23 =>
sL t23 σ1 fun t24 =>
sB .lss t24 (i6 0) fun t25 =>
sU t25 (vFieldAddr 2 t1) fun t27 =>
sU t25 (vLoad1 t27 σ1) fun t28 =>
sU t25 (vFieldAddr 5 t1) fun t29 =>
sU t25 (vLoad1 t29 σ1) fun t30 =>
sU t25 (vLenSl t30) fun t31 =>
sU t25 (binA .sub .num (i6 1099511627776) t31) fun t32 =>
sU t25 (binA .gtr .num t28 t32) fun t33 =>
sP t25 (.bool true) t33 fun t34 =>
sU t34 (vFieldAddr 3 t1) fun t36 =>
sU t34 (vLoad1 t36 σ1) fun t37 =>
sU t34 (binA .lss .num t37 (i6 0)) fun t38 =>
sP t34 (.bool true) t38 fun t39 =>
sU t39 (vFieldAddr 3 t1) fun t41 =>
sU t39 (vLoad1 t41 σ1) fun t42 =>
sU t39 (vFieldAddr 0 t1) fun t43 =>
sU t39 (vLoad1 t43 σ1) fun t44 =>
sU t39 (binA .gtr .num t42 t44) fun t45 =>
sP t39 (.bool true) t45 fun t46 =>
WIf t46 (
Ret [some (.bool false)] σ1 Q) (
sF 4 t1 fun t48 =>
sL t48 σ1 fun t49 =>
Som (vLenStr t49) fun t50 =>
sB .gtr t50 (i6 16284) fun t51 =>
sU t51 (vFieldAddr 2 t1) fun t53 =>
sU t51 (vLoad1 t53 σ1) fun t54 =>
sU t51 (binA .eql .num t54 (i6 0)) fun t55 =>
sU t51 (vFieldAddr 3 t1) fun t56 =>
sU t51 (vLoad1 t56 σ1) fun t57 =>
sU t51 (binA .eql .num t57 (i6 0)) fun t58 =>
sU t51 (binA .neq .bool t55 t58) fun t59 =>
sP t51 (.bool true) t59 fun t60 =>
sU t60 (vFieldAddr 2 t1) fun t62 =>
sU t60 (vLoad1 t62 σ1) fun t63 =>
sU t60 (binA .eql .num t63 (i6 0)) fun t64 =>
sU t60 (some t64) fun t65 =>
sT t65 (vFieldAddr 4 t1) fun t66 =>
sT t65 (vLoad1 t66 σ1) fun t67 =>
sT t65 (binA .neq .num t67 (.str [])) fun t68 =>
sU t60 (vPick t65 t68 (.bool false)) fun t69 =>
sP t60 (.bool true) t69 fun t70 =>
WIf t70 (
Ret [some (.bool false)] σ1 Q) (
Som (vLoadN 6 t1 σ1) fun t71 =>
C 88 [t71] σ1 fun t72 σ2 =>
Ret [some t72] σ2 Q)))
theorem f62_eq {a0 : AVal} : f62 C a0 σ Q = wC C f62.body (E0.set 0 a0) σ (retK f62.res Q) := by kernel_rfl
theorem f62_wf (ht : tab 62 = some f62.fn) {a0 : AVal} (h : f62 (WF tab) a0 σ Q) : WF tab 62 [a0] σ Q := wf_of ht (by kernel_rfl) f62_eq h
noncomputable def f63.c0 : PC := (.seq (so [om 30 4, om 31 0, on 32 31, ox 33 1 32, ol 34 33, oe 35 (.call 15 [34]), ob 36 .leq 30 35] (.cond 36 .skip (.exit 0))) (.seq (.block 1 (so [om 40 0, on 41 40, ox 42 1 41, ol 43 42, om 44 4, oe 45 (.call 90 [43, 44]), om 39 45, oq 46 (.extract 0 39), oq 47 (.extract 1 39), oa 5 (.alloc [(i6 0), (.str [])]), os (.store 2 5 46), om 6 47] (so [ox 48 5 3, ol 49 48, oq 50 (.loadN 2 5), oa 51 (.bslice 2 [(i6 0), (.str [])] 1 [(0, 2, 50)]), oe 52 (.append 2 24 49 51), ox 53 5 3, os (.store 1 53 52)] (so [om 54 6, oq 55 (.un .not 54), om 56 55, oqg 57 56 false (.loadN 6 3), oeg 58 56 false (.call 62 [57]), oqg 59 56 false (.un .not 58), oq 60 (.pick 56 oT 59)] (.cond 60 (so [ox 61 5 3, ol 62 61, ox 63 5 3, ol 64 63, oq 65 (.lenSl 64), ob 66 .sub 65 (oi 1), oq 67 (.slSl 2 62 none (some 66) none), om 2 67] .ret) .skip))))) (.ops [om 37 4, ob 38 .add 37 (oi 1), om 4 38])))
noncomputable def f63.res : List PRes := [.tmp (sn 2)]
noncomputable def f63.p0 (C : CW) (Q : AVal → S → Prop) (R0 : PC) (E : En) (σ : S) : Prop :=
sN (E 0) fun t32 =>
sF 1 t32 fun t33 =>
sL t33 σ fun t34 =>
C 15 [t34] σ fun t35 σ1 =>
sB .leq (E 4) t35 fun t36 =>
WIf t36 (
sN (E 0) fun t41 =>
sF 1 t41 fun t42 =>
sL t42 σ1 fun t43 =>
C 90 [t43, (E 4)] σ1 fun t45 σ2 =>
Som (vExtract 0 t45) fun t46 =>
Som (vExtract 1 t45) fun t47 =>
Ala (aAllocV [(i6 0), (.str [])]) σ2 fun t5 σ3 =>
sS 2 t5 t46 σ3 fun _ σ4 =>
sF 5 (E 3) fun t48 =>
sL t48 σ4 fun t49 =>
Som (vLoadN 2 t5 σ4) fun t50 =>
Ala (aSliceV 2 [(i6 0), (.str [])] 1 [(0, 2, t50)]) σ4 fun t51 σ5 =>
Eff (appendA 2 24 t49 t51 σ5) fun t52 σ6 =>
sF 5 (E 3) fun t53 =>
sS 1 t53 t52 σ6 fun _ σ7 =>
Som (unA .not t47) fun t55 =>
sU t55 (vLoadN 6 (E 3) σ7) fun t57 =>
gE1 (isB t55 false) (fun K => C 62 [t57] σ7 K) σ7 fun t58 σ8 =>
sU t55 (unA .not t58) fun t59 =>
sP t55 (.bool true) t59 fun t60 =>
WIf t60 (
sF 5 (E 3) fun t61 =>
sL t61 σ8 fun t62 =>
sF 5 (E 3) fun t63 =>
sL t63 σ8 fun t64 =>
Som (vLenSl t64) fun t65 =>
sB .sub t65 (i6 1) fun t66 =>
Som (vSlSl 2 t62 none (some t66) none) fun t67 =>
Ret [some t67] σ8 Q) (
sB .add (E 4) (i6 1) fun t38 =>
wC C (.loop R0) ((((((((((E.q 30 (E 4) 31 (E 0) 32 t32 33 t33).q 34 t34 35 t35 36 t36 40 (E 0)).q 41 t41 42 t42 43 t43 44 (E 4)).q 45 t45 39 t45 46 t46 47 t47).q 5 t5 6 t47 48 t48 49 t49).q 50 t50 51 t51 52 t52 53 t53).q 54 t47 55 t55 56 t55 57 t57).q 58 t58 59 t59 60 t60 37 (E 4)).set 38 t38).set 4 t38) σ8 (blockK 0 (seqK (wC C (so [ox 68 5 3, ol 69 68, om 2 69] .ret)) (retK f63.res Q))))) (
sF 5 (E 3) fun t68 =>
sL t68 σ1 fun t69 =>
Ret [some t69] σ1 Q)
theorem f63.p0_eq {R0 : PC} : f63.p0 C Q R0 E σ = wC C f63.c0 E σ (loopK C R0 (blockK 0 (seqK (wC C (so [ox 68 5 3, ol 69 68, om 2 69] .ret)) (retK f63.res Q)))) := by kernel_rfl
abbrev f63.L0 (C : CW) (Q : AVal → S → Prop) (E : En) (σ : S) : Prop := wC C (.loop f63.c0) E σ (blockK 0 (seqK (wC C (so [ox 68 5 3, ol 69 68, om 2 69] .ret)) (retK f63.res Q)))
theorem f63.p0_of (h : f63.p0 (WF tab) Q f63.c0 E σ) : f63.L0 (WF tab) Q E σ := wLoop_step (Eq.mp f63.p0_eq h)
noncomputable def f63.body (R0 : PC) : PC := (so [oq 2 (.mov (.val .nsl))] (.seq (.seq (.draw 16 [⟨0, om 7 0, []⟩, ⟨1, on 8 7, []⟩, ⟨2, ox 9 1 8, []⟩, ⟨3, ol 10 9, []⟩, ⟨4, om 11 0, []⟩, ⟨5, on 12 11, []⟩, ⟨6, ox 13 5 12, []⟩, ⟨7, ox 14 2 13, []⟩, ⟨8, ol 15 14, []⟩, ⟨9, om 16 0, []⟩, ⟨10, on 17 16, []⟩, ⟨11, ox 18 5 17, []⟩, ⟨12, ox 19 3 18, []⟩, ⟨13, ol 20 19, []⟩, ⟨14, oe 21 (.call 89 [10, 15, 20]), []⟩, ⟨15, oq 22 (.un .not 21), []⟩]) (.cond 22 (so [oq 2 (.mov (.val .nsl))] .ret) .skip)) (so [om 23 0, on 24 23, ox 25 5 24, oq 26 (.loadN 6 25), oa 3 (.alloc [(i6 0), (i6 0), (i6 0), (i6 0), (.str []), .nsl]), os (.store 6 3 26)] (.seq (so [ox 27 2 3, ol 28 27, ob 29 .add 28 (oi 1), om 4 29] (.block 0 (.loop R0))) (so [ox 68 5 3, ol 69 68, om 2 69] .ret)))))
noncomputable def f63.fn : PFn := .code (slotsN 70) (f63.body f63.c0) f63.res
noncomputable def f63 (C : CW) (R0 : PC) (a0 : AVal) (σ : S) (Q : AVal → S → Prop) : Prop :=
sN a0 fun t8 =>
sF 1 t8 fun t9 =>
sL t9 (σ.bumpT 16) fun t10 =>
sN a0 fun t12 =>
sF 5 t12 fun t13 =>
sF 2 t13 fun t14 =>
sL t14 (σ.bumpT 16) fun t15 =>
sN a0 fun t17 =>
sF 5 t17 fun t18 =>
sF 3 t18 fun t19 =>
sL t19 (σ.bumpT 16) fun t20 =>
C 89 [t10, t15, t20] (σ.bumpT 16) fun t21 σ1 =>
Som (unA .not t21) fun t22 =>
WIf t22 (
Ret [some .nsl] σ1 Q) (
sN a0 fun t24 =>
sF 5 t24 fun t25 =>
Som (vLoadN 6 t25 σ1) fun t26 =>
Ala (aAllocV [(i6 0), (i6 0), (i6 0), (i6 0), (.str []), .nsl]) σ1 fun t3 σ2 =>
sS 6 t3 t26 σ2 fun _ σ3 =>
sF 2 t3 fun t27 =>
sL t27 σ3 fun t28 =>
sB .add t28 (i6 1) fun t29 =>
wC C (.loop R0) (((((((((E0.q 0 a0 2 .nsl 7 a0 8 t8).q 9 t9 10 t10 11 a0 12 t12).q 13 t13 14 t14 15 t15 16 a0).q 17 t17 18 t18 19 t19 20 t20).q 21 t21 22 t22 23 a0 24 t24).q 25 t25 26 t26 3 t3 27 t27).set 28 t28).set 29 t29).set 4 t29) σ3 (blockK 0 (seqK (wC C (so [ox 68 5 3, ol 69 68, om 2 69] .ret)) (retK f63.res Q))))
theorem f63_eq {R0 : PC} {a0 : AVal} : f63 C R0 a0 σ Q = wC C (f63.body R0) (E0.set 0 a0) σ (retK f63.res Q) := by kernel_rfl
theorem f63_wf (ht : tab 63 = some f63.fn) {a0 : AVal} (h : f63 (WF tab) f63.c0 a0 σ Q) : WF tab 63 [a0] σ Q := wf_of ht (by kernel_rfl) f63_eq h
noncomputable def f64.c2 : PC := (so [om 117 0, on 118 117, ox 119 1 118, ol 120 119, oe 121 (.call 20 [120]), om 2 121] .ret)
noncomputable def f64.t1 (R2 : PC) : PC := (.seq (.seq (.draw 14 [⟨0, om 86 0, []⟩, ⟨1, on 87 86, []⟩, ⟨2, ox 88 1 87, []⟩, ⟨3, ol 89 88, []⟩, ⟨5, om 91 3, []⟩, ⟨6, om 92 0, []⟩, ⟨7, on 93 92, []⟩, ⟨8, ox 94 5 93, []⟩, ⟨9, ox 95 5 94, []⟩, ⟨10, ol 96 95, []⟩, ⟨11, oq 97 (.lenSl 96), []⟩, ⟨12, ob 98 .add 91 97, []⟩, ⟨4, oe 90 (.call 15 [89]), [ol 96 95]⟩, ⟨13, ob 99 .gtr 90 98, []⟩]) (.cond 99 (.seq (.draw 15 [⟨0, om 100 0, []⟩, ⟨1, on 101 100, []⟩, ⟨2, ox 102 1 101, []⟩, ⟨3, ol 103 102, []⟩, ⟨4, om 104 3, []⟩, ⟨5, om 105 0, []⟩, ⟨6, on 106 105, []⟩, ⟨7, ox 107 5 106, []⟩, ⟨8, ox 108 5 107, []⟩, ⟨9, ol 109 108, []⟩, ⟨10, oq 110 (.lenSl 109), []⟩, ⟨11, ob 111 .add 104 110, []⟩, ⟨12, ob 112 .add 111 (oi 1), []⟩, ⟨13, oe 113 (.call 17 [103, 112]), []⟩, ⟨14, om 7 113, []⟩]) (so [om 114 7, ob 115 .neq 114 (oi 0)] (.cond 115 (so [om 116 7, om 2 116] .ret) .skip))) .skip)) R2)
noncomputable def f64.c1 : PC := f64.t1 f64.c2
noncomputable def f64.t0 (R1 : PC) : PC := (.seq (so [om 68 0, on 69 68, ox 70 1 69, ol 71 70, oe 72 (.call 14 [71]), om 73 3, ob 74 .add 73 (oi 1), ob 75 .neq 72 74] (.cond 75 (so [om 76 0, on 77 76, ox 78 1 77, ol 79 78, om 80 3, ob 81 .add 80 (oi 1), oe 82 (.call 19 [79, 81]), om 6 82] (so [om 83 6, ob 84 .neq 83 (oi 0)] (.cond 84 (so [om 85 6, om 2 85] .ret) .skip))) .skip)) R1)
noncomputable def f64.c0 : PC := f64.t0 f64.c1
noncomputable def f64.res : List PRes := [.tmp (sn 2)]
noncomputable def f64.p2 (C : CW) (Q : AVal → S → Prop) (E : En) (σ : S) : Prop :=
sN (E 0) fun t118 =>
sF 1 t118 fun t119 =>
sL t119 σ fun t120 =>
C 20 [t120] σ fun t121 σ1 =>
Ret [some t121] σ1 Q
theorem f64.p2_eq : f64.p2 C Q E σ = wC C f64.c2 E σ (retK f64.res Q) := by kernel_rfl
abbrev f64.J2 (C : CW) (Q : AVal → S → Prop) (E : En) (σ : S) : Prop := wC C f64.c2 E σ (retK f64.res Q)
theorem f64.p2_of (h : f64.p2 C Q E σ) : f64.J2 C Q E σ := Eq.mp f64.p2_eq h
noncomputable def f64.p1 (C : CW) (Q : AVal → S → Prop) (R2 : PC) (E : En) (σ : S) : Prop :=
sN (E 0) fun t87 =>
sF 1 t87 fun t88 =>
sL t88 (σ.bumpT 14) fun t89 =>
sN (E 0) fun t93 =>
sF 5 t93 fun t94 =>
sF 5 t94 fun t95 =>
sL t95 (σ.bumpT 14) fun t96 =>
Som (vLenSl t96) fun t97 =>
sB .add (E 3) t97 fun t98 =>
C 15 [t89] (σ.bumpT 14) fun t90 σ1 =>
Sure (SameO (vLoad1 t95 σ1) t96) <|
sB .gtr t90 t98 fun t99 =>
WIf t99 (
sN (E 0) fun t101 =>
sF 1 t101 fun t102 =>
sL t102 (σ1.bumpT 15) fun t103 =>
sN (E 0) fun t106 =>
sF 5 t106 fun t107 =>
sF 5 t107 fun t108 =>
sL t108 (σ1.bumpT 15) fun t109 =>
Som (vLenSl t109) fun t110 =>
sB .add (E 3) t110 fun t111 =>
sB .add t111 (i6 1) fun t112 =>
C 17 [t103, t112] (σ1.bumpT 15) fun t113 σ2 =>
sB .neq t113 (i6 0) fun t115 =>
WIf t115 (
Ret [some t113] σ2 Q) (
wC C R2 ((((((((((E.q 86 (E 0) 87 t87 88 t88 89 t89).q 91 (E 3) 92 (E 0) 93 t93 94 t94).q 95 t95 96 t96 97 t97 98 t98).q 90 t90 99 t99 100 (E 0) 101 t101).q 102 t102 103 t103 104 (E 3) 105 (E 0)).q 106 t106 107 t107 108 t108 109 t109).q 110 t110 111 t111 112 t112 113 t113).set 7 t113).set 114 t113).set 115 t115) σ2 (retK f64.res Q))) (
wC C R2 (((((E.q 86 (E 0) 87 t87 88 t88 89 t89).q 91 (E 3) 92 (E 0) 93 t93 94 t94).q 95 t95 96 t96 97 t97 98 t98).set 90 t90).set 99 t99) σ1 (retK f64.res Q))
theorem f64.p1_eq {R2 : PC} : f64.p1 C Q R2 E σ = wC C (f64.t1 R2) E σ (retK f64.res Q) := by kernel_rfl
abbrev f64.J1 (C : CW) (Q : AVal → S → Prop) (E : En) (σ : S) : Prop := wC C f64.c1 E σ (retK f64.res Q)
theorem f64.p1_of (h : f64.p1 C Q f64.c2 E σ) : f64.J1 C Q E σ := Eq.mp f64.p1_eq h
noncomputable def f64.p0 (C : CW) (Q : AVal → S → Prop) (R1 : PC) (E : En) (σ : S) : Prop :=
sN (E 0) fun t69 =>
sF 1 t69 fun t70 =>
sL t70 σ fun t71 =>
C 14 [t71] σ fun t72 σ1 =>
sB .add (E 3) (i6 1) fun t74 =>
sB .neq t72 t74 fun t75 =>
WIf t75 (
sN (E 0) fun t77 =>
sF 1 t77 fun t78 =>
sL t78 σ1 fun t79 =>
sB .add (E 3) (i6 1) fun t81 =>
C 19 [t79, t81] σ1 fun t82 σ2 =>
sB .neq t82 (i6 0) fun t84 =>
WIf t84 (
Ret [some t82] σ2 Q) (
wC C R1 ((((((E.q 68 (E 0) 69 t69 70 t70 71 t71).q 72 t72 73 (E 3) 74 t74 75 t75).q 76 (E 0) 77 t77 78 t78 79 t79).q 80 (E 3) 81 t81 82 t82 6 t82).set 83 t82).set 84 t84) σ2 (retK f64.res Q))) (
wC C R1 ((E.q 68 (E 0) 69 t69 70 t70 71 t71).q 72 t72 73 (E 3) 74 t74 75 t75) σ1 (retK f64.res Q))
theorem f64.p0_eq {R1 : PC} : f64.p0 C Q R1 E σ = wC C (f64.t0 R1) E σ (retK f64.res Q) := by kernel_rfl
abbrev f64.J0 (C : CW) (Q : AVal → S → Prop) (E : En) (σ : S) : Prop := wC C f64.c0 E σ (retK f64.res Q)
theorem f64.p0_of (h : f64.p0 C Q f64.c1 E σ) : f64.J0 C Q E σ := Eq.mp f64.p0_eq h
noncomputable def f64.body (R0 : PC) : PC := (so [oq 2 (.mov (oi 0))] (so [om 8 0, on 9 8, ox 10 5 9, ox 11 2 10, ol 12 11, om 3 12] (.seq (.seq (.draw 32 [⟨0, om 13 0, []⟩, ⟨1, on 14 13, []⟩, ⟨2, ox 15 1 14, []⟩, ⟨3, ol 16 15, []⟩, ⟨5, om 18 3, []⟩, ⟨6, ob 19 .add 18 (oi 1), []⟩, ⟨4, oe 17 (.call 14 [16]), []⟩, ⟨7, ob 20 .neq 17 19, []⟩, ⟨8, om 21 20, []⟩, ⟨9, oqg 22 21 true (.mov 0), []⟩, ⟨10, oqg 23 21 true (.nilck 22), []⟩, ⟨11, oqg 24 21 true (.fieldAddr 1 23), []⟩, ⟨12, oqg 25 21 true (.load1 24), []⟩, ⟨13, oqg 26 21 true (.mov 3), []⟩, ⟨14, oqg 27 21 true (.mov 0), []⟩, ⟨15, oqg 28 21 true (.nilck 27), []⟩, ⟨16, oqg 29 21 true (.fieldAddr 5 28), []⟩, ⟨17, oqg 30 21 true (.fieldAddr 3 29), []⟩, ⟨18, oqg 31 21 true (.load1 30), []⟩, ⟨19, oeg 32 21 true (.call 89 [25, 26, 31]), []⟩, ⟨20, oqg 33 21 true (.un .not 32), []⟩, ⟨21, oqg 34 21 true (.mov 33), []⟩, ⟨22, oqg 35 34 false (.mov 3), []⟩, ⟨23, oqg 36 34 false (.bin .add .num 35 (oi 1)), []⟩, ⟨24, oqg 37 34 false (.mov 0), []⟩, ⟨25, oqg 38 34 false (.nilck 37), []⟩, ⟨26, oqg 39 34 false (.fieldAddr 1 38), []⟩, ⟨27, oqg 40 34 false (.load1 39), []⟩, ⟨28, oeg 41 34 false (.call 14 [40]), []⟩, ⟨29, oqg 42 34 false (.bin .lss .num 36 41), []⟩, ⟨30, oqg 43 21 true (.pick 34 oT 42), []⟩, ⟨31, oq 44 (.pick 21 43 oF), []⟩]) (.cond 44 (.seq (.seq (.draw 11 [⟨0, om 45 0, []⟩, ⟨1, on 46 45, []⟩, ⟨2, ox 47 1 46, []⟩, ⟨3, ol 48 47, []⟩, ⟨4, om 49 0, []⟩, ⟨5, on 50 49, []⟩, ⟨6, ox 51 1 50, []⟩, ⟨7, ol 52 51, []⟩, ⟨8, oe 53 (.call 14 [52]), [ol 48 47]⟩, ⟨9, oe 54 (.call 17 [48, 53]), []⟩, ⟨10, om 4 54, []⟩]) (so [om 55 4, ob 56 .neq 55 (oi 0)] (.cond 56 (so [om 57 4, om 2 57] .ret) .skip))) (so [om 58 0, on 59 58, ox 60 1 59, ol 61 60, om 62 3, ob 63 .add 62 (oi 1), oe 64 (.call 18 [61, 63, (.val .nsl)]), om 5 64] (so [om 65 5, ob 66 .neq 65 (oi 0)] (.cond 66 (so [om 67 5, om 2 67] .ret) .skip)))) .skip)) R0)))
noncomputable def f64.fn : PFn := .code (slotsN 122) (f64.body f64.c0) f64.res
noncomputable def f64 (C : CW) (R0 : PC) (a0 : AVal) (σ : S) (Q : AVal → S → Prop) : Prop :=
sN a0 fun t9 =>
sF 5 t9 fun t10 =>
sF 2 t10 fun t11 =>
sL t11 σ fun t12 =>
sN a0 fun t14 =>
sF 1 t14 fun t15 =>
sL t15 (σ.bumpT 32) fun t16 =>
sB .add t12 (i6 1) fun t19 =>
C 14 [t16] (σ.bumpT 32) fun t17 σ1 =>
sB .neq t17 t19 fun t20 =>
sT t20 (some a0) fun t22 =>
sT t20 (vNilck t22) fun t23 =>
sT t20 (vFieldAddr 1 t23) fun t24 =>
sT t20 (vLoad1 t24 σ1) fun t25 =>
sT t20 (some t12) fun t26 =>
sT t20 (some a0) fun t27 =>
sT t20 (vNilck t27) fun t28 =>
sT t20 (vFieldAddr 5 t28) fun t29 =>
sT t20 (vFieldAddr 3 t29) fun t30 =>
sT t20 (vLoad1 t30 σ1) fun t31 =>
gE1 (isB t20 true) (fun K => C 89 [t25, t26, t31] σ1 K) σ1 fun t32 σ2 =>
sT t20 (unA .not t32) fun t33 =>
sT t20 (some t33) fun t34 =>
sU t34 (some t12) fun t35 =>
sU t34 (binA .add .num t35 (i6 1)) fun t36 =>
sU t34 (some a0) fun t37 =>
sU t34 (vNilck t37) fun t38 =>
sU t34 (vFieldAddr 1 t38) fun t39 =>
sU t34 (vLoad1 t39 σ2) fun t40 =>
gE1 (isB t34 false) (fun K => C 14 [t40] σ2 K) σ2 fun t41 σ3 =>
sU t34 (binA .lss .num t36 t41) fun t42 =>
sT t20 (vPick t34 (.bool true) t42) fun t43 =>
sP t20 t43 (.bool false) fun t44 =>
WIf t44 (
sN a0 fun t46 =>
sF 1 t46 fun t47 =>
sL t47 (σ3.bumpT 11) fun t48 =>
sN a0 fun t50 =>
sF 1 t50 fun t51 =>
sL t51 (σ3.bumpT 11) fun t52 =>
C 14 [t52] (σ3.bumpT 11) fun t53 σ4 =>
Sure (SameO (vLoad1 t47 σ4) t48) <|
C 17 [t48, t53] σ4 fun t54 σ5 =>
sB .neq t54 (i6 0) fun t56 =>
WIf t56 (
Ret [some t54] σ5 Q) (
sN a0 fun t59 =>
sF 1 t59 fun t60 =>
sL t60 σ5 fun t61 =>
sB .add t12 (i6 1) fun t63 =>
C 18 [t61, t63, .nsl] σ5 fun t64 σ6 =>
sB .neq t64 (i6 0) fun t66 =>
WIf t66 (
Ret [some t64] σ6 Q) (
wC C R0 ((((((((((((((((((E0.q 0 a0 2 (i6 0) 8 a0 9 t9).q 10 t10 11 t11 12 t12 3 t12).q 13 a0 14 t14 15 t15 16 t16).q 18 t12 19 t19 17 t17 20 t20).q 21 t20 22 t22 23 t23 24 t24).q 25 t25 26 t26 27 t27 28 t28).q 29 t29 30 t30 31 t31 32 t32).q 33 t33 34 t34 35 t35 36 t36).q 37 t37 38 t38 39 t39 40 t40).q 41 t41 42 t42 43 t43 44 t44).q 45 a0 46 t46 47 t47 48 t48).q 49 a0 50 t50 51 t51 52 t52).q 53 t53 54 t54 4 t54 55 t54).q 56 t56 58 a0 59 t59 60 t60).q 61 t61 62 t12 63 t63 64 t64).set 5 t64).set 65 t64).set 66 t66) σ6 (retK f64.res Q)))) (
wC C R0 ((((((((((E0.q 0 a0 2 (i6 0) 8 a0 9 t9).q 10 t10 11 t11 12 t12 3 t12).q 13 a0 14 t14 15 t15 16 t16).q 18 t12 19 t19 17 t17 20 t20).q 21 t20 22 t22 23 t23 24 t24).q 25 t25 26 t26 27 t27 28 t28).q 29 t29 30 t30 31 t31 32 t32).q 33 t33 34 t34 35 t35 36 t36).q 37 t37 38 t38 39 t39 40 t40).q 41 t41 42 t42 43 t43 44 t44) σ3 (retK f64.res Q))
theorem f64_eq {R0 : PC} {a0 : AVal} : f64 C R0 a0 σ Q = wC C (f64.body R0) (E0.set 0 a0) σ (retK f64.res Q) := by kernel_rfl
theorem f64_wf (ht : tab 64 = some f64.fn) {a0 : AVal} (h : f64 (WF tab) f64.c0 a0 σ Q) : WF tab 64 [a0] σ Q := wf_of ht (by kernel_rfl) f64_eq h
noncomputable def f68.res : List PRes := [.cellN 6 (sn 2)]
noncomputable def f68.body : PC := (so [oa 1 (.box 0), oa 2 (.alloc [(i6 0), (i6 0), (i6 0), (i6 0), (.str []), .nsl])] (so [ox 3 5 1, ol 4 3, oe 5 (.append 2 24 (.val .nsl) 4), ox 6 5 1, os (.store 1 6 5)] (so [oq 7 (.loadN 6 1), os (.store 6 2 7)] .ret)))
noncomputable def f68.fn : PFn := .code (slotsN 8) f68.body f68.res
noncomputable def f68 (C : CW) (a0 : AVal) (σ : S) (Q : AVal → S → Prop) : Prop :=
Ala (aBoxV a0) σ fun t1 σ1 =>
Ala (aAllocV [(i6 0), (i6 0), (i6 0), (i6 0), (.str []), .nsl]) σ1 fun t2 σ2 =>
sF 5 t1 fun t3 =>
sL t3 σ2 fun t4 =>
Eff (appendA 2 24 .nsl t4 σ2) fun t5 σ3 =>
sF 5 t1 fun t6 =>
sS 1 t6 t5 σ3 fun _ σ4 =>
Som (vLoadN 6 t1 σ4) fun t7 =>
sS 6 t2 t7 σ4 fun _ σ5 =>
Ret [vLoadN 6 t2 σ5] σ5 Q
theorem f68_eq {a0 : AVal} : f68 C a0 σ Q = wC C f68.body (E0.set 0 a0) σ (retK f68.res Q) := by kernel_rfl
theorem f68_wf (ht : tab 68 = some f68.fn) {a0 : AVal} (h : f68 (WF tab) a0 σ Q) : WF tab 68 [a0] σ Q := wf_of ht (by kernel_rfl) f68_eq h
noncomputable def f69.res : List PRes := [.tmp (sn 4)]
noncomputable def f69.body : PC := (so [oa 2 (.box 0), oa 3 (.box 1), oq 4 (.mov oF)] (.seq (so [oq 5 (.loadN 6 3), oe 6 (.call 62 [5]), oq 7 (.un .not 6), om 8 7, oqg 9 8 false (.fieldAddr 0 2), oqg 10 8 false (.load1 9), oqg 11 8 false (.fieldAddr 1 2), oqg 12 8 false (.load1 11), oqg 13 8 false (.fieldAddr 0 3), oqg 14 8 false (.load1 13), oqg 15 8 false (.fieldAddr 1 3), oqg 16 8 false (.load1 15), oeg 17 8 false (.call 92 [10, 12, 14, 16]), oqg 18 8 false (.un .not 17), oq 19 (.pick 8 oT 18), om 20 19, oqg 21 20 false (.fieldAddr 2 3), oqg 22 20 false (.load1 21), oqg 23 20 false (.fieldAddr 2 2), oqg 24 20 false (.load1 23), oqg 25 20 false (.bin .lss .num 22 24), oq 26 (.pick 20 oT 25)] (.cond 26 (so [oq 4 (.mov oF)] .ret) .skip)) (so [ox 27 2 3, ol 28 27, ox 29 2 2, ol 30 29, ob 31 .gtr 28 30, om 32 31, oqg 33 32 false (.fieldAddr 3 3), oqg 34 32 false (.load1 33), oqg 35 32 false (.fieldAddr 3 2), oqg 36 32 false (.load1 35), oqg 37 32 false (.bin .eql .num 34 36), oqg 38 32 false (.mov 37), oqg 39 38 true (.fieldAddr 4 3), oqg 40 38 true (.load1 39), oqg 41 38 true (.fieldAddr 4 2), oqg 42 38 true (.load1 41), oqg 43 38 true (.bin .eql .num 40 42), oqg 44 32 false (.pick 38 43 oF), oq 45 (.pick 32 oT 44), om 4 45] .ret)))
noncomputable def f69.fn : PFn := .code (slotsN 46) f69.body f69.res
noncomputable def f69 (C : CW) (a0 a1 : AVal) (σ : S) (Q : AVal → S → Prop) : Prop :=
Ala (aBoxV a0) σ fun t2 σ1 =>
Ala (aBoxV a1) σ1 fun t3 σ2 =>
Som (vLoadN 6 t3 σ2) fun t5 =>
C 62 [t5] σ2 fun t6 σ3 =>
Som (unA .not t6) fun t7 =>
sU t7 (vFieldAddr 0 t2) fun t9 =>
sU t7 (vLoad1 t9 σ3) fun t10 =>
sU t7 (vFieldAddr 1 t2) fun t11 =>
sU t7 (vLoad1 t11 σ3) fun t12 =>
sU t7 (vFieldAddr 0 t3) fun t13 =>
sU t7 (vLoad1 t13 σ3) fun t14 =>
sU t7 (vFieldAddr 1 t3) fun t15 =>
sU t7 (vLoad1 t15 σ3) fun t16 =>
gE1 (isB t7 false) (fun K => C 92 [t10, t12, t14, t16] σ3 K) σ3 fun t17 σ4 =>
sU t7 (unA .not t17) fun t18 =>
sP t7 (.bool true) t18 fun t19 =>
sU t19 (vFieldAddr 2 t3) fun t21 =>
sU t19 (vLoad1 t21 σ4) fun t22 =>
sU t19 (vFieldAddr 2 t2) fun t23 =>
sU t19 (vLoad1 t23 σ4) fun t24 =>
sU t19 (binA .lss .num t22 t24) fun t25 =>
sP t19 (.bool true) t25 fun t26 =>
WIf t26 (
Ret [some (.bool false)] σ4 Q) (
sF 2 t3 fun t27 =>
sL t27 σ4 fun t28 =>
sF 2 t2 fun t29 =>
sL t29 σ4 fun t30 =>
sB .gtr t28 t30 fun t31 =>
sU t31 (vFieldAddr 3 t3) fun t33 =>
sU t31 (vLoad1 t33 σ4) fun t34 =>
sU t31 (vFieldAddr 3 t2) fun t35 =>
sU t31 (vLoad1 t35 σ4) fun t36 =>
sU t31 (binA .eql .num t34 t36) fun t37 =>
sU t31 (some t37) fun t38 =>
sT t38 (vFieldAddr 4 t3) fun t39 =>
sT t38 (vLoad1 t39 σ4) fun t40 =>
sT t38 (vFieldAddr 4 t2) fun t41 =>
sT t38 (vLoad1 t41 σ4) fun t42 =>
sT t38 (binA .eql .num t40 t42) fun t43 =>
sU t31 (vPick t38 t43 (.bool false)) fun t44 =>
sP t31 (.bool true) t44 fun t45 =>
Ret [some t45] σ4 Q)
theorem f69_eq {a0 a1 : AVal} : f69 C a0 a1 σ Q = wC C f69.body ((E0.set 0 a0).set 1 a1) σ (retK f69.res Q) := by kernel_rfl
theorem f69_wf (ht : tab 69 = some f69.fn) {a0 a1 : AVal} (h : f69 (WF tab) a0 a1 σ Q) : WF tab 69 [a0, a1] σ Q := wf_of ht (by kernel_rfl) f69_eq h
noncomputable def f70.c4 : PC := (so [om 115 0, on 116 115, ox 117 1 116, ol 118 117, oe 119 (.call 20 [118]), om 4 119] .ret)
noncomputable def f70.c3 : PC := (.seq (so [om 88 9, ox 89 5 3, ol 90 89, oq 91 (.lenSl 90), ob 92 .lss 88 91] (.cond 92 .skip (.exit 2))) (.seq (.block 3 (.seq (.draw 18 [⟨0, om 95 0, []⟩, ⟨1, on 96 95, []⟩, ⟨2, ox 97 1 96, []⟩, ⟨3, ol 98 97, []⟩, ⟨4, ox 99 2 3, []⟩, ⟨5, ol 100 99, []⟩, ⟨6, om 101 9, []⟩, ⟨7, ob 102 .add 100 101, []⟩, ⟨8, ob 103 .add 102 (oi 1), []⟩, ⟨9, ox 104 5 3, []⟩, ⟨10, ol 105 104, []⟩, ⟨11, om 106 9, []⟩, ⟨12, oq 107 (.ixSl 2 105 106), []⟩, ⟨13, oq 108 (.loadN 2 107), []⟩, ⟨14, oe 109 (.call 96 [108]), [ol 98 97, ol 100 99]⟩, ⟨15, oa 110 (.bslice 1 [(.str [])] 1 [(0, 1, 109)]), []⟩, ⟨16, oe 111 (.call 18 [98, 103, 110]), []⟩, ⟨17, om 11 111, []⟩]) (so [om 112 11, ob 113 .neq 112 (oi 0)] (.cond 113 (so [om 114 11, om 4 114] .ret) .skip)))) (.ops [om 93 9, ob 94 .add 93 (oi 1), om 9 94])))
noncomputable def f70.t2 (R3 R4 : PC) : PC := (.seq (.seq (.draw 11 [⟨0, om 75 0, []⟩, ⟨1, on 76 75, []⟩, ⟨2, ox 77 1 76, []⟩, ⟨3, ol 78 77, []⟩, ⟨4, ox 79 2 3, []⟩, ⟨5, ol 80 79, []⟩, ⟨6, om 81 9, []⟩, ⟨7, ob 82 .add 80 81, []⟩, ⟨8, ob 83 .add 82 (oi 1), []⟩, ⟨9, oe 84 (.call 17 [78, 83]), []⟩, ⟨10, om 10 84, []⟩]) (so [om 85 10, ob 86 .neq 85 (oi 0)] (.cond 86 (so [om 87 10, om 4 87] .ret) .skip))) (.seq (.block 2 (.loop R3)) R4))
noncomputable def f70.c2 : PC := f70.t2 f70.c3 f70.c4
noncomputable def f70.c1 : PC := (.seq (.seq (.draw 23 [⟨0, om 50 9, []⟩, ⟨1, om 51 7, []⟩, ⟨2, oq 52 (.lenSl 51), []⟩, ⟨3, ob 53 .lss 50 52, []⟩, ⟨4, om 54 53, []⟩, ⟨5, oqg 55 54 true (.mov 9), []⟩, ⟨6, oqg 56 54 true (.fieldAddr 5 3), []⟩, ⟨7, oqg 57 54 true (.load1 56), []⟩, ⟨8, oqg 58 54 true (.lenSl 57), []⟩, ⟨9, oqg 59 54 true (.bin .lss .num 55 58), []⟩, ⟨10, oq 60 (.pick 54 59 oF), []⟩, ⟨11, om 61 60, []⟩, ⟨12, oqg 62 61 true (.mov 7), []⟩, ⟨13, oqg 63 61 true (.mov 9), []⟩, ⟨14, oqg 64 61 true (.ixSl 2 62 63), []⟩, ⟨15, oqg 65 61 true (.loadN 2 64), []⟩, ⟨16, oqg 66 61 true (.fieldAddr 5 3), []⟩, ⟨17, oqg 67 61 true (.load1 66), []⟩, ⟨18, oqg 68 61 true (.mov 9), []⟩, ⟨19, oqg 69 61 true (.ixSl 2 67 68), []⟩, ⟨20, oqg 70 61 true (.loadN 2 69), []⟩, ⟨21, oqg 71 61 true (.eqAgg [.i, .s] false 65 70), []⟩, ⟨22, oq 72 (.pick 61 71 oF), []⟩]) (.cond 72 .skip (.exit 0))) (.block 1 (.ops [om 73 9, ob 74 .add 73 (oi 1), om 9 74])))
noncomputable def f70.t0 (R1 R2 : PC) : PC := (so [oq 9 (.mov (oi 0))] (.seq (.block 0 (.loop R1)) R2))
noncomputable def f70.c0 : PC := f70.t0 f70.c1 f70.c2
noncomputable def f70.res : List PRes := [.tmp (sn 4)]
noncomputable def f70.p4 (C : CW) (Q : AVal → S → Prop) (E : En) (σ : S) : Prop :=
sN (E 0) fun t116 =>
sF 1 t116 fun t117 =>
sL t117 σ fun t118 =>
C 20 [t118] σ fun t119 σ1 =>
Ret [some t119] σ1 Q
theorem f70.p4_eq : f70.p4 C Q E σ = wC C f70.c4 E σ (retK f70.res Q) := by kernel_rfl
abbrev f70.J4 (C : CW) (Q : AVal → S → Prop) (E : En) (σ : S) : Prop := wC C f70.c4 E σ (retK f70.res Q)
theorem f70.p4_of (h : f70.p4 C Q E σ) : f70.J4 C Q E σ := Eq.mp f70.p4_eq h
noncomputable def f70.p3 (C : CW) (Q : AVal → S → Prop) (R3 R4 : PC) (E : En) (σ : S) : Prop :=
sF 5 (E 3) fun t89 =>
sL t89 σ fun t90 =>
Som (vLenSl t90) fun t91 =>
sB .lss (E 9) t91 fun t92 =>
WIf t92 (
sN (E 0) fun t96 =>
sF 1 t96 fun t97 =>
sL t97 (σ.bumpT 18) fun t98 =>
sF 2 (E 3) fun t99 =>
sL t99 (σ.bumpT 18) fun t100 =>
sB .add t100 (E 9) fun t102 =>
sB .add t102 (i6 1) fun t103 =>
sF 5 (E 3) fun t104 =>
sL t104 (σ.bumpT 18) fun t105 =>
Som (vIxSl 2 t105 (E 9)) fun t107 =>
Som (vLoadN 2 t107 (σ.bumpT 18)) fun t108 =>
C 96 [t108] (σ.bumpT 18) fun t109 σ1 =>
Sure (SameO (vLoad1 t97 σ1) t98) <|
Sure (SameO (vLoad1 t99 σ1) t100) <|
Alb (aSliceV 1 [(.str [])] 1 [(0, 1, t109)]) (Pos.plusT 15 σ.next) σ1 fun t110 σ2 =>
C 18 [t98, t103, t110] σ2 fun t111 σ3 =>
sB .neq t111 (i6 0) fun t113 =>
WIf t113 (
Ret [some t111] σ3 Q) (
sB .add (E 9) (i6 1) fun t94 =>
wC C (.loop R3) (((((((E.q 88 (E 9) 89 t89 90 t90 91 t91).q 92 t92 95 (E 0) 96 t96 97 t97).q 98 t98 99 t99 100 t100 101 (E 9)).q 102 t102 103 t103 104 t104 105 t105).q 106 (E 9) 107 t107 108 t108 109 t109).q 110 t110 111 t111 11 t111 112 t111).q 113 t113 93 (E 9) 94 t94 9 t94) σ3 (blockK 2 (seqK (wC C R4) (retK f70.res Q))))) (
wC C R4 ((E.q 88 (E 9) 89 t89 90 t90 91 t91).set 92 t92) σ (retK f70.res Q))
theorem f70.p3_eq {R3 R4 : PC} : f70.p3 C Q R3 R4 E σ = wC C f70.c3 E σ (loopK C R3 (blockK 2 (seqK (wC C R4) (retK f70.res Q)))) := by kernel_rfl
abbrev f70.L3 (C : CW) (Q : AVal → S → Prop) (E : En) (σ : S) : Prop := wC C (.loop f70.c3) E σ (blockK 2 (seqK (wC C f70.c4) (retK f70.res Q)))
theorem f70.p3_of (h : f70.p3 (WF tab) Q f70.c3 f70.c4 E σ) : f70.L3 (WF tab) Q E σ := wLoop_step (Eq.mp f70.p3_eq h)
noncomputable def f70.p2 (C : CW) (Q : AVal → S → Prop) (R3 R4 : PC) (E : En) (σ : S) : Prop :=
sN (E 0) fun t76 =>
sF 1 t76 fun t77 =>
sL t77 (σ.bumpT 11) fun t78 =>
sF 2 (E 3) fun t79 =>
sL t79 (σ.bumpT 11) fun t80 =>
sB .add t80 (E 9) fun t82 =>
sB .add t82 (i6 1) fun t83 =>
C 17 [t78, t83] (σ.bumpT 11) fun t84 σ1 =>
sB .neq t84 (i6 0) fun t86 =>
WIf t86 (
Ret [some t84] σ1 Q) (
wC C (.loop R3) ((((E.q 75 (E 0) 76 t76 77 t77 78 t78).q 79 t79 80 t80 81 (E 9) 82 t82).q 83 t83 84 t84 10 t84 85 t84).set 86 t86) σ1 (blockK 2 (seqK (wC C R4) (retK f70.res Q))))
theorem f70.p2_eq {R3 R4 : PC} : f70.p2 C Q R3 R4 E σ = wC C (f70.t2 R3 R4) E σ (retK f70.res Q) := by kernel_rfl
abbrev f70.J2 (C : CW) (Q : AVal → S → Prop) (E : En) (σ : S) : Prop := wC C f70.c2 E σ (retK f70.res Q)
theorem f70.p2_of (h : f70.p2 C Q f70.c3 f70.c4 E σ) : f70.J2 C Q E σ := Eq.mp f70.p2_eq h
noncomputable def f70.p1 (C : CW) (Q : AVal → S → Prop) (R1 R2 : PC) (E : En) (σ : S) : Prop :=
Som (vLenSl (E 7)) fun t52 =>
sB .lss (E 9) t52 fun t53 =>
sT t53 (some (E 9)) fun t55 =>
sT t53 (vFieldAddr 5 (E 3)) fun t56 =>
sT t53 (vLoad1 t56 (σ.bumpT 23)) fun t57 =>
sT t53 (vLenSl t57) fun t58 =>
sT t53 (binA .lss .num t55 t58) fun t59 =>
sP t53 t59 (.bool false) fun t60 =>
sT t60 (some (E 7)) fun t62 =>
sT t60 (some (E 9)) fun t63 =>
sT t60 (vIxSl 2 t62 t63) fun t64 =>
sT t60 (vLoadN 2 t64 (σ.bumpT 23)) fun t65 =>
sT t60 (vFieldAddr 5 (E 3)) fun t66 =>
sT t60 (vLoad1 t66 (σ.bumpT 23)) fun t67 =>
sT t60 (some (E 9)) fun t68 =>
sT t60 (vIxSl 2 t67 t68) fun t69 =>
sT t60 (vLoadN 2 t69 (σ.bumpT 23)) fun t70 =>
sT t60 (vEqAgg [.i, .s] false t65 t70) fun t71 =>
sP t60 t71 (.bool false) fun t72 =>
WIf t72 (
sB .add (E 9) (i6 1) fun t74 =>
wC C (.loop R1) ((((((((E.q 50 (E 9) 51 (E 7) 52 t52 53 t53).q 54 t53 55 t55 56 t56 57 t57).q 58 t58 59 t59 60 t60 61 t60).q 62 t62 63 t63 64 t64 65 t65).q 66 t66 67 t67 68 t68 69 t69).q 70 t70 71 t71 72 t72 73 (E 9)).set 74 t74).set 9 t74) (σ.bumpT 23) (blockK 0 (seqK (wC C R2) (retK f70.res Q)))) (
wC C R2 ((((((((E.q 50 (E 9) 51 (E 7) 52 t52 53 t53).q 54 t53 55 t55 56 t56 57 t57).q 58 t58 59 t59 60 t60 61 t60).q 62 t62 63 t63 64 t64 65 t65).q 66 t66 67 t67 68 t68 69 t69).set 70 t70).set 71 t71).set 72 t72) (σ.bumpT 23) (retK f70.res Q))
theorem f70.p1_eq {R1 R2 : PC} : f70.p1 C Q R1 R2 E σ = wC C f70.c1 E σ (loopK C R1 (blockK 0 (seqK (wC C R2) (retK f70.res Q)))) := by kernel_rfl
abbrev f70.L1 (C : CW) (Q : AVal → S → Prop) (E : En) (σ : S) : Prop := wC C (.loop f70.c1) E σ (blockK 0 (seqK (wC C f70.c2) (retK f70.res Q)))
theorem f70.p1_of (h : f70.p1 (WF tab) Q f70.c1 f70.c2 E σ) : f70.L1 (WF tab) Q E σ := wLoop_step (Eq.mp f70.p1_eq h)
noncomputable def f70.p0 (C : CW) (Q : AVal → S → Prop) (R1 R2 : PC) (E : En) (σ : S) : Prop :=
wC C (.loop R1) (E.set 9 (i6 0)) σ (blockK 0 (seqK (wC C R2) (retK f70.res Q)))
theorem f70.p0_eq {R1 R2 : PC} : f70.p0 C Q R1 R2 E σ = wC C (f70.t0 R1 R2) E σ (retK f70.res Q) := by kernel_rfl
abbrev f70.J0 (C : CW) (Q : AVal → S → Prop) (E : En) (σ : S) : Prop := wC C f70.c0 E σ (retK f70.res Q)
theorem f70.p0_of (h : f70.p0 C Q f70.c1 f70.c2 E σ) : f70.J0 C Q E σ := Eq.mp f70.p0_eq h
noncomputable def f70.body (R0 : PC) : PC := (so [oa 3 (.box 1), oq 4 (.mov (oi 0))] (.seq (so [om 12 0, oe 13 (.call 64 [12]), om 5 13] (so [om 14 5, ob 15 .neq 14 (oi 0)] (.cond 15 (so [om 16 5, om 4 16] .ret) .skip))) (.seq (.seq (.draw 10 [⟨0, om 17 0, []⟩, ⟨1, on 18 17, []⟩, ⟨2, ox 19 0 18, []⟩, ⟨3, ol 20 19, []⟩, ⟨4, ox 21 0 3, []⟩, ⟨5, ol 22 21, []⟩, ⟨6, ox 23 1 3, []⟩, ⟨7, ol 24 23, []⟩, ⟨8, oe 25 (.call 93 [20, 22, 24]), []⟩, ⟨9, om 6 25, []⟩]) (so [om 26 6, ob 27 .neq 26 (oi 0)] (.cond 27 (so [om 28 6, om 4 28] .ret) .skip))) (.seq (.draw 7 [⟨0, om 29 0, []⟩, ⟨1, on 30 29, []⟩, ⟨2, ox 31 5 30, []⟩, ⟨3, oq 32 (.loadN 6 31), []⟩, ⟨4, oq 33 (.loadN 6 3), []⟩, ⟨5, oe 34 (.call 94 [32, 33]), []⟩, ⟨6, om 7 34, []⟩]) (.seq (.seq (.draw 8 [⟨0, ox 35 2 3, []⟩, ⟨1, ol 36 35, []⟩, ⟨2, om 37 0, []⟩, ⟨3, on 38 37, []⟩, ⟨4, ox 39 5 38, []⟩, ⟨5, ox 40 2 39, []⟩, ⟨6, ol 41 40, []⟩, ⟨7, ob 42 .neq 36 41, []⟩]) (.cond 42 (so [om 43 0, oq 44 (.loadN 6 3), om 45 7, oe 46 (.call 95 [43, 44, 45]), om 8 46] (so [om 47 8, ob 48 .neq 47 (oi 0)] (.cond 48 (so [om 49 8, om 4 49] .ret) .skip))) .skip)) R0)))))
noncomputable def f70.fn : PFn := .code (slotsN 120) (f70.body f70.c0) f70.res
noncomputable def f70 (C : CW) (R0 : PC) (a0 a1 : AVal) (σ : S) (Q : AVal → S → Prop) : Prop :=
Ala (aBoxV a1) σ fun t3 σ1 =>
C 64 [a0] σ1 fun t13 σ2 =>
sB .neq t13 (i6 0) fun t15 =>
WIf t15 (
Ret [some t13] σ2 Q) (
sN a0 fun t18 =>
sF 0 t18 fun t19 =>
sL t19 (σ2.bumpT 10) fun t20 =>
sF 0 t3 fun t21 =>
sL t21 (σ2.bumpT 10) fun t22 =>
sF 1 t3 fun t23 =>
sL t23 (σ2.bumpT 10) fun t24 =>
C 93 [t20, t22, t24] (σ2.bumpT 10) fun t25 σ3 =>
sB .neq t25 (i6 0) fun t27 =>
WIf t27 (
Ret [some t25] σ3 Q) (
sN a0 fun t30 =>
sF 5 t30 fun t31 =>
Som (vLoadN 6 t31 (σ3.bumpT 7)) fun t32 =>
Som (vLoadN 6 t3 (σ3.bumpT 7)) fun t33 =>
C 94 [t32, t33] (σ3.bumpT 7) fun t34 σ4 =>
sF 2 t3 fun t35 =>
sL t35 (σ4.bumpT 8) fun t36 =>
sN a0 fun t38 =>
sF 5 t38 fun t39 =>
sF 2 t39 fun t40 =>
sL t40 (σ4.bumpT 8) fun t41 =>
sB .neq t36 t41 fun t42 =>
WIf t42 (
Som (vLoadN 6 t3 (σ4.bumpT 8)) fun t44 =>
C 95 [a0, t44, t34] (σ4.bumpT 8) fun t46 σ5 =>
sB .neq t46 (i6 0) fun t48 =>
WIf t48 (
Ret [some t46] σ5 Q) (
wC C R0 (((((((((((((E0.q 0 a0 1 a1 3 t3 4 (i6 0)).q 12 a0 13 t13 5 t13 14 t13).q 15 t15 17 a0 18 t18 19 t19).q 20 t20 21 t21 22 t22 23 t23).q 24 t24 25 t25 6 t25 26 t25).q 27 t27 29 a0 30 t30 31 t31).q 32 t32 33 t33 34 t34 7 t34).q 35 t35 36 t36 37 a0 38 t38).q 39 t39 40 t40 41 t41 42 t42).q 43 a0 44 t44 45 t34 46 t46).set 8 t46).set 47 t46).set 48 t48) σ5 (retK f70.res Q))) (
wC C R0 (((((((((E0.q 0 a0 1 a1 3 t3 4 (i6 0)).q 12 a0 13 t13 5 t13 14 t13).q 15 t15 17 a0 18 t18 19 t19).q 20 t20 21 t21 22 t22 23 t23).q 24 t24 25 t25 6 t25 26 t25).q 27 t27 29 a0 30 t30 31 t31).q 32 t32 33 t33 34 t34 7 t34).q 35 t35 36 t36 37 a0 38 t38).q 39 t39 40 t40 41 t41 42 t42) (σ4.bumpT 8) (retK f70.res Q))))
theorem f70_eq {R0 : PC} {a0 a1 : AVal} : f70 C R0 a0 a1 σ Q = wC C (f70.body R0) ((E0.set 0 a0).set 1 a1) σ (retK f70.res Q) := by kernel_rfl
theorem f70_wf (ht : tab 70 = some f70.fn) {a0 a1 : AVal} (h : f70 (WF tab) f70.c0 a0 a1 σ Q) : WF tab 70 [a0, a1] σ Q := wf_of ht (by kernel_rfl) f70_eq h
noncomputable def f71.res : List PRes := [.cellN 6 (sn 2)]
noncomputable def f71.body : PC := (so [oa 1 (.box 0), oa 2 (.alloc [(i6 0), (i6 0), (i6 0), (i6 0), (.str []), .nsl])] (so [oa 3 (.bslice 2 [(i6 0), (.str [])] 0 []), ox 4 5 1, ol 5 4, oe 6 (.append 2 24 3 5), ox 7 5 1, os (.store 1 7 6)] (so [oq 8 (.loadN 6 1), os (.store 6 2 8)] .ret)))
noncomputable def f71.fn : PFn := .code (slotsN 9) f71.body f71.res
noncomputable def f71 (C : CW) (a0 : AVal) (σ : S) (Q : AVal → S → Prop) : Prop :=
Ala (aBoxV a0) σ fun t1 σ1 =>
Ala (aAllocV [(i6 0), (i6 0), (i6 0), (i6 0), (.str []), .nsl]) σ1 fun t2 σ2 =>
Ala (aSliceV 2 [(i6 0), (.str [])] 0 []) σ2 fun t3 σ3 =>
sF 5 t1 fun t4 =>
sL t4 σ3 fun t5 =>
Eff (appendA 2 24 t3 t5 σ3) fun t6 σ4 =>
sF 5 t1 fun t7 =>
sS 1 t7 t6 σ4 fun _ σ5 =>
Som (vLoadN 6 t1 σ5) fun t8 =>
sS 6 t2 t8 σ5 fun _ σ6 =>
Ret [vLoadN 6 t2 σ6] σ6 Q
theorem f71_eq {a0 : AVal} : f71 C a0 σ Q = wC C f71.body (E0.set 0 a0) σ (retK f71.res Q) := by kernel_rfl
theorem f71_wf (ht : tab 71 = some f71.fn) {a0 : AVal} (h : f71 (WF tab) a0 σ Q) : WF tab 71 [a0] σ Q := wf_of ht (by kernel_rfl) f71_eq h
noncomputable def f72.res : List PRes := [.tmp (sn 4)]
noncomputable def f72.body : PC := (so [oq 4 (.mov (.val .nsl))] (.seq (so [om 5 0, on 6 5, ox 7 5 6, ol 8 7, om 9 8, oqg 10 9 false (.mov 1), oeg 11 9 false (.call 37 [10]), oqg 12 9 false (.un .not 11), oq 13 (.pick 9 oT 12)] (.cond 13 (so [oq 4 (.mov (.val .nsl))] .ret) .skip)) (so [om 14 0, on 15 14, ox 16 1 15, ol 17 16, om 18 1, oq 19 (.ixSl 1 17 18), ol 20 19, oe 21 (.append 1 1 (.val .nsl) 20), om 4 21] .ret)))
noncomputable def f72.fn : PFn := .code (slotsN 22) f72.body f72.res
noncomputable def f72 (C : CW) (a0 a1 : AVal) (σ : S) (Q : AVal → S → Prop) : Prop :=
sN a0 fun t6 =>
sF 5 t6 fun t7 =>
sL t7 σ fun t8 =>
sU t8 (some a1) fun t10 =>
gE1 (isB t8 false) (fun K => C 37 [t10] σ K) σ fun t11 σ1 =>
sU t8 (unA .not t11) fun t12 =>
sP t8 (.bool true) t12 fun t13 =>
WIf t13 (
Ret [some .nsl] σ1 Q) (
sN a0 fun t15 =>
sF 1 t15 fun t16 =>
sL t16 σ1 fun t17 =>
Som (vIxSl 1 t17 a1) fun t19 =>
sL t19 σ1 fun t20 =>
Eff (appendA 1 1 .nsl t20 σ1) fun t21 σ2 =>
Ret [some t21] σ2 Q)
theorem f72_eq {a0 a1 : AVal} : f72 C a0 a1 σ Q = wC C f72.body ((E0.set 0 a0).set 1 a1) σ (retK f72.res Q) := by kernel_rfl
theorem f72_wf (ht : tab 72 = some f72.fn) {a0 a1 : AVal} (h : f72 (WF tab) a0 a1 σ Q) : WF tab 72 [a0, a1] σ Q := wf_of ht (by kernel_rfl) f72_eq h
noncomputable def f73.res : List PRes := [.cellN 5 (sn 4), .tmp (sn 5), .tmp (sn 6)]
noncomputable def f73.body : PC := (so [oa 4 (.alloc [(i6 0), (i6 0), (i6 0), (i6 0), (.str [])]), oq 5 (.mov (oi 0)), oq 6 (.mov oF)] (so [om 13 0, om 14 1, oe 15 (.call 83 [13, 14]), om 12 15, oq 16 (.extract 0 12), oq 17 (.extract 1 12), oq 18 (.extract 2 12), om 7 16, om 8 17, om 9 18] (.seq (so [om 19 9, ob 20 .neq 19 (oi 0)] (.cond 20 (so [oq 21 (.build [(i6 0), (i6 0), (i6 0), (i6 0), (.str [])] []), os (.store 5 4 21), oq 5 (.mov (oi 0)), oq 6 (.mov oF)] .ret) .skip)) (so [om 22 7, oe 23 (.call 84 [22]), om 10 23] (so [oa 11 (.alloc [(i6 0), (i6 0), (i6 0), (i6 0), (.str [])])] (so [om 24 10, oe 25 (.call 85 [24]), ox 26 0 11, os (.store 1 26 25)] (so [om 27 10, oe 28 (.call 85 [27]), ox 29 1 11, os (.store 1 29 28)] (so [om 30 10, oe 31 (.call 85 [30]), ox 32 2 11, os (.store 1 32 31)] (so [om 33 10, oe 34 (.call 85 [33]), ox 35 3 11, os (.store 1 35 34)] (.seq (so [om 36 10, on 37 36, ox 38 0 37, oq 39 (.loadN 2 38), oe 40 (.call 97 [39]), oq 41 (.un .not 40)] (.cond 41 (so [oq 42 (.build [(i6 0), (i6 0), (i6 0), (i6 0), (.str [])] []), os (.store 5 4 42), oq 5 (.mov (oi 0)), oq 6 (.mov oF)] .ret) .skip)) (so [om 43 7, om 44 10, oe 45 (.call 98 [44]), oq 46 (.slSl 1 43 (some 45) none none), oq 47 (.bytesStr 46), ox 48 4 11, os (.store 1 48 47)] (so [oq 49 (.loadN 5 11), om 50 8, os (.store 5 4 49), om 5 50, oq 6 (.mov oT)] .ret))))))))))))
noncomputable def f73.fn : PFn := .code (slotsN 51) f73.body f73.res
noncomputable def f73 (C : CW) (a0 a1 : AVal) (σ : S) (Q : AVal → S → Prop) : Prop :=
Ala (aAllocV [(i6 0), (i6 0), (i6 0), (i6 0), (.str [])]) σ fun t4 σ1 =>
C 83 [a0, a1] σ1 fun t15 σ2 =>
Som (vExtract 0 t15) fun t16 =>
Som (vExtract 1 t15) fun t17 =>
Som (vExtract 2 t15) fun t18 =>
sB .neq t18 (i6 0) fun t20 =>
WIf t20 (
Som (vBuild [(i6 0), (i6 0), (i6 0), (i6 0), (.str [])] []) fun t21 =>
sS 5 t4 t21 σ2 fun _ σ3 =>
Ret [vLoadN 5 t4 σ3, some (i6 0), some (.bool false)] σ3 Q) (
C 84 [t16] σ2 fun t23 σ3 =>
Ala (aAllocV [(i6 0), (i6 0), (i6 0), (i6 0), (.str [])]) σ3 fun t11 σ4 =>
C 85 [t23] σ4 fun t25 σ5 =>
sF 0 t11 fun t26 =>
sS 1 t26 t25 σ5 fun _ σ6 =>
C 85 [t23] σ6 fun t28 σ7 =>
sF 1 t11 fun t29 =>
sS 1 t29 t28 σ7 fun _ σ8 =>
C 85 [t23] σ8 fun t31 σ9 =>
sF 2 t11 fun t32 =>
sS 1 t32 t31 σ9 fun _ σ10 =>
C 85 [t23] σ10 fun t34 σ11 =>
sF 3 t11 fun t35 =>
sS 1 t35 t34 σ11 fun _ σ12 =>
sN t23 fun t37 =>
sF 0 t37 fun t38 =>
Som (vLoadN 2 t38 σ12) fun t39 =>
C 97 [t39] σ12 fun t40 σ13 =>
Som (unA .not t40) fun t41 =>
WIf t41 (
Som (vBuild [(i6 0), (i6 0), (i6 0), (i6 0), (.str [])] []) fun t42 =>
sS 5 t4 t42 σ13 fun _ σ14 =>
Ret [vLoadN 5 t4 σ14, some (i6 0), some (.bool false)] σ14 Q) (
C 98 [t23] σ13 fun t45 σ14 =>
Som (vSlSl 1 t16 (some t45) none none) fun t46 =>
Som (vBytesStr t46 σ14) fun t47 =>
sF 4 t11 fun t48 =>
sS 1 t48 t47 σ14 fun _ σ15 =>
Som (vLoadN 5 t11 σ15) fun t49 =>
sS 5 t4 t49 σ15 fun _ σ16 =>
Ret [vLoadN 5 t4 σ16, some t17, some (.bool true)] σ16 Q))
theorem f73_eq {a0 a1 : AVal} : f73 C a0 a1 σ Q = wC C f73.body ((E0.set 0 a0).set 1 a1) σ (retK f73.res Q) := by kernel_rfl
theorem f73_wf (ht : tab 73 = some f73.fn) {a0 a1 : AVal} (h : f73 (WF tab) a0 a1 σ Q) : WF tab 73 [a0, a1] σ Q := wf_of ht (by kernel_rfl) f73_eq h
end Go.Am
