/-
  Functions of the program as conditions. Conditions: none.
-/
import Derived.Test.YtdolmkdbpnlegaaGreatDoorF2
import Derived.KernelRfl
namespace Go.Am
noncomputable def f61.c1 : PC := (.seq (.seq (.ops [oq 78 (.mov (ot 0)), oq 79 (.mov (ot 8)), oq 80 (.bin .add .num (ot 79) (.val (.int .i64 1))), oq 81 (.idxStr (ot 78) (ot 80)), oq 82 (.mov (ot 7)), oq 83 (.bin .eql .num (ot 81) (ot 82)), oq 84 (.mov (ot 83)), oqg 85 84 true (.mov (ot 0)), oqg 86 84 true (.mov (ot 8)), oqg 87 84 true (.mov (ot 8)), oqg 88 84 true (.mov (ot 5)), oqg 89 84 true (.bin .add .num (ot 87) (ot 88)), oqg 90 84 true (.slStr (ot 85) (some (ot 86)) (some (ot 89))), oqg 91 84 true (.mov (ot 1)), oqg 92 84 true (.bin .eql .num (ot 90) (ot 91)), oq 93 (.pick (ot 84) (ot 92) (.val (.bool false)))]) (.cond (ot 93) (.seq (.ops [oq 94 (.mov (ot 8)), oq 4 (.mov (ot 94))]) .ret) .skip)) (.seq (.ops [oq 95 (.mov (ot 8)), oq 96 (.bin .add .num (ot 95) (.val (.int .i64 1))), oq 8 (.mov (ot 96))]) (.seq (.ops [oq 97 (.mov (ot 10)), oq 98 (.bin .add .num (ot 97) (.val (.int .i64 1))), oq 10 (.mov (ot 98))]) (.seq (.ops [oq 99 (.mov (ot 5)), oq 100 (.load1 (.val (.gp 0 0))), oq 101 (.bin .leq .num (ot 99) (ot 100)), oq 102 (.mov (ot 101)), oqg 103 102 true (.mov (ot 10)), oqg 104 102 true (.mov (ot 8)), oeg 105 102 true (.call 87 [(ot 104)]), oqg 106 102 true (.bin .gtr .num (ot 103) (ot 105)), oq 107 (.pick (ot 102) (ot 106) (.val (.bool false)))]) (.cond (ot 107) (.seq (.ops [oq 108 (.mov (ot 0)), oq 109 (.mov (ot 8)), oq 110 (.slStr (ot 108) (some (ot 109)) none), oq 111 (.mov (ot 1)), oe 112 (.call 86 [(ot 110), (ot 111)]), oq 12 (.mov (ot 112))]) (.seq (.seq (.ops [oq 113 (.mov (ot 12)), oq 114 (.bin .geq .num (ot 113) (.val (.int .i64 0)))]) (.cond (ot 114) (.seq (.ops [oq 115 (.mov (ot 12)), oq 116 (.mov (ot 8)), oq 117 (.bin .add .num (ot 115) (ot 116)), oq 4 (.mov (ot 117))]) .ret) .skip)) (.seq (.ops [oq 4 (.mov (.val (.int .i64 (-1))))]) .ret))) (.seq (.ops [oq 118 (.mov (ot 5)), oq 119 (.load1 (.val (.gp 0 0))), oq 120 (.bin .gtr .num (ot 118) (ot 119)), oq 121 (.mov (ot 120)), oqg 122 121 true (.mov (ot 10)), oqg 123 121 true (.mov (ot 8)), oqg 124 121 true (.bin .shr .num (ot 123) (.val (.int .u64 4))), oqg 125 121 true (.bin .add .num (.val (.int .i64 4)) (ot 124)), oqg 126 121 true (.bin .geq .num (ot 122) (ot 125)), oq 127 (.pick (ot 121) (ot 126) (.val (.bool false))), oq 128 (.mov (ot 127)), oqg 129 128 true (.mov (ot 8)), oqg 130 128 true (.mov (ot 9)), oqg 131 128 true (.bin .lss .num (ot 129) (ot 130)), oq 132 (.pick (ot 128) (ot 131) (.val (.bool false)))]) (.cond (ot 132) (.seq (.ops [oq 133 (.mov (ot 0)), oq 134 (.mov (ot 8)), oq 135 (.slStr (ot 133) (some (ot 134)) none), oq 136 (.mov (ot 1)), oe 137 (.call 88 [(ot 135), (ot 136)]), oq 13 (.mov (ot 137))]) (.seq (.seq (.ops [oq 138 (.mov (ot 13)), oq 139 (.bin .lss .num (ot 138) (.val (.int .i64 0)))]) (.cond (ot 139) (.seq (.ops [oq 4 (.mov (.val (.int .i64 (-1))))]) .ret) .skip)) (.seq (.ops [oq 140 (.mov (ot 8)), oq 141 (.mov (ot 13)), oq 142 (.bin .add .num (ot 140) (ot 141)), oq 4 (.mov (ot 142))]) .ret))) .skip)))))))
noncomputable def f61.t0 (R1 : PC) : PC := (.seq (.seq (.ops [oq 57 (.mov (ot 8)), oq 58 (.mov (ot 9)), oq 59 (.bin .lss .num (ot 57) (ot 58))]) (.cond (ot 59) .skip (.exit 1))) (.block 2 (.seq (.seq (.ops [oq 60 (.mov (ot 0)), oq 61 (.mov (ot 8)), oq 62 (.idxStr (ot 60) (ot 61)), oq 63 (.mov (ot 6)), oq 64 (.bin .neq .num (ot 62) (ot 63))]) (.cond (ot 64) (.seq (.ops [oq 65 (.mov (ot 0)), oq 66 (.mov (ot 8)), oq 67 (.bin .add .num (ot 66) (.val (.int .i64 1))), oq 68 (.mov (ot 9)), oq 69 (.slStr (ot 65) (some (ot 67)) (some (ot 68))), oq 70 (.mov (ot 6)), oe 71 (.call 85 [(ot 69), (ot 70)]), oq 11 (.mov (ot 71))]) (.seq (.seq (.ops [oq 72 (.mov (ot 11)), oq 73 (.bin .lss .num (ot 72) (.val (.int .i64 0)))]) (.cond (ot 73) (.seq (.ops [oq 4 (.mov (.val (.int .i64 (-1))))]) .ret) .skip)) (.ops [oq 74 (.mov (ot 8)), oq 75 (.mov (ot 11)), oq 76 (.bin .add .num (ot 75) (.val (.int .i64 1))), oq 77 (.bin .add .num (ot 74) (ot 76)), oq 8 (.mov (ot 77))]))) .skip)) R1)))
noncomputable def f61.c0 : PC := f61.t0 f61.c1
noncomputable def f61.res : List PRes := [.tmp (sn 4)]
noncomputable def f61.p1 (C : CW) (Q : AVal → S → Prop) (R0 : PC) (E : En) (σ : S) : Prop :=
Som (binA .add .num (E 8) (.int .i64 1)) fun t80 =>
Som (vIdxStr (E 0) t80) fun t81 =>
Som (binA .eql .num t81 (E 7)) fun t83 =>
Som (gq1 (isB t83 true) (some (E 0))) fun t85 =>
Som (gq1 (isB t83 true) (some (E 8))) fun t86 =>
Som (gq1 (isB t83 true) (some (E 8))) fun t87 =>
Som (gq1 (isB t83 true) (some (E 5))) fun t88 =>
Som (gq1 (isB t83 true) (binA .add .num t87 t88)) fun t89 =>
Som (gq1 (isB t83 true) (vSlStr t85 (some t86) (some t89))) fun t90 =>
Som (gq1 (isB t83 true) (some (E 1))) fun t91 =>
Som (gq1 (isB t83 true) (binA .eql .num t90 t91)) fun t92 =>
Som (vPick t83 t92 (.bool false)) fun t93 =>
WIf t93 (
Ret [some (E 8)] σ Q) (
Som (binA .add .num (E 8) (.int .i64 1)) fun t96 =>
Som (binA .add .num (E 10) (.int .i64 1)) fun t98 =>
Som (vLoad1 (.gp 0 0) σ) fun t100 =>
Som (binA .leq .num (E 5) t100) fun t101 =>
Som (gq1 (isB t101 true) (some t98)) fun t103 =>
Som (gq1 (isB t101 true) (some t96)) fun t104 =>
gE1 (isB t101 true) (fun K => C 87 [t104] σ K) σ fun t105 σ1 =>
Som (gq1 (isB t101 true) (binA .gtr .num t103 t105)) fun t106 =>
Som (vPick t101 t106 (.bool false)) fun t107 =>
WIf t107 (
Som (vSlStr (E 0) (some t96) none) fun t110 =>
C 86 [t110, (E 1)] σ1 fun t112 σ2 =>
Som (binA .geq .num t112 (.int .i64 0)) fun t114 =>
WIf t114 (
Som (binA .add .num t112 t96) fun t117 =>
Ret [some t117] σ2 Q) (
Ret [some (.int .i64 (-1))] σ2 Q)) (
Som (vLoad1 (.gp 0 0) σ1) fun t119 =>
Som (binA .gtr .num (E 5) t119) fun t120 =>
Som (gq1 (isB t120 true) (some t98)) fun t122 =>
Som (gq1 (isB t120 true) (some t96)) fun t123 =>
Som (gq1 (isB t120 true) (binA .shr .num t123 (.int .u64 4))) fun t124 =>
Som (gq1 (isB t120 true) (binA .add .num (.int .i64 4) t124)) fun t125 =>
Som (gq1 (isB t120 true) (binA .geq .num t122 t125)) fun t126 =>
Som (vPick t120 t126 (.bool false)) fun t127 =>
Som (gq1 (isB t127 true) (some t96)) fun t129 =>
Som (gq1 (isB t127 true) (some (E 9))) fun t130 =>
Som (gq1 (isB t127 true) (binA .lss .num t129 t130)) fun t131 =>
Som (vPick t127 t131 (.bool false)) fun t132 =>
WIf t132 (
Som (vSlStr (E 0) (some t96) none) fun t135 =>
C 88 [t135, (E 1)] σ1 fun t137 σ2 =>
Som (binA .lss .num t137 (.int .i64 0)) fun t139 =>
WIf t139 (
Ret [some (.int .i64 (-1))] σ2 Q) (
Som (binA .add .num t96 t137) fun t142 =>
Ret [some t142] σ2 Q)) (
wC C (.loop R0) ((((((((((((((((((((((((((((((((((((((((((((((E.set 78 (E 0)).set 79 (E 8)).set 80 t80).set 81 t81).set 82 (E 7)).set 83 t83).set 84 t83).set 85 t85).set 86 t86).set 87 t87).set 88 t88).set 89 t89).set 90 t90).set 91 t91).set 92 t92).set 93 t93).set 95 (E 8)).set 96 t96).set 8 t96).set 97 (E 10)).set 98 t98).set 10 t98).set 99 (E 5)).set 100 t100).set 101 t101).set 102 t101).set 103 t103).set 104 t104).set 105 t105).set 106 t106).set 107 t107).set 118 (E 5)).set 119 t119).set 120 t120).set 121 t120).set 122 t122).set 123 t123).set 124 t124).set 125 t125).set 126 t126).set 127 t127).set 128 t127).set 129 t129).set 130 t130).set 131 t131).set 132 t132) σ1 (blockK 1 (seqK (wC C (.seq (.ops [oq 4 (.mov (.val (.int .i64 (-1))))]) .ret)) (retK f61.res Q))))))
theorem f61.p1_eq (C : CW) (Q : AVal → S → Prop) (R0 : PC) (E : En) (σ : S) : f61.p1 C Q R0 E σ = wC C f61.c1 E σ (blockK 2 (loopK C R0 (blockK 1 (seqK (wC C (.seq (.ops [oq 4 (.mov (.val (.int .i64 (-1))))]) .ret)) (retK f61.res Q))))) := by kernel_rfl
abbrev f61.J1 (C : CW) (Q : AVal → S → Prop) (E : En) (σ : S) : Prop := wC C f61.c1 E σ (blockK 2 (loopK C f61.c0 (blockK 1 (seqK (wC C (.seq (.ops [oq 4 (.mov (.val (.int .i64 (-1))))]) .ret)) (retK f61.res Q)))))
set_option maxRecDepth 20000 in
theorem f61.p1_of {C : CW} {Q : AVal → S → Prop} {E : En} {σ : S} (h : f61.p1 C Q f61.c0 E σ) : f61.J1 C Q E σ := Eq.mp (f61.p1_eq C Q f61.c0 E σ) h
noncomputable def f61.p0 (C : CW) (Q : AVal → S → Prop) (R1 R0 : PC) (E : En) (σ : S) : Prop :=
Som (binA .lss .num (E 8) (E 9)) fun t59 =>
WIf t59 (
Som (vIdxStr (E 0) (E 8)) fun t62 =>
Som (binA .neq .num t62 (E 6)) fun t64 =>
WIf t64 (
Som (binA .add .num (E 8) (.int .i64 1)) fun t67 =>
Som (vSlStr (E 0) (some t67) (some (E 9))) fun t69 =>
C 85 [t69, (E 6)] σ fun t71 σ1 =>
Som (binA .lss .num t71 (.int .i64 0)) fun t73 =>
WIf t73 (
Ret [some (.int .i64 (-1))] σ1 Q) (
Som (binA .add .num t71 (.int .i64 1)) fun t76 =>
Som (binA .add .num (E 8) t76) fun t77 =>
wC C R1 (((((((((((((((((((((((E.set 57 (E 8)).set 58 (E 9)).set 59 t59).set 60 (E 0)).set 61 (E 8)).set 62 t62).set 63 (E 6)).set 64 t64).set 65 (E 0)).set 66 (E 8)).set 67 t67).set 68 (E 9)).set 69 t69).set 70 (E 6)).set 71 t71).set 11 t71).set 72 t71).set 73 t73).set 74 (E 8)).set 75 t71).set 76 t76).set 77 t77).set 8 t77) σ1 (blockK 2 (loopK C R0 (blockK 1 (seqK (wC C (.seq (.ops [oq 4 (.mov (.val (.int .i64 (-1))))]) .ret)) (retK f61.res Q))))))) (
wC C R1 ((((((((E.set 57 (E 8)).set 58 (E 9)).set 59 t59).set 60 (E 0)).set 61 (E 8)).set 62 t62).set 63 (E 6)).set 64 t64) σ (blockK 2 (loopK C R0 (blockK 1 (seqK (wC C (.seq (.ops [oq 4 (.mov (.val (.int .i64 (-1))))]) .ret)) (retK f61.res Q))))))) (
Ret [some (.int .i64 (-1))] σ Q)
theorem f61.p0_eq (C : CW) (Q : AVal → S → Prop) (R1 R0 : PC) (E : En) (σ : S) : f61.p0 C Q R1 R0 E σ = wC C (f61.t0 R1) E σ (loopK C R0 (blockK 1 (seqK (wC C (.seq (.ops [oq 4 (.mov (.val (.int .i64 (-1))))]) .ret)) (retK f61.res Q)))) := by kernel_rfl
abbrev f61.L0 (C : CW) (Q : AVal → S → Prop) (E : En) (σ : S) : Prop := wC C (.loop f61.c0) E σ (blockK 1 (seqK (wC C (.seq (.ops [oq 4 (.mov (.val (.int .i64 (-1))))]) .ret)) (retK f61.res Q)))
set_option maxRecDepth 20000 in
theorem f61.p0_of {tab : Nat → Option PFn} {Q : AVal → S → Prop} {E : En} {σ : S} (h : f61.p0 (WF tab) Q f61.c1 f61.c0 E σ) : f61.L0 (WF tab) Q E σ := wLoop_step (Eq.mp (f61.p0_eq (WF tab) Q f61.c1 f61.c0 E σ) h)
noncomputable def f61.body (R0 : PC) : PC := (.seq (.ops [oq 4 (.mov (.val (.int .i64 0)))]) (.seq (.ops [oq 14 (.mov (ot 1)), oq 15 (.lenStr (ot 14)), oq 5 (.mov (ot 15))]) (.seq (.block 0 (.seq (.ops [oq 17 (.mov (ot 5)), oq 18 (.bin .eql .num (ot 17) (.val (.int .i64 0))), oq 19 (.mov (ot 18)), oqg 20 19 false (.mov (ot 1)), oqg 21 19 false (.mov (ot 0)), oqg 22 19 false (.bin .eql .num (ot 20) (ot 21)), oq 23 (.pick (ot 19) (.val (.bool true)) (ot 22)), oq 16 (.mov (ot 23))]) (.cond (ot 16) (.seq (.ops [oq 4 (.mov (.val (.int .i64 0)))]) .ret) (.seq (.ops [oq 25 (.mov (ot 5)), oq 26 (.bin .eql .num (ot 25) (.val (.int .i64 1))), oq 24 (.mov (ot 26))]) (.cond (ot 24) (.seq (.ops [oq 27 (.mov (ot 0)), oq 28 (.mov (ot 1)), oq 29 (.idxStr (ot 28) (.val (.int .i64 0))), oe 30 (.call 85 [(ot 27), (ot 29)]), oq 4 (.mov (ot 30))]) .ret) (.seq (.ops [oq 32 (.mov (ot 5)), oq 33 (.mov (ot 0)), oq 34 (.lenStr (ot 33)), oq 35 (.bin .geq .num (ot 32) (ot 34)), oq 31 (.mov (ot 35))]) (.cond (ot 31) (.seq (.ops [oq 4 (.mov (.val (.int .i64 (-1))))]) .ret) (.seq (.ops [oq 37 (.mov (ot 5)), oq 38 (.load1 (.val (.gp 0 0))), oq 39 (.bin .leq .num (ot 37) (ot 38)), oq 40 (.mov (ot 39)), oqg 41 40 true (.mov (ot 0)), oqg 42 40 true (.lenStr (ot 41)), oqg 43 40 true (.bin .leq .num (ot 42) (.val (.int .i64 64))), oq 44 (.pick (ot 40) (ot 43) (.val (.bool false))), oq 36 (.mov (ot 44))]) (.cond (ot 36) (.seq (.ops [oq 45 (.mov (ot 0)), oq 46 (.mov (ot 1)), oe 47 (.call 86 [(ot 45), (ot 46)]), oq 4 (.mov (ot 47))]) .ret) .skip))))))))) (.seq (.ops [oq 48 (.mov (ot 1)), oq 49 (.idxStr (ot 48) (.val (.int .i64 0))), oq 6 (.mov (ot 49))]) (.seq (.ops [oq 50 (.mov (ot 1)), oq 51 (.idxStr (ot 50) (.val (.int .i64 1))), oq 7 (.mov (ot 51))]) (.seq (.ops [oq 8 (.mov (.val (.int .i64 0)))]) (.seq (.ops [oq 52 (.mov (ot 0)), oq 53 (.lenStr (ot 52)), oq 54 (.mov (ot 5)), oq 55 (.bin .sub .num (ot 53) (ot 54)), oq 56 (.bin .add .num (ot 55) (.val (.int .i64 1))), oq 9 (.mov (ot 56))]) (.seq (.ops [oq 10 (.mov (.val (.int .i64 0)))]) (.seq (.block 1 (.loop R0)) (.seq (.ops [oq 4 (.mov (.val (.int .i64 (-1))))]) .ret))))))))))
noncomputable def f61.fn : PFn := .code (slotsN 143) (f61.body f61.c0) f61.res
noncomputable def f61 (C : CW) (R0 : PC) (a0 a1 : AVal) (σ : S) (Q : AVal → S → Prop) : Prop :=
Som (vLenStr a1) fun t15 =>
Som (binA .eql .num t15 (.int .i64 0)) fun t18 =>
Som (gq1 (isB t18 false) (some a1)) fun t20 =>
Som (gq1 (isB t18 false) (some a0)) fun t21 =>
Som (gq1 (isB t18 false) (binA .eql .num t20 t21)) fun t22 =>
Som (vPick t18 (.bool true) t22) fun t23 =>
WIf t23 (
Ret [some (.int .i64 0)] σ Q) (
Som (binA .eql .num t15 (.int .i64 1)) fun t26 =>
WIf t26 (
Som (vIdxStr a1 (.int .i64 0)) fun t29 =>
C 85 [a0, t29] σ fun t30 σ1 =>
Ret [some t30] σ1 Q) (
Som (vLenStr a0) fun t34 =>
Som (binA .geq .num t15 t34) fun t35 =>
WIf t35 (
Ret [some (.int .i64 (-1))] σ Q) (
Som (vLoad1 (.gp 0 0) σ) fun t38 =>
Som (binA .leq .num t15 t38) fun t39 =>
Som (gq1 (isB t39 true) (some a0)) fun t41 =>
Som (gq1 (isB t39 true) (vLenStr t41)) fun t42 =>
Som (gq1 (isB t39 true) (binA .leq .num t42 (.int .i64 64))) fun t43 =>
Som (vPick t39 t43 (.bool false)) fun t44 =>
WIf t44 (
C 86 [a0, a1] σ fun t47 σ1 =>
Ret [some t47] σ1 Q) (
Som (vIdxStr a1 (.int .i64 0)) fun t49 =>
Som (vIdxStr a1 (.int .i64 1)) fun t51 =>
Som (vLenStr a0) fun t53 =>
Som (binA .sub .num t53 t15) fun t55 =>
Som (binA .add .num t55 (.int .i64 1)) fun t56 =>
wC C (.loop R0) (((((((((((((((((((((((((((((((((((((((((((((E0.set 0 a0).set 1 a1).set 4 (.int .i64 0)).set 14 a1).set 15 t15).set 5 t15).set 17 t15).set 18 t18).set 19 t18).set 20 t20).set 21 t21).set 22 t22).set 23 t23).set 16 t23).set 25 t15).set 26 t26).set 24 t26).set 32 t15).set 33 a0).set 34 t34).set 35 t35).set 31 t35).set 37 t15).set 38 t38).set 39 t39).set 40 t39).set 41 t41).set 42 t42).set 43 t43).set 44 t44).set 36 t44).set 48 a1).set 49 t49).set 6 t49).set 50 a1).set 51 t51).set 7 t51).set 8 (.int .i64 0)).set 52 a0).set 53 t53).set 54 t15).set 55 t55).set 56 t56).set 9 t56).set 10 (.int .i64 0)) σ (blockK 1 (seqK (wC C (.seq (.ops [oq 4 (.mov (.val (.int .i64 (-1))))]) .ret)) (retK f61.res Q)))))))
theorem f61_eq (C : CW) (R0 : PC) (a0 a1 : AVal) (σ : S) (Q : AVal → S → Prop) : f61 C R0  a0 a1 σ Q = wC C (f61.body R0) ((E0.set 0 a0).set 1 a1) σ (retK f61.res Q) := by kernel_rfl
theorem f61_ent (a0 a1 : AVal) : enterE [a0, a1] (slotsN 143) E0 = some ((E0.set 0 a0).set 1 a1) := by kernel_rfl
set_option maxRecDepth 20000 in
theorem f61_wf {tab : Nat → Option PFn} (ht : tab 61 = some f61.fn) {a0 a1 : AVal} {σ : S} {Q : AVal → S → Prop} (h : f61 (WF tab) f61.c0  a0 a1 σ Q) : WF tab 61 [a0, a1] σ Q := wFn_sound ht (wFn_code (f61_ent a0 a1) (Eq.mp (f61_eq (WF tab) f61.c0  a0 a1 σ Q) h))
noncomputable def f85.res : List PRes := [.tmp (sn 4)]
noncomputable def f85.body : PC := (.seq (.ops [oq 4 (.mov (.val (.int .i64 0)))]) (.seq (.ops [oq 5 (.mov (ot 0)), oq 6 (.mov (ot 1)), oq 7 (.ixbS (ot 5) (ot 6)), oq 4 (.mov (ot 7))]) .ret))
noncomputable def f85.fn : PFn := .code (slotsN 8) f85.body f85.res
noncomputable def f85 (C : CW) (a0 a1 : AVal) (σ : S) (Q : AVal → S → Prop) : Prop :=
Som (vIxbS a0 a1) fun t7 =>
Ret [some t7] σ Q
theorem f85_eq (C : CW) (a0 a1 : AVal) (σ : S) (Q : AVal → S → Prop) : f85 C   a0 a1 σ Q = wC C f85.body ((E0.set 0 a0).set 1 a1) σ (retK f85.res Q) := by kernel_rfl
theorem f85_ent (a0 a1 : AVal) : enterE [a0, a1] (slotsN 8) E0 = some ((E0.set 0 a0).set 1 a1) := by kernel_rfl
set_option maxRecDepth 20000 in
theorem f85_wf {tab : Nat → Option PFn} (ht : tab 85 = some f85.fn) {a0 a1 : AVal} {σ : S} {Q : AVal → S → Prop} (h : f85 (WF tab)   a0 a1 σ Q) : WF tab 85 [a0, a1] σ Q := wFn_sound ht (wFn_code (f85_ent a0 a1) (Eq.mp (f85_eq (WF tab)   a0 a1 σ Q) h))
end Go.Am
