/-
  Functions of the program as conditions. Conditions: none.
-/
import Derived.Test.YtkgjghlklniaeaaK33
import Derived.KernelRfl
namespace Go.Am
/-! dray/draylaw22.WalOthers -/
noncomputable def f3.c2 : PC := (.seq (.ops [oe 107 (.call 13 []), oq 8 (.mov (ot 107))]) .ret)
noncomputable def f3.c1 : PC := (.seq (.seq (.ops [oq 71 (.mov (ot 12)), oq 72 (.mov (ot 3)), oq 73 (.lenSl (ot 72)), oq 74 (.bin .lss .num (ot 71) (ot 73)), oq 75 (.mov (ot 74)), oqg 76 75 true (.mov (ot 12)), oqg 77 75 true (.bin .lss .num (ot 76) (.val (.int .i64 8))), oq 78 (.pick (ot 75) (ot 77) (.val (.bool false)))]) (.cond (ot 78) .skip (.exit 0))) (.seq (.block 1 (.seq (.ops [oq 81 (.mov (ot 11)), oq 82 (.mov (ot 3)), oq 83 (.mov (ot 12)), oq 84 (.ixSl 7 (ot 82) (ot 83)), oq 85 (.fieldAddr 1 (ot 84)), oq 86 (.load1 (ot 85)), oe 87 (.call 16 [(ot 81), (ot 86)])]) (.seq (.ops [oq 88 (.mov (ot 11)), oq 89 (.mov (ot 3)), oq 90 (.mov (ot 12)), oq 91 (.ixSl 7 (ot 89) (ot 90)), oq 92 (.fieldAddr 1 (ot 91)), oq 93 (.load1 (ot 92)), oe 94 (.call 17 [(ot 88), (ot 93)])]) (.seq (.ops [oq 95 (.mov (ot 11)), oq 96 (.mov (ot 11)), oe 97 (.call 15 [(ot 96)]), oq 98 (.bin .add .num (ot 97) (.val (.int .i64 1))), oa 99 (.bslice 1 [(.str [])] 1 [(0, 1, (.val (.str [97])))]), oe 100 (.call 18 [(ot 95), (ot 98), (ot 99)])]) (.seq (.ops [oq 101 (.mov (ot 11)), oq 102 (.mov (ot 11)), oe 103 (.call 14 [(ot 102)]), oe 104 (.call 19 [(ot 101), (ot 103)])]) (.ops [oq 105 (.mov (ot 11)), oe 106 (.call 20 [(ot 105)])])))))) (.ops [oq 79 (.mov (ot 12)), oq 80 (.bin .add .num (ot 79) (.val (.int .i64 1))), oq 12 (.mov (ot 80))])))
noncomputable def f3.c0 : PC := (.seq (.ops [oq 29 (.mov (ot 9)), oq 30 (.mov (ot 0)), oe 31 (.call 11 [(ot 30), (.val (.int .i64 8)), (.val (.int .i64 47))]), oq 32 (.mov (ot 1)), oq 33 (.mov (ot 2)), oe 34 (.call 10 [(ot 29), (ot 31), (ot 32), (ot 33)])]) (.seq (.ops [oq 36 (.mov (ot 9)), oe 37 (.call 12 [(ot 36)]), oq 35 (.mov (ot 37)), oq 38 (.extract 0 (ot 35)), oq 39 (.extract 1 (ot 35)), oq 11 (.mov (ot 38)), oq 10 (.mov (ot 39))]) (.seq (.seq (.ops [oq 40 (.mov (ot 10)), oq 41 (.bin .neq .num (ot 40) (.val (.int .i64 0))), oq 42 (.mov (ot 41)), oqg 43 42 false (.mov (ot 11)), oqg 44 42 false (.bin .eql .ptr (ot 43) (.val .nptr)), oq 45 (.pick (ot 42) (.val (.bool true)) (ot 44))]) (.cond (ot 45) (.seq (.ops [oq 46 (.mov (ot 11)), oq 47 (.bin .eql .ptr (ot 46) (.val .nptr)), oq 48 (.mov (ot 47)), oqg 49 48 true (.mov (ot 10)), oqg 50 48 true (.bin .neq .num (ot 49) (.val (.int .i64 0))), oq 51 (.pick (ot 48) (ot 50) (.val (.bool false))), oq 52 (.mov (ot 51)), oeg 53 52 true (.call 13 []), oq 54 (.pick (ot 52) (ot 53) (.val (.bool false))), oq 8 (.mov (ot 54))]) .ret) .skip)) (.seq (.seq (.ops [oq 55 (.mov (ot 11)), oe 56 (.call 14 [(ot 55)]), oq 57 (.bin .lss .num (ot 56) (.val (.int .i64 1))), oq 58 (.mov (ot 57)), oqg 59 58 false (.mov (ot 11)), oeg 60 58 false (.call 14 [(ot 59)]), oqg 61 58 false (.bin .gtr .num (ot 60) (.val (.int .i64 1099511627777))), oq 62 (.pick (ot 58) (.val (.bool true)) (ot 61)), oq 63 (.mov (ot 62)), oqg 64 63 false (.mov (ot 11)), oeg 65 63 false (.call 15 [(ot 64)]), oqg 66 63 false (.mov (ot 11)), oeg 67 63 false (.call 14 [(ot 66)]), oqg 68 63 false (.bin .sub .num (ot 67) (.val (.int .i64 1))), oqg 69 63 false (.bin .lss .num (ot 65) (ot 68)), oq 70 (.pick (ot 63) (.val (.bool true)) (ot 69))]) (.cond (ot 70) (.seq (.ops [oq 8 (.mov (.val (.bool false)))]) .ret) .skip)) (.seq (.seq (.ops [oq 12 (.mov (.val (.int .i64 0)))]) (.block 0 (.loop f3.c1))) f3.c2)))))
noncomputable def f3.res : List PRes := [.tmp (sn 8)]
noncomputable def f3.p2 (C : CW) (Q : AVal → S → Prop) (E : En) (σ : S) : Prop :=
C 13 [] σ fun t107 σ1 =>
Ret [some t107] σ1 Q
theorem f3.p2_eq (C : CW) (Q : AVal → S → Prop) (E : En) (σ : S) : f3.p2 C Q  E σ = wC C (.seq (.ops [oe 107 (.call 13 []), oq 8 (.mov (ot 107))]) .ret) E σ (retK f3.res Q) := by kernel_rfl
abbrev f3.J2 (C : CW) (Q : AVal → S → Prop) (E : En) (σ : S) : Prop := wC C f3.c2 E σ (retK f3.res Q)
set_option maxRecDepth 20000 in
theorem f3.p2_of {C : CW} {Q : AVal → S → Prop} {E : En} {σ : S} (h : f3.p2 C Q  E σ) : f3.J2 C Q E σ := Eq.mp (f3.p2_eq C Q  E σ) h
noncomputable def f3.p1 (C : CW) (Q : AVal → S → Prop) (R1 R2 : PC) (E : En) (σ : S) : Prop :=
Som (vLenSl (E 3)) fun t73 =>
Som (binA .lss .num (E 12) t73) fun t74 =>
Som (gq1 (isB t74 true) (some (E 12))) fun t76 =>
Som (gq1 (isB t74 true) (binA .lss .num t76 (.int .i64 8))) fun t77 =>
Som (vPick t74 t77 (.bool false)) fun t78 =>
WIf t78 (
Som (vIxSl 7 (E 3) (E 12)) fun t84 =>
Som (vFieldAddr 1 t84) fun t85 =>
Som (vLoad1 t85 σ) fun t86 =>
C 16 [(E 11), t86] σ fun t87 σ1 =>
Som (vIxSl 7 (E 3) (E 12)) fun t91 =>
Som (vFieldAddr 1 t91) fun t92 =>
Som (vLoad1 t92 σ1) fun t93 =>
C 17 [(E 11), t93] σ1 fun t94 σ2 =>
C 15 [(E 11)] σ2 fun t97 σ3 =>
Som (binA .add .num t97 (.int .i64 1)) fun t98 =>
Ala (aSliceV 1 [(.str [])] 1 [(0, 1, (.str [97]))]) σ3 fun t99 σ4 =>
C 18 [(E 11), t98, t99] σ4 fun t100 σ5 =>
C 14 [(E 11)] σ5 fun t103 σ6 =>
C 19 [(E 11), t103] σ6 fun t104 σ7 =>
C 20 [(E 11)] σ7 fun t106 σ8 =>
Som (binA .add .num (E 12) (.int .i64 1)) fun t80 =>
wC C (.loop R1) (((((((((((((((((((((((((((((((((((((E.set 71 (E 12)).set 72 (E 3)).set 73 t73).set 74 t74).set 75 t74).set 76 t76).set 77 t77).set 78 t78).set 81 (E 11)).set 82 (E 3)).set 83 (E 12)).set 84 t84).set 85 t85).set 86 t86).set 87 t87).set 88 (E 11)).set 89 (E 3)).set 90 (E 12)).set 91 t91).set 92 t92).set 93 t93).set 94 t94).set 95 (E 11)).set 96 (E 11)).set 97 t97).set 98 t98).set 99 t99).set 100 t100).set 101 (E 11)).set 102 (E 11)).set 103 t103).set 104 t104).set 105 (E 11)).set 106 t106).set 79 (E 12)).set 80 t80).set 12 t80) σ8 (blockK 0 (seqK (wC C R2) (retK f3.res Q)))) (
wC C R2 ((((((((E.set 71 (E 12)).set 72 (E 3)).set 73 t73).set 74 t74).set 75 t74).set 76 t76).set 77 t77).set 78 t78) σ (retK f3.res Q))
theorem f3.p1_eq (C : CW) (Q : AVal → S → Prop) (R1 R2 : PC) (E : En) (σ : S) : f3.p1 C Q R1 R2 E σ = wC C (.seq (.seq (.ops [oq 71 (.mov (ot 12)), oq 72 (.mov (ot 3)), oq 73 (.lenSl (ot 72)), oq 74 (.bin .lss .num (ot 71) (ot 73)), oq 75 (.mov (ot 74)), oqg 76 75 true (.mov (ot 12)), oqg 77 75 true (.bin .lss .num (ot 76) (.val (.int .i64 8))), oq 78 (.pick (ot 75) (ot 77) (.val (.bool false)))]) (.cond (ot 78) .skip (.exit 0))) (.seq (.block 1 (.seq (.ops [oq 81 (.mov (ot 11)), oq 82 (.mov (ot 3)), oq 83 (.mov (ot 12)), oq 84 (.ixSl 7 (ot 82) (ot 83)), oq 85 (.fieldAddr 1 (ot 84)), oq 86 (.load1 (ot 85)), oe 87 (.call 16 [(ot 81), (ot 86)])]) (.seq (.ops [oq 88 (.mov (ot 11)), oq 89 (.mov (ot 3)), oq 90 (.mov (ot 12)), oq 91 (.ixSl 7 (ot 89) (ot 90)), oq 92 (.fieldAddr 1 (ot 91)), oq 93 (.load1 (ot 92)), oe 94 (.call 17 [(ot 88), (ot 93)])]) (.seq (.ops [oq 95 (.mov (ot 11)), oq 96 (.mov (ot 11)), oe 97 (.call 15 [(ot 96)]), oq 98 (.bin .add .num (ot 97) (.val (.int .i64 1))), oa 99 (.bslice 1 [(.str [])] 1 [(0, 1, (.val (.str [97])))]), oe 100 (.call 18 [(ot 95), (ot 98), (ot 99)])]) (.seq (.ops [oq 101 (.mov (ot 11)), oq 102 (.mov (ot 11)), oe 103 (.call 14 [(ot 102)]), oe 104 (.call 19 [(ot 101), (ot 103)])]) (.ops [oq 105 (.mov (ot 11)), oe 106 (.call 20 [(ot 105)])])))))) (.ops [oq 79 (.mov (ot 12)), oq 80 (.bin .add .num (ot 79) (.val (.int .i64 1))), oq 12 (.mov (ot 80))]))) E σ (loopK C R1 (blockK 0 (seqK (wC C R2) (retK f3.res Q)))) := by kernel_rfl
abbrev f3.L1 (C : CW) (Q : AVal → S → Prop) (E : En) (σ : S) : Prop := wC C (.loop f3.c1) E σ (blockK 0 (seqK (wC C f3.c2) (retK f3.res Q)))
set_option maxRecDepth 20000 in
theorem f3.p1_of {tab : Nat → Option PFn} {Q : AVal → S → Prop} {E : En} {σ : S} (h : f3.p1 (WF tab) Q f3.c1 f3.c2 E σ) : f3.L1 (WF tab) Q E σ := wLoop_step (Eq.mp (f3.p1_eq (WF tab) Q f3.c1 f3.c2 E σ) h)
noncomputable def f3.p0 (C : CW) (Q : AVal → S → Prop) (R1 R2 : PC) (E : En) (σ : S) : Prop :=
C 11 [(E 0), (.int .i64 8), (.int .i64 47)] σ fun t31 σ1 =>
C 10 [(E 9), t31, (E 1), (E 2)] σ1 fun t34 σ2 =>
C 12 [(E 9)] σ2 fun t37 σ3 =>
Som (vExtract 0 t37) fun t38 =>
Som (vExtract 1 t37) fun t39 =>
Som (binA .neq .num t39 (.int .i64 0)) fun t41 =>
Som (gq1 (isB t41 false) (some t38)) fun t43 =>
Som (gq1 (isB t41 false) (binA .eql .ptr t43 .nptr)) fun t44 =>
Som (vPick t41 (.bool true) t44) fun t45 =>
WIf t45 (
Som (binA .eql .ptr t38 .nptr) fun t47 =>
Som (gq1 (isB t47 true) (some t39)) fun t49 =>
Som (gq1 (isB t47 true) (binA .neq .num t49 (.int .i64 0))) fun t50 =>
Som (vPick t47 t50 (.bool false)) fun t51 =>
gE1 (isB t51 true) (fun K => C 13 [] σ3 K) σ3 fun t53 σ4 =>
Som (vPick t51 t53 (.bool false)) fun t54 =>
Ret [some t54] σ4 Q) (
C 14 [t38] σ3 fun t56 σ4 =>
Som (binA .lss .num t56 (.int .i64 1)) fun t57 =>
Som (gq1 (isB t57 false) (some t38)) fun t59 =>
gE1 (isB t57 false) (fun K => C 14 [t59] σ4 K) σ4 fun t60 σ5 =>
Som (gq1 (isB t57 false) (binA .gtr .num t60 (.int .i64 1099511627777))) fun t61 =>
Som (vPick t57 (.bool true) t61) fun t62 =>
Som (gq1 (isB t62 false) (some t38)) fun t64 =>
gE1 (isB t62 false) (fun K => C 15 [t64] σ5 K) σ5 fun t65 σ6 =>
Som (gq1 (isB t62 false) (some t38)) fun t66 =>
gE1 (isB t62 false) (fun K => C 14 [t66] σ6 K) σ6 fun t67 σ7 =>
Som (gq1 (isB t62 false) (binA .sub .num t67 (.int .i64 1))) fun t68 =>
Som (gq1 (isB t62 false) (binA .lss .num t65 t68)) fun t69 =>
Som (vPick t62 (.bool true) t69) fun t70 =>
WIf t70 (
Ret [some (.bool false)] σ7 Q) (
wC C (.loop R1) ((((((((((((((((((((((((((((((((((((E.set 29 (E 9)).set 30 (E 0)).set 31 t31).set 32 (E 1)).set 33 (E 2)).set 34 t34).set 36 (E 9)).set 37 t37).set 35 t37).set 38 t38).set 39 t39).set 11 t38).set 10 t39).set 40 t39).set 41 t41).set 42 t41).set 43 t43).set 44 t44).set 45 t45).set 55 t38).set 56 t56).set 57 t57).set 58 t57).set 59 t59).set 60 t60).set 61 t61).set 62 t62).set 63 t62).set 64 t64).set 65 t65).set 66 t66).set 67 t67).set 68 t68).set 69 t69).set 70 t70).set 12 (.int .i64 0)) σ7 (blockK 0 (seqK (wC C R2) (retK f3.res Q)))))
theorem f3.p0_eq (C : CW) (Q : AVal → S → Prop) (R1 R2 : PC) (E : En) (σ : S) : f3.p0 C Q R1 R2 E σ = wC C (.seq (.ops [oq 29 (.mov (ot 9)), oq 30 (.mov (ot 0)), oe 31 (.call 11 [(ot 30), (.val (.int .i64 8)), (.val (.int .i64 47))]), oq 32 (.mov (ot 1)), oq 33 (.mov (ot 2)), oe 34 (.call 10 [(ot 29), (ot 31), (ot 32), (ot 33)])]) (.seq (.ops [oq 36 (.mov (ot 9)), oe 37 (.call 12 [(ot 36)]), oq 35 (.mov (ot 37)), oq 38 (.extract 0 (ot 35)), oq 39 (.extract 1 (ot 35)), oq 11 (.mov (ot 38)), oq 10 (.mov (ot 39))]) (.seq (.seq (.ops [oq 40 (.mov (ot 10)), oq 41 (.bin .neq .num (ot 40) (.val (.int .i64 0))), oq 42 (.mov (ot 41)), oqg 43 42 false (.mov (ot 11)), oqg 44 42 false (.bin .eql .ptr (ot 43) (.val .nptr)), oq 45 (.pick (ot 42) (.val (.bool true)) (ot 44))]) (.cond (ot 45) (.seq (.ops [oq 46 (.mov (ot 11)), oq 47 (.bin .eql .ptr (ot 46) (.val .nptr)), oq 48 (.mov (ot 47)), oqg 49 48 true (.mov (ot 10)), oqg 50 48 true (.bin .neq .num (ot 49) (.val (.int .i64 0))), oq 51 (.pick (ot 48) (ot 50) (.val (.bool false))), oq 52 (.mov (ot 51)), oeg 53 52 true (.call 13 []), oq 54 (.pick (ot 52) (ot 53) (.val (.bool false))), oq 8 (.mov (ot 54))]) .ret) .skip)) (.seq (.seq (.ops [oq 55 (.mov (ot 11)), oe 56 (.call 14 [(ot 55)]), oq 57 (.bin .lss .num (ot 56) (.val (.int .i64 1))), oq 58 (.mov (ot 57)), oqg 59 58 false (.mov (ot 11)), oeg 60 58 false (.call 14 [(ot 59)]), oqg 61 58 false (.bin .gtr .num (ot 60) (.val (.int .i64 1099511627777))), oq 62 (.pick (ot 58) (.val (.bool true)) (ot 61)), oq 63 (.mov (ot 62)), oqg 64 63 false (.mov (ot 11)), oeg 65 63 false (.call 15 [(ot 64)]), oqg 66 63 false (.mov (ot 11)), oeg 67 63 false (.call 14 [(ot 66)]), oqg 68 63 false (.bin .sub .num (ot 67) (.val (.int .i64 1))), oqg 69 63 false (.bin .lss .num (ot 65) (ot 68)), oq 70 (.pick (ot 63) (.val (.bool true)) (ot 69))]) (.cond (ot 70) (.seq (.ops [oq 8 (.mov (.val (.bool false)))]) .ret) .skip)) (.seq (.seq (.ops [oq 12 (.mov (.val (.int .i64 0)))]) (.block 0 (.loop R1))) R2))))) E σ (retK f3.res Q) := by kernel_rfl
abbrev f3.J0 (C : CW) (Q : AVal → S → Prop) (E : En) (σ : S) : Prop := wC C f3.c0 E σ (retK f3.res Q)
set_option maxRecDepth 20000 in
theorem f3.p0_of {C : CW} {Q : AVal → S → Prop} {E : En} {σ : S} (h : f3.p0 C Q f3.c1 f3.c2 E σ) : f3.J0 C Q E σ := Eq.mp (f3.p0_eq C Q f3.c1 f3.c2 E σ) h
noncomputable def f3.body : PC := (.seq (.ops [oq 8 (.mov (.val (.bool false)))]) (.seq (.ops [oe 14 (.call 9 [(.val (.int .i64 1048576))]), oq 13 (.mov (ot 14)), oq 15 (.extract 0 (ot 13)), oq 16 (.extract 1 (ot 13)), oq 9 (.mov (ot 15)), oq 10 (.mov (ot 16))]) (.seq (.seq (.ops [oq 17 (.mov (ot 10)), oq 18 (.bin .neq .num (ot 17) (.val (.int .i64 0))), oq 19 (.mov (ot 18)), oqg 20 19 false (.mov (ot 9)), oqg 21 19 false (.bin .eql .ptr (ot 20) (.val .nptr)), oq 22 (.pick (ot 19) (.val (.bool true)) (ot 21))]) (.cond (ot 22) (.seq (.ops [oq 8 (.mov (.val (.bool false)))]) .ret) .skip)) (.seq (.seq (.ops [oq 23 (.mov (ot 1)), oq 24 (.bin .lss .num (ot 23) (.val (.int .i64 0))), oq 25 (.mov (ot 24)), oqg 26 25 false (.mov (ot 1)), oqg 27 25 false (.bin .gtr .num (ot 26) (.val (.int .i64 5000))), oq 28 (.pick (ot 25) (.val (.bool true)) (ot 27))]) (.cond (ot 28) (.ops [oq 1 (.mov (.val (.int .i64 0)))]) .skip)) f3.c0))))
noncomputable def f3.fn : PFn := .code (slotsN 108) f3.body f3.res
noncomputable def f3 (C : CW) (R0 : PC) (a0 a1 a2 a3 : AVal) (σ : S) (Q : AVal → S → Prop) : Prop :=
C 9 [(.int .i64 1048576)] σ fun t14 σ1 =>
Som (vExtract 0 t14) fun t15 =>
Som (vExtract 1 t14) fun t16 =>
Som (binA .neq .num t16 (.int .i64 0)) fun t18 =>
Som (gq1 (isB t18 false) (some t15)) fun t20 =>
Som (gq1 (isB t18 false) (binA .eql .ptr t20 .nptr)) fun t21 =>
Som (vPick t18 (.bool true) t21) fun t22 =>
WIf t22 (
Ret [some (.bool false)] σ1 Q) (
Som (binA .lss .num a1 (.int .i64 0)) fun t24 =>
Som (gq1 (isB t24 false) (some a1)) fun t26 =>
Som (gq1 (isB t24 false) (binA .gtr .num t26 (.int .i64 5000))) fun t27 =>
Som (vPick t24 (.bool true) t27) fun t28 =>
WIf t28 (
wC C R0 ((((((((((((((((((((((((E0.set 0 a0).set 1 a1).set 2 a2).set 3 a3).set 8 (.bool false)).set 14 t14).set 13 t14).set 15 t15).set 16 t16).set 9 t15).set 10 t16).set 17 t16).set 18 t18).set 19 t18).set 20 t20).set 21 t21).set 22 t22).set 23 a1).set 24 t24).set 25 t24).set 26 t26).set 27 t27).set 28 t28).set 1 (.int .i64 0)) σ1 (retK f3.res Q)) (
wC C R0 (((((((((((((((((((((((E0.set 0 a0).set 1 a1).set 2 a2).set 3 a3).set 8 (.bool false)).set 14 t14).set 13 t14).set 15 t15).set 16 t16).set 9 t15).set 10 t16).set 17 t16).set 18 t18).set 19 t18).set 20 t20).set 21 t21).set 22 t22).set 23 a1).set 24 t24).set 25 t24).set 26 t26).set 27 t27).set 28 t28) σ1 (retK f3.res Q)))
theorem f3_eq (C : CW) (R0 : PC) (a0 a1 a2 a3 : AVal) (σ : S) (Q : AVal → S → Prop) : f3 C R0  a0 a1 a2 a3 σ Q = wC C (.seq (.ops [oq 8 (.mov (.val (.bool false)))]) (.seq (.ops [oe 14 (.call 9 [(.val (.int .i64 1048576))]), oq 13 (.mov (ot 14)), oq 15 (.extract 0 (ot 13)), oq 16 (.extract 1 (ot 13)), oq 9 (.mov (ot 15)), oq 10 (.mov (ot 16))]) (.seq (.seq (.ops [oq 17 (.mov (ot 10)), oq 18 (.bin .neq .num (ot 17) (.val (.int .i64 0))), oq 19 (.mov (ot 18)), oqg 20 19 false (.mov (ot 9)), oqg 21 19 false (.bin .eql .ptr (ot 20) (.val .nptr)), oq 22 (.pick (ot 19) (.val (.bool true)) (ot 21))]) (.cond (ot 22) (.seq (.ops [oq 8 (.mov (.val (.bool false)))]) .ret) .skip)) (.seq (.seq (.ops [oq 23 (.mov (ot 1)), oq 24 (.bin .lss .num (ot 23) (.val (.int .i64 0))), oq 25 (.mov (ot 24)), oqg 26 25 false (.mov (ot 1)), oqg 27 25 false (.bin .gtr .num (ot 26) (.val (.int .i64 5000))), oq 28 (.pick (ot 25) (.val (.bool true)) (ot 27))]) (.cond (ot 28) (.ops [oq 1 (.mov (.val (.int .i64 0)))]) .skip)) R0)))) ((((E0.set 0 a0).set 1 a1).set 2 a2).set 3 a3) σ (retK f3.res Q) := by kernel_rfl
theorem f3_ent (a0 a1 a2 a3 : AVal) : enterE [a0, a1, a2, a3] (slotsN 108) E0 = some ((((E0.set 0 a0).set 1 a1).set 2 a2).set 3 a3) := by kernel_rfl
set_option maxRecDepth 20000 in
theorem f3_wf {tab : Nat → Option PFn} (ht : tab 3 = some f3.fn) {a0 a1 a2 a3 : AVal} {σ : S} {Q : AVal → S → Prop} (h : f3 (WF tab) f3.c0  a0 a1 a2 a3 σ Q) : WF tab 3 [a0, a1, a2, a3] σ Q := wFn_sound ht (wFn_code (f3_ent a0 a1 a2 a3) (Eq.mp (f3_eq (WF tab) f3.c0  a0 a1 a2 a3 σ Q) h))
/-! dray/disk.New -/
noncomputable def f9.res : List PRes := [.tmp (sn 2), .tmp (sn 3)]
noncomputable def f9.body : PC := (.seq (.ops [oq 2 (.mov (.val .nptr)), oq 3 (.mov (.val (.int .i64 0)))]) (.seq (.seq (.ops [oq 4 (.mov (ot 0)), oq 5 (.bin .lss .num (ot 4) (.val (.int .i64 0))), oq 6 (.mov (ot 5)), oqg 7 6 false (.mov (ot 0)), oqg 8 6 false (.bin .gtr .num (ot 7) (.val (.int .i64 1048576))), oq 9 (.pick (ot 6) (.val (.bool true)) (ot 8))]) (.cond (ot 9) (.seq (.ops [oq 2 (.mov (.val .nptr)), oq 3 (.mov (.val (.int .i64 1)))]) .ret) .skip)) (.seq (.ops [oq 10 (.mov (ot 0)), oe 11 (.call 35 [(ot 10)]), oq 2 (.mov (ot 11)), oq 3 (.mov (.val (.int .i64 0)))]) .ret)))
noncomputable def f9.fn : PFn := .code (slotsN 12) f9.body f9.res
noncomputable def f9 (C : CW) (a0 : AVal) (σ : S) (Q : AVal → S → Prop) : Prop :=
Som (binA .lss .num a0 (.int .i64 0)) fun t5 =>
Som (gq1 (isB t5 false) (some a0)) fun t7 =>
Som (gq1 (isB t5 false) (binA .gtr .num t7 (.int .i64 1048576))) fun t8 =>
Som (vPick t5 (.bool true) t8) fun t9 =>
WIf t9 (
Ret [some .nptr, some (.int .i64 1)] σ Q) (
C 35 [a0] σ fun t11 σ1 =>
Ret [some t11, some (.int .i64 0)] σ1 Q)
theorem f9_eq (C : CW) (a0 : AVal) (σ : S) (Q : AVal → S → Prop) : f9 C   a0 σ Q = wC C (.seq (.ops [oq 2 (.mov (.val .nptr)), oq 3 (.mov (.val (.int .i64 0)))]) (.seq (.seq (.ops [oq 4 (.mov (ot 0)), oq 5 (.bin .lss .num (ot 4) (.val (.int .i64 0))), oq 6 (.mov (ot 5)), oqg 7 6 false (.mov (ot 0)), oqg 8 6 false (.bin .gtr .num (ot 7) (.val (.int .i64 1048576))), oq 9 (.pick (ot 6) (.val (.bool true)) (ot 8))]) (.cond (ot 9) (.seq (.ops [oq 2 (.mov (.val .nptr)), oq 3 (.mov (.val (.int .i64 1)))]) .ret) .skip)) (.seq (.ops [oq 10 (.mov (ot 0)), oe 11 (.call 35 [(ot 10)]), oq 2 (.mov (ot 11)), oq 3 (.mov (.val (.int .i64 0)))]) .ret))) (E0.set 0 a0) σ (retK f9.res Q) := by kernel_rfl
theorem f9_ent (a0 : AVal) : enterE [a0] (slotsN 12) E0 = some (E0.set 0 a0) := by kernel_rfl
set_option maxRecDepth 20000 in
theorem f9_wf {tab : Nat → Option PFn} (ht : tab 9 = some f9.fn) {a0 : AVal} {σ : S} {Q : AVal → S → Prop} (h : f9 (WF tab)   a0 σ Q) : WF tab 9 [a0] σ Q := wFn_sound ht (wFn_code (f9_ent a0) (Eq.mp (f9_eq (WF tab)   a0 σ Q) h))
/-! *dray/disk.Disk.Write -/
noncomputable def f10.res : List PRes := [.tmp (sn 8)]
noncomputable def f10.body : PC := (.seq (.ops [oq 8 (.mov (.val (.int .i64 0)))]) (.seq (.seq (.ops [oq 10 (.mov (ot 0)), oe 11 (.call 36 [(ot 10)]), oq 12 (.un .not (ot 11))]) (.cond (ot 12) (.seq (.ops [oq 8 (.mov (.val (.int .i64 11)))]) .ret) .skip)) (.seq (.seq (.ops [oq 13 (.mov (ot 1)), oe 14 (.call 37 [(ot 13)]), oq 15 (.un .not (ot 14)), oq 16 (.mov (ot 15)), oqg 17 16 false (.mov (ot 2)), oqg 18 16 false (.bin .lss .num (ot 17) (.val (.int .i64 0))), oq 19 (.pick (ot 16) (.val (.bool true)) (ot 18)), oq 20 (.mov (ot 19)), oqg 21 20 false (.mov (ot 2)), oqg 22 20 false (.bin .gtr .num (ot 21) (.val (.int .i64 1048576))), oq 23 (.pick (ot 20) (.val (.bool true)) (ot 22))]) (.cond (ot 23) (.seq (.ops [oq 8 (.mov (.val (.int .i64 1)))]) .ret) .skip)) (.seq (.ops [oq 24 (.mov (ot 0)), oq 25 (.nilck (ot 24)), oq 26 (.fieldAddr 1 (ot 25)), oq 27 (.load1 (ot 26)), oq 28 (.mov (ot 1)), oq 29 (.ixSl 1 (ot 27) (ot 28)), oq 30 (.load1 (ot 29)), oq 31 (.lenSl (ot 30)), oq 9 (.mov (ot 31))]) (.seq (.seq (.draw 22 [⟨0, oq 32 (.mov (ot 2)), []⟩, ⟨1, oq 33 (.mov (ot 3)), []⟩, ⟨2, oq 34 (.lenSl (ot 33)), []⟩, ⟨3, oq 35 (.bin .add .num (ot 32) (ot 34)), []⟩, ⟨4, oq 36 (.mov (ot 9)), []⟩, ⟨5, oq 37 (.bin .gtr .num (ot 35) (ot 36)), []⟩, ⟨6, oq 38 (.mov (ot 37)), []⟩, ⟨7, oqg 39 38 true (.mov (ot 0)), []⟩, ⟨9, oqg 41 38 true (.mov (ot 9)), []⟩, ⟨11, oqg 43 38 true (.mov (ot 2)), []⟩, ⟨13, oqg 45 38 true (.mov (ot 3)), []⟩, ⟨14, oqg 46 38 true (.lenSl (ot 45)), []⟩, ⟨16, oqg 48 38 true (.mov (ot 0)), []⟩, ⟨17, oqg 49 38 true (.nilck (ot 48)), []⟩, ⟨18, oqg 50 38 true (.fieldAddr 0 (ot 49)), []⟩, ⟨19, oqg 51 38 true (.load1 (ot 50)), []⟩, ⟨8, oeg 40 38 true (.call 38 [(ot 39)]), [oqg 51 38 true (.load1 (ot 50))]⟩, ⟨10, oqg 42 38 true (.bin .sub .num (ot 40) (ot 41)), []⟩, ⟨12, oqg 44 38 true (.bin .add .num (ot 42) (ot 43)), []⟩, ⟨15, oqg 47 38 true (.bin .add .num (ot 44) (ot 46)), []⟩, ⟨20, oqg 52 38 true (.bin .gtr .num (ot 47) (ot 51)), []⟩, ⟨21, oq 53 (.pick (ot 38) (ot 52) (.val (.bool false))), []⟩]) (.cond (ot 53) (.seq (.ops [oq 8 (.mov (.val (.int .i64 10)))]) .ret) .skip)) (.seq (.draw 17 [⟨0, oq 54 (.mov (ot 0)), []⟩, ⟨1, oq 55 (.nilck (ot 54)), []⟩, ⟨2, oq 56 (.fieldAddr 1 (ot 55)), []⟩, ⟨3, oq 57 (.load1 (ot 56)), []⟩, ⟨4, oq 58 (.mov (ot 1)), []⟩, ⟨5, oq 59 (.mov (ot 0)), []⟩, ⟨6, oq 60 (.nilck (ot 59)), []⟩, ⟨7, oq 61 (.fieldAddr 1 (ot 60)), []⟩, ⟨8, oq 62 (.load1 (ot 61)), []⟩, ⟨9, oq 63 (.mov (ot 1)), []⟩, ⟨10, oq 64 (.ixSl 1 (ot 62) (ot 63)), []⟩, ⟨11, oq 65 (.load1 (ot 64)), []⟩, ⟨12, oq 66 (.mov (ot 2)), []⟩, ⟨13, oq 67 (.mov (ot 3)), []⟩, ⟨14, oe 68 (.call 39 [(ot 65), (ot 66), (ot 67)]), [oq 57 (.load1 (ot 56))]⟩, ⟨15, oq 69 (.ixSl 1 (ot 57) (ot 58)), []⟩, ⟨16, ⟨none, none, (.e (.store 1 (ot 69) (ot 68)))⟩, []⟩]) (.seq (.draw 15 [⟨0, oq 70 (.mov (ot 0)), []⟩, ⟨1, oq 71 (.mov (ot 0)), []⟩, ⟨2, oq 72 (.nilck (ot 71)), []⟩, ⟨3, oq 73 (.fieldAddr 3 (ot 72)), []⟩, ⟨4, oq 74 (.load1 (ot 73)), []⟩, ⟨5, oq 75 (.mov (ot 1)), []⟩, ⟨6, oq 76 (.mov (ot 2)), []⟩, ⟨7, oq 77 (.mov (ot 3)), []⟩, ⟨8, oe 78 (.append 1 1 (.val .nsl) (ot 77)), [oq 74 (.load1 (ot 73))]⟩, ⟨9, oq 79 (.build [(.bool false), (.int .i64 0), (.int .i64 0), .nsl] [(1, 1, (ot 75)), (2, 1, (ot 76)), (3, 1, (ot 78))]), []⟩, ⟨10, oa 80 (.bslice 4 [(.bool false), (.int .i64 0), (.int .i64 0), .nsl] 1 [(0, 4, (ot 79))]), []⟩, ⟨11, oe 81 (.append 4 48 (ot 74) (ot 80)), []⟩, ⟨12, oq 82 (.nilck (ot 70)), []⟩, ⟨13, oq 83 (.fieldAddr 3 (ot 82)), []⟩, ⟨14, ⟨none, none, (.e (.store 1 (ot 83) (ot 81)))⟩, []⟩]) (.seq (.ops [oq 8 (.mov (.val (.int .i64 0)))]) .ret))))))))
noncomputable def f10.fn : PFn := .code (slotsN 84) f10.body f10.res
noncomputable def f10 (C : CW) (a0 a1 a2 a3 : AVal) (σ : S) (Q : AVal → S → Prop) : Prop :=
C 36 [a0] σ fun t11 σ1 =>
Som (unA .not t11) fun t12 =>
WIf t12 (
Ret [some (.int .i64 11)] σ1 Q) (
C 37 [a1] σ1 fun t14 σ2 =>
Som (unA .not t14) fun t15 =>
Som (gq1 (isB t15 false) (some a2)) fun t17 =>
Som (gq1 (isB t15 false) (binA .lss .num t17 (.int .i64 0))) fun t18 =>
Som (vPick t15 (.bool true) t18) fun t19 =>
Som (gq1 (isB t19 false) (some a2)) fun t21 =>
Som (gq1 (isB t19 false) (binA .gtr .num t21 (.int .i64 1048576))) fun t22 =>
Som (vPick t19 (.bool true) t22) fun t23 =>
WIf t23 (
Ret [some (.int .i64 1)] σ2 Q) (
Som (vNilck a0) fun t25 =>
Som (vFieldAddr 1 t25) fun t26 =>
Som (vLoad1 t26 σ2) fun t27 =>
Som (vIxSl 1 t27 a1) fun t29 =>
Som (vLoad1 t29 σ2) fun t30 =>
Som (vLenSl t30) fun t31 =>
Som (vLenSl a3) fun t34 =>
Som (binA .add .num a2 t34) fun t35 =>
Som (binA .gtr .num t35 t31) fun t37 =>
Som (gq1 (isB t37 true) (some a0)) fun t39 =>
Som (gq1 (isB t37 true) (some t31)) fun t41 =>
Som (gq1 (isB t37 true) (some a2)) fun t43 =>
Som (gq1 (isB t37 true) (some a3)) fun t45 =>
Som (gq1 (isB t37 true) (vLenSl t45)) fun t46 =>
Som (gq1 (isB t37 true) (some a0)) fun t48 =>
Som (gq1 (isB t37 true) (vNilck t48)) fun t49 =>
Som (gq1 (isB t37 true) (vFieldAddr 0 t49)) fun t50 =>
Som (gq1 (isB t37 true) (vLoad1 t50 (σ2.bumpT 22))) fun t51 =>
gE1 (isB t37 true) (fun K => C 38 [t39] (σ2.bumpT 22) fun t40 σ3 => Sure ((notB (isB t37 true) || SameO (vLoad1 t50 σ3) t51)) (K t40 σ3)) (σ2.bumpT 22) fun t40 σ3 =>
Som (gq1 (isB t37 true) (binA .sub .num t40 t41)) fun t42 =>
Som (gq1 (isB t37 true) (binA .add .num t42 t43)) fun t44 =>
Som (gq1 (isB t37 true) (binA .add .num t44 t46)) fun t47 =>
Som (gq1 (isB t37 true) (binA .gtr .num t47 t51)) fun t52 =>
Som (vPick t37 t52 (.bool false)) fun t53 =>
WIf t53 (
Ret [some (.int .i64 10)] σ3 Q) (
Som (vNilck a0) fun t55 =>
Som (vFieldAddr 1 t55) fun t56 =>
Som (vLoad1 t56 (σ3.bumpT 17)) fun t57 =>
Som (vNilck a0) fun t60 =>
Som (vFieldAddr 1 t60) fun t61 =>
Som (vLoad1 t61 (σ3.bumpT 17)) fun t62 =>
Som (vIxSl 1 t62 a1) fun t64 =>
Som (vLoad1 t64 (σ3.bumpT 17)) fun t65 =>
C 39 [t65, a2, a3] (σ3.bumpT 17) fun t68 σ4 =>
Sure (SameO (vLoad1 t56 σ4) t57) <|
Som (vIxSl 1 t57 a1) fun t69 =>
Eff (storeW 1 t69 t68 σ4) fun _ σ5 =>
Som (vNilck a0) fun t72 =>
Som (vFieldAddr 3 t72) fun t73 =>
Som (vLoad1 t73 (σ5.bumpT 15)) fun t74 =>
Eff (appendA 1 1 .nsl a3 (σ5.bumpT 15)) fun t78 σ6 =>
Sure (SameO (vLoad1 t73 σ6) t74) <|
Som (vBuild [(.bool false), (.int .i64 0), (.int .i64 0), .nsl] [(1, 1, a1), (2, 1, a2), (3, 1, t78)]) fun t79 =>
Alb (aSliceV 4 [(.bool false), (.int .i64 0), (.int .i64 0), .nsl] 1 [(0, 4, t79)]) (Pos.plusT 10 σ5.next) σ6 fun t80 σ7 =>
Eff (appendA 4 48 t74 t80 σ7) fun t81 σ8 =>
Som (vNilck a0) fun t82 =>
Som (vFieldAddr 3 t82) fun t83 =>
Eff (storeW 1 t83 t81 σ8) fun _ σ9 =>
Ret [some (.int .i64 0)] σ9 Q)))
theorem f10_eq (C : CW) (a0 a1 a2 a3 : AVal) (σ : S) (Q : AVal → S → Prop) : f10 C   a0 a1 a2 a3 σ Q = wC C (.seq (.ops [oq 8 (.mov (.val (.int .i64 0)))]) (.seq (.seq (.ops [oq 10 (.mov (ot 0)), oe 11 (.call 36 [(ot 10)]), oq 12 (.un .not (ot 11))]) (.cond (ot 12) (.seq (.ops [oq 8 (.mov (.val (.int .i64 11)))]) .ret) .skip)) (.seq (.seq (.ops [oq 13 (.mov (ot 1)), oe 14 (.call 37 [(ot 13)]), oq 15 (.un .not (ot 14)), oq 16 (.mov (ot 15)), oqg 17 16 false (.mov (ot 2)), oqg 18 16 false (.bin .lss .num (ot 17) (.val (.int .i64 0))), oq 19 (.pick (ot 16) (.val (.bool true)) (ot 18)), oq 20 (.mov (ot 19)), oqg 21 20 false (.mov (ot 2)), oqg 22 20 false (.bin .gtr .num (ot 21) (.val (.int .i64 1048576))), oq 23 (.pick (ot 20) (.val (.bool true)) (ot 22))]) (.cond (ot 23) (.seq (.ops [oq 8 (.mov (.val (.int .i64 1)))]) .ret) .skip)) (.seq (.ops [oq 24 (.mov (ot 0)), oq 25 (.nilck (ot 24)), oq 26 (.fieldAddr 1 (ot 25)), oq 27 (.load1 (ot 26)), oq 28 (.mov (ot 1)), oq 29 (.ixSl 1 (ot 27) (ot 28)), oq 30 (.load1 (ot 29)), oq 31 (.lenSl (ot 30)), oq 9 (.mov (ot 31))]) (.seq (.seq (.draw 22 [⟨0, oq 32 (.mov (ot 2)), []⟩, ⟨1, oq 33 (.mov (ot 3)), []⟩, ⟨2, oq 34 (.lenSl (ot 33)), []⟩, ⟨3, oq 35 (.bin .add .num (ot 32) (ot 34)), []⟩, ⟨4, oq 36 (.mov (ot 9)), []⟩, ⟨5, oq 37 (.bin .gtr .num (ot 35) (ot 36)), []⟩, ⟨6, oq 38 (.mov (ot 37)), []⟩, ⟨7, oqg 39 38 true (.mov (ot 0)), []⟩, ⟨9, oqg 41 38 true (.mov (ot 9)), []⟩, ⟨11, oqg 43 38 true (.mov (ot 2)), []⟩, ⟨13, oqg 45 38 true (.mov (ot 3)), []⟩, ⟨14, oqg 46 38 true (.lenSl (ot 45)), []⟩, ⟨16, oqg 48 38 true (.mov (ot 0)), []⟩, ⟨17, oqg 49 38 true (.nilck (ot 48)), []⟩, ⟨18, oqg 50 38 true (.fieldAddr 0 (ot 49)), []⟩, ⟨19, oqg 51 38 true (.load1 (ot 50)), []⟩, ⟨8, oeg 40 38 true (.call 38 [(ot 39)]), [oqg 51 38 true (.load1 (ot 50))]⟩, ⟨10, oqg 42 38 true (.bin .sub .num (ot 40) (ot 41)), []⟩, ⟨12, oqg 44 38 true (.bin .add .num (ot 42) (ot 43)), []⟩, ⟨15, oqg 47 38 true (.bin .add .num (ot 44) (ot 46)), []⟩, ⟨20, oqg 52 38 true (.bin .gtr .num (ot 47) (ot 51)), []⟩, ⟨21, oq 53 (.pick (ot 38) (ot 52) (.val (.bool false))), []⟩]) (.cond (ot 53) (.seq (.ops [oq 8 (.mov (.val (.int .i64 10)))]) .ret) .skip)) (.seq (.draw 17 [⟨0, oq 54 (.mov (ot 0)), []⟩, ⟨1, oq 55 (.nilck (ot 54)), []⟩, ⟨2, oq 56 (.fieldAddr 1 (ot 55)), []⟩, ⟨3, oq 57 (.load1 (ot 56)), []⟩, ⟨4, oq 58 (.mov (ot 1)), []⟩, ⟨5, oq 59 (.mov (ot 0)), []⟩, ⟨6, oq 60 (.nilck (ot 59)), []⟩, ⟨7, oq 61 (.fieldAddr 1 (ot 60)), []⟩, ⟨8, oq 62 (.load1 (ot 61)), []⟩, ⟨9, oq 63 (.mov (ot 1)), []⟩, ⟨10, oq 64 (.ixSl 1 (ot 62) (ot 63)), []⟩, ⟨11, oq 65 (.load1 (ot 64)), []⟩, ⟨12, oq 66 (.mov (ot 2)), []⟩, ⟨13, oq 67 (.mov (ot 3)), []⟩, ⟨14, oe 68 (.call 39 [(ot 65), (ot 66), (ot 67)]), [oq 57 (.load1 (ot 56))]⟩, ⟨15, oq 69 (.ixSl 1 (ot 57) (ot 58)), []⟩, ⟨16, ⟨none, none, (.e (.store 1 (ot 69) (ot 68)))⟩, []⟩]) (.seq (.draw 15 [⟨0, oq 70 (.mov (ot 0)), []⟩, ⟨1, oq 71 (.mov (ot 0)), []⟩, ⟨2, oq 72 (.nilck (ot 71)), []⟩, ⟨3, oq 73 (.fieldAddr 3 (ot 72)), []⟩, ⟨4, oq 74 (.load1 (ot 73)), []⟩, ⟨5, oq 75 (.mov (ot 1)), []⟩, ⟨6, oq 76 (.mov (ot 2)), []⟩, ⟨7, oq 77 (.mov (ot 3)), []⟩, ⟨8, oe 78 (.append 1 1 (.val .nsl) (ot 77)), [oq 74 (.load1 (ot 73))]⟩, ⟨9, oq 79 (.build [(.bool false), (.int .i64 0), (.int .i64 0), .nsl] [(1, 1, (ot 75)), (2, 1, (ot 76)), (3, 1, (ot 78))]), []⟩, ⟨10, oa 80 (.bslice 4 [(.bool false), (.int .i64 0), (.int .i64 0), .nsl] 1 [(0, 4, (ot 79))]), []⟩, ⟨11, oe 81 (.append 4 48 (ot 74) (ot 80)), []⟩, ⟨12, oq 82 (.nilck (ot 70)), []⟩, ⟨13, oq 83 (.fieldAddr 3 (ot 82)), []⟩, ⟨14, ⟨none, none, (.e (.store 1 (ot 83) (ot 81)))⟩, []⟩]) (.seq (.ops [oq 8 (.mov (.val (.int .i64 0)))]) .ret)))))))) ((((E0.set 0 a0).set 1 a1).set 2 a2).set 3 a3) σ (retK f10.res Q) := by kernel_rfl
theorem f10_ent (a0 a1 a2 a3 : AVal) : enterE [a0, a1, a2, a3] (slotsN 84) E0 = some ((((E0.set 0 a0).set 1 a1).set 2 a2).set 3 a3) := by kernel_rfl
set_option maxRecDepth 20000 in
theorem f10_wf {tab : Nat → Option PFn} (ht : tab 10 = some f10.fn) {a0 a1 a2 a3 : AVal} {σ : S} {Q : AVal → S → Prop} (h : f10 (WF tab)   a0 a1 a2 a3 σ Q) : WF tab 10 [a0, a1, a2, a3] σ Q := wFn_sound ht (wFn_code (f10_ent a0 a1 a2 a3) (Eq.mp (f10_eq (WF tab)   a0 a1 a2 a3 σ Q) h))
/-! dray/draybook.Within -/
noncomputable def f11.res : List PRes := [.tmp (sn 6)]
noncomputable def f11.body : PC := (.seq (.ops [oq 6 (.mov (.val (.int .i64 0)))]) (.seq (.ops [oq 7 (.mov (ot 0)), oq 8 (.mov (ot 2)), oq 9 (.mov (ot 1)), oq 10 (.bin .sub .num (ot 8) (ot 9)), oq 11 (.bin .add .num (ot 10) (.val (.int .i64 1))), oq 12 (.bin .rem .num (ot 7) (ot 11)), oq 0 (.mov (ot 12))]) (.seq (.seq (.ops [oq 13 (.mov (ot 0)), oq 14 (.bin .lss .num (ot 13) (.val (.int .i64 0)))]) (.cond (ot 14) (.ops [oq 15 (.mov (ot 0)), oq 16 (.mov (ot 2)), oq 17 (.bin .add .num (ot 15) (ot 16)), oq 18 (.mov (ot 1)), oq 19 (.bin .sub .num (ot 17) (ot 18)), oq 20 (.bin .add .num (ot 19) (.val (.int .i64 1))), oq 0 (.mov (ot 20))]) .skip)) (.seq (.ops [oq 21 (.mov (ot 1)), oq 22 (.mov (ot 0)), oq 23 (.bin .add .num (ot 21) (ot 22)), oq 6 (.mov (ot 23))]) .ret))))
noncomputable def f11.fn : PFn := .code (slotsN 24) f11.body f11.res
noncomputable def f11 (C : CW) (a0 a1 a2 : AVal) (σ : S) (Q : AVal → S → Prop) : Prop :=
Som (binA .sub .num a2 a1) fun t10 =>
Som (binA .add .num t10 (.int .i64 1)) fun t11 =>
Som (binA .rem .num a0 t11) fun t12 =>
Som (binA .lss .num t12 (.int .i64 0)) fun t14 =>
WIf t14 (
Som (binA .add .num t12 a2) fun t17 =>
Som (binA .sub .num t17 a1) fun t19 =>
Som (binA .add .num t19 (.int .i64 1)) fun t20 =>
Som (binA .add .num a1 t20) fun t23 =>
Ret [some t23] σ Q) (
Som (binA .add .num a1 t12) fun t23 =>
Ret [some t23] σ Q)
theorem f11_eq (C : CW) (a0 a1 a2 : AVal) (σ : S) (Q : AVal → S → Prop) : f11 C   a0 a1 a2 σ Q = wC C (.seq (.ops [oq 6 (.mov (.val (.int .i64 0)))]) (.seq (.ops [oq 7 (.mov (ot 0)), oq 8 (.mov (ot 2)), oq 9 (.mov (ot 1)), oq 10 (.bin .sub .num (ot 8) (ot 9)), oq 11 (.bin .add .num (ot 10) (.val (.int .i64 1))), oq 12 (.bin .rem .num (ot 7) (ot 11)), oq 0 (.mov (ot 12))]) (.seq (.seq (.ops [oq 13 (.mov (ot 0)), oq 14 (.bin .lss .num (ot 13) (.val (.int .i64 0)))]) (.cond (ot 14) (.ops [oq 15 (.mov (ot 0)), oq 16 (.mov (ot 2)), oq 17 (.bin .add .num (ot 15) (ot 16)), oq 18 (.mov (ot 1)), oq 19 (.bin .sub .num (ot 17) (ot 18)), oq 20 (.bin .add .num (ot 19) (.val (.int .i64 1))), oq 0 (.mov (ot 20))]) .skip)) (.seq (.ops [oq 21 (.mov (ot 1)), oq 22 (.mov (ot 0)), oq 23 (.bin .add .num (ot 21) (ot 22)), oq 6 (.mov (ot 23))]) .ret)))) (((E0.set 0 a0).set 1 a1).set 2 a2) σ (retK f11.res Q) := by kernel_rfl
theorem f11_ent (a0 a1 a2 : AVal) : enterE [a0, a1, a2] (slotsN 24) E0 = some (((E0.set 0 a0).set 1 a1).set 2 a2) := by kernel_rfl
set_option maxRecDepth 20000 in
theorem f11_wf {tab : Nat → Option PFn} (ht : tab 11 = some f11.fn) {a0 a1 a2 : AVal} {σ : S} {Q : AVal → S → Prop} (h : f11 (WF tab)   a0 a1 a2 σ Q) : WF tab 11 [a0, a1, a2] σ Q := wFn_sound ht (wFn_code (f11_ent a0 a1 a2) (Eq.mp (f11_eq (WF tab)   a0 a1 a2 σ Q) h))
/-! dray/wal.Open -/
noncomputable def f12.c4 : PC := (.seq (.seq (.ops [oq 67 (.mov (ot 0)), oe 68 (.call 44 [(ot 67)]), oq 69 (.bin .neq .num (ot 68) (.val (.int .i64 0)))]) (.cond (ot 69) (.seq (.ops [oq 2 (.mov (.val .nptr)), oq 3 (.mov (.val (.int .i64 11)))]) .ret) .skip)) (.seq (.seq (.draw 24 [⟨0, oq 70 (.mov (ot 4)), []⟩, ⟨1, oq 71 (.nilck (ot 70)), []⟩, ⟨2, oq 72 (.fieldAddr 5 (ot 71)), []⟩, ⟨3, oq 73 (.load1 (ot 72)), []⟩, ⟨4, oq 74 (.mov (ot 4)), []⟩, ⟨5, oq 75 (.nilck (ot 74)), []⟩, ⟨6, oq 76 (.fieldAddr 6 (ot 75)), []⟩, ⟨7, oq 77 (.load1 (ot 76)), []⟩, ⟨8, oq 78 (.bin .mul .num (.val (.int .i64 2)) (ot 77)), []⟩, ⟨9, oq 79 (.bin .add .num (ot 78) (.val (.int .i64 4096))), []⟩, ⟨10, oq 80 (.bin .gtr .num (ot 73) (ot 79)), []⟩, ⟨11, oq 81 (.mov (ot 80)), []⟩, ⟨12, oqg 82 81 true (.mov (ot 4)), []⟩, ⟨13, oqg 83 81 true (.mov (ot 4)), []⟩, ⟨14, oqg 84 81 true (.nilck (ot 83)), []⟩, ⟨15, oqg 85 81 true (.fieldAddr 3 (ot 84)), []⟩, ⟨16, oqg 86 81 true (.load1 (ot 85)), []⟩, ⟨17, oqg 87 81 true (.mov (ot 4)), []⟩, ⟨18, oqg 88 81 true (.nilck (ot 87)), []⟩, ⟨19, oqg 89 81 true (.fieldAddr 4 (ot 88)), []⟩, ⟨20, oqg 90 81 true (.load1 (ot 89)), []⟩, ⟨21, oeg 91 81 true (.call 45 [(ot 82), (ot 86), (ot 90)]), []⟩, ⟨22, oqg 92 81 true (.bin .eql .num (ot 91) (.val (.int .i64 11))), []⟩, ⟨23, oq 93 (.pick (ot 81) (ot 92) (.val (.bool false))), []⟩]) (.cond (ot 93) (.seq (.ops [oq 2 (.mov (.val .nptr)), oq 3 (.mov (.val (.int .i64 11)))]) .ret) .skip)) (.seq (.ops [oq 94 (.mov (ot 4)), oq 2 (.mov (ot 94)), oq 3 (.mov (.val (.int .i64 0)))]) .ret)))
noncomputable def f12.c3 : PC := (.seq (.ops [oq 55 (.mov (ot 0)), oq 56 (.mov (ot 8)), oe 57 (.call 42 [(ot 55), (ot 56)]), oq 58 (.mov (ot 9)), oq 59 (.bin .gtr .num (ot 57) (ot 58)), oq 60 (.mov (ot 59)), oqg 61 60 true (.mov (ot 0)), oqg 62 60 true (.mov (ot 8)), oqg 63 60 true (.mov (ot 9)), oeg 64 60 true (.call 43 [(ot 61), (ot 62), (ot 63)]), oqg 65 60 true (.bin .neq .num (ot 64) (.val (.int .i64 0))), oq 66 (.pick (ot 60) (ot 65) (.val (.bool false)))]) (.cond (ot 66) (.seq (.ops [oq 2 (.mov (.val .nptr)), oq 3 (.mov (.val (.int .i64 11)))]) .ret) .skip))
noncomputable def f12.c2 : PC := (.seq (.seq (.ops [oq 41 (.mov (ot 8)), oq 42 (.bin .leq .num (ot 41) (.val (.int .i64 47)))]) (.cond (ot 42) .skip (.exit 2))) (.seq (.block 3 (.seq (.ops [oq 9 (.mov (.val (.int .i64 0)))]) (.seq (.seq (.ops [oq 45 (.mov (ot 8)), oq 46 (.mov (ot 4)), oq 47 (.nilck (ot 46)), oq 48 (.fieldAddr 1 (ot 47)), oq 49 (.load1 (ot 48)), oq 50 (.bin .eql .num (ot 45) (ot 49))]) (.cond (ot 50) (.ops [oq 51 (.mov (ot 4)), oq 52 (.nilck (ot 51)), oq 53 (.fieldAddr 5 (ot 52)), oq 54 (.load1 (ot 53)), oq 9 (.mov (ot 54))]) .skip)) f12.c3))) (.ops [oq 43 (.mov (ot 8)), oq 44 (.bin .add .num (ot 43) (.val (.int .i64 1))), oq 8 (.mov (ot 44))])))
noncomputable def f12.c1 : PC := (.seq (.seq (.ops [oq 8 (.mov (.val (.int .i64 8)))]) (.block 2 (.loop f12.c2))) f12.c4)
noncomputable def f12.c0 : PC := (.seq (.ops [oq 20 (.bin .lss .num (ot 19) (ot 18))]) (.seq (.cond (ot 20) .skip (.exit 0)) (.seq (.block 1 (.seq (.ops [oq 21 (.ixSl 1 (ot 17) (ot 19)), oq 22 (.load1 (ot 21)), oq 6 (.mov (ot 22))]) (.seq (.ops [oq 23 (.mov (ot 0)), oq 24 (.mov (ot 6)), oe 25 (.call 41 [(ot 23), (ot 24)]), oq 7 (.mov (ot 25))]) (.seq (.draw 13 [⟨0, oq 26 (.mov (ot 7)), []⟩, ⟨1, oq 27 (.bin .neq .ptr (ot 26) (.val .nptr)), []⟩, ⟨2, oq 28 (.mov (ot 27)), []⟩, ⟨3, oqg 29 28 true (.mov (ot 7)), []⟩, ⟨4, oqg 30 28 true (.nilck (ot 29)), []⟩, ⟨5, oqg 31 28 true (.fieldAddr 2 (ot 30)), []⟩, ⟨6, oqg 32 28 true (.load1 (ot 31)), []⟩, ⟨7, oqg 33 28 true (.mov (ot 4)), []⟩, ⟨8, oqg 34 28 true (.nilck (ot 33)), []⟩, ⟨9, oqg 35 28 true (.fieldAddr 2 (ot 34)), []⟩, ⟨10, oqg 36 28 true (.load1 (ot 35)), []⟩, ⟨11, oqg 37 28 true (.bin .gtr .num (ot 32) (ot 36)), []⟩, ⟨12, oq 38 (.pick (ot 28) (ot 37) (.val (.bool false))), []⟩]) (.cond (ot 38) (.ops [oq 39 (.mov (ot 7)), oq 4 (.mov (ot 39))]) .skip))))) (.ops [oq 40 (.bin .add .num (ot 19) (.val (.int .i64 1))), oq 19 (.mov (ot 40))]))))
noncomputable def f12.res : List PRes := [.tmp (sn 2), .tmp (sn 3)]
noncomputable def f12.p4 (C : CW) (Q : AVal → S → Prop) (E : En) (σ : S) : Prop :=
C 44 [(E 0)] σ fun t68 σ1 =>
Som (binA .neq .num t68 (.int .i64 0)) fun t69 =>
WIf t69 (
Ret [some .nptr, some (.int .i64 11)] σ1 Q) (
Som (vNilck (E 4)) fun t71 =>
Som (vFieldAddr 5 t71) fun t72 =>
Som (vLoad1 t72 (σ1.bumpT 24)) fun t73 =>
Som (vNilck (E 4)) fun t75 =>
Som (vFieldAddr 6 t75) fun t76 =>
Som (vLoad1 t76 (σ1.bumpT 24)) fun t77 =>
Som (binA .mul .num (.int .i64 2) t77) fun t78 =>
Som (binA .add .num t78 (.int .i64 4096)) fun t79 =>
Som (binA .gtr .num t73 t79) fun t80 =>
Som (gq1 (isB t80 true) (some (E 4))) fun t82 =>
Som (gq1 (isB t80 true) (some (E 4))) fun t83 =>
Som (gq1 (isB t80 true) (vNilck t83)) fun t84 =>
Som (gq1 (isB t80 true) (vFieldAddr 3 t84)) fun t85 =>
Som (gq1 (isB t80 true) (vLoad1 t85 (σ1.bumpT 24))) fun t86 =>
Som (gq1 (isB t80 true) (some (E 4))) fun t87 =>
Som (gq1 (isB t80 true) (vNilck t87)) fun t88 =>
Som (gq1 (isB t80 true) (vFieldAddr 4 t88)) fun t89 =>
Som (gq1 (isB t80 true) (vLoad1 t89 (σ1.bumpT 24))) fun t90 =>
gE1 (isB t80 true) (fun K => C 45 [t82, t86, t90] (σ1.bumpT 24) K) (σ1.bumpT 24) fun t91 σ2 =>
Som (gq1 (isB t80 true) (binA .eql .num t91 (.int .i64 11))) fun t92 =>
Som (vPick t80 t92 (.bool false)) fun t93 =>
WIf t93 (
Ret [some .nptr, some (.int .i64 11)] σ2 Q) (
Ret [some (E 4), some (.int .i64 0)] σ2 Q))
theorem f12.p4_eq (C : CW) (Q : AVal → S → Prop) (E : En) (σ : S) : f12.p4 C Q  E σ = wC C (.seq (.seq (.ops [oq 67 (.mov (ot 0)), oe 68 (.call 44 [(ot 67)]), oq 69 (.bin .neq .num (ot 68) (.val (.int .i64 0)))]) (.cond (ot 69) (.seq (.ops [oq 2 (.mov (.val .nptr)), oq 3 (.mov (.val (.int .i64 11)))]) .ret) .skip)) (.seq (.seq (.draw 24 [⟨0, oq 70 (.mov (ot 4)), []⟩, ⟨1, oq 71 (.nilck (ot 70)), []⟩, ⟨2, oq 72 (.fieldAddr 5 (ot 71)), []⟩, ⟨3, oq 73 (.load1 (ot 72)), []⟩, ⟨4, oq 74 (.mov (ot 4)), []⟩, ⟨5, oq 75 (.nilck (ot 74)), []⟩, ⟨6, oq 76 (.fieldAddr 6 (ot 75)), []⟩, ⟨7, oq 77 (.load1 (ot 76)), []⟩, ⟨8, oq 78 (.bin .mul .num (.val (.int .i64 2)) (ot 77)), []⟩, ⟨9, oq 79 (.bin .add .num (ot 78) (.val (.int .i64 4096))), []⟩, ⟨10, oq 80 (.bin .gtr .num (ot 73) (ot 79)), []⟩, ⟨11, oq 81 (.mov (ot 80)), []⟩, ⟨12, oqg 82 81 true (.mov (ot 4)), []⟩, ⟨13, oqg 83 81 true (.mov (ot 4)), []⟩, ⟨14, oqg 84 81 true (.nilck (ot 83)), []⟩, ⟨15, oqg 85 81 true (.fieldAddr 3 (ot 84)), []⟩, ⟨16, oqg 86 81 true (.load1 (ot 85)), []⟩, ⟨17, oqg 87 81 true (.mov (ot 4)), []⟩, ⟨18, oqg 88 81 true (.nilck (ot 87)), []⟩, ⟨19, oqg 89 81 true (.fieldAddr 4 (ot 88)), []⟩, ⟨20, oqg 90 81 true (.load1 (ot 89)), []⟩, ⟨21, oeg 91 81 true (.call 45 [(ot 82), (ot 86), (ot 90)]), []⟩, ⟨22, oqg 92 81 true (.bin .eql .num (ot 91) (.val (.int .i64 11))), []⟩, ⟨23, oq 93 (.pick (ot 81) (ot 92) (.val (.bool false))), []⟩]) (.cond (ot 93) (.seq (.ops [oq 2 (.mov (.val .nptr)), oq 3 (.mov (.val (.int .i64 11)))]) .ret) .skip)) (.seq (.ops [oq 94 (.mov (ot 4)), oq 2 (.mov (ot 94)), oq 3 (.mov (.val (.int .i64 0)))]) .ret))) E σ (retK f12.res Q) := by kernel_rfl
abbrev f12.J4 (C : CW) (Q : AVal → S → Prop) (E : En) (σ : S) : Prop := wC C f12.c4 E σ (retK f12.res Q)
set_option maxRecDepth 20000 in
theorem f12.p4_of {C : CW} {Q : AVal → S → Prop} {E : En} {σ : S} (h : f12.p4 C Q  E σ) : f12.J4 C Q E σ := Eq.mp (f12.p4_eq C Q  E σ) h
noncomputable def f12.p3 (C : CW) (Q : AVal → S → Prop) (R2 R4 : PC) (E : En) (σ : S) : Prop :=
C 42 [(E 0), (E 8)] σ fun t57 σ1 =>
Som (binA .gtr .num t57 (E 9)) fun t59 =>
Som (gq1 (isB t59 true) (some (E 0))) fun t61 =>
Som (gq1 (isB t59 true) (some (E 8))) fun t62 =>
Som (gq1 (isB t59 true) (some (E 9))) fun t63 =>
gE1 (isB t59 true) (fun K => C 43 [t61, t62, t63] σ1 K) σ1 fun t64 σ2 =>
Som (gq1 (isB t59 true) (binA .neq .num t64 (.int .i64 0))) fun t65 =>
Som (vPick t59 t65 (.bool false)) fun t66 =>
WIf t66 (
Ret [some .nptr, some (.int .i64 11)] σ2 Q) (
Som (binA .add .num (E 8) (.int .i64 1)) fun t44 =>
wC C (.loop R2) (((((((((((((((E.set 55 (E 0)).set 56 (E 8)).set 57 t57).set 58 (E 9)).set 59 t59).set 60 t59).set 61 t61).set 62 t62).set 63 t63).set 64 t64).set 65 t65).set 66 t66).set 43 (E 8)).set 44 t44).set 8 t44) σ2 (blockK 2 (seqK (wC C R4) (retK f12.res Q))))
theorem f12.p3_eq (C : CW) (Q : AVal → S → Prop) (R2 R4 : PC) (E : En) (σ : S) : f12.p3 C Q R2 R4 E σ = wC C (.seq (.ops [oq 55 (.mov (ot 0)), oq 56 (.mov (ot 8)), oe 57 (.call 42 [(ot 55), (ot 56)]), oq 58 (.mov (ot 9)), oq 59 (.bin .gtr .num (ot 57) (ot 58)), oq 60 (.mov (ot 59)), oqg 61 60 true (.mov (ot 0)), oqg 62 60 true (.mov (ot 8)), oqg 63 60 true (.mov (ot 9)), oeg 64 60 true (.call 43 [(ot 61), (ot 62), (ot 63)]), oqg 65 60 true (.bin .neq .num (ot 64) (.val (.int .i64 0))), oq 66 (.pick (ot 60) (ot 65) (.val (.bool false)))]) (.cond (ot 66) (.seq (.ops [oq 2 (.mov (.val .nptr)), oq 3 (.mov (.val (.int .i64 11)))]) .ret) .skip)) E σ (blockK 3 (seqK (wC C (.ops [oq 43 (.mov (ot 8)), oq 44 (.bin .add .num (ot 43) (.val (.int .i64 1))), oq 8 (.mov (ot 44))])) (loopK C R2 (blockK 2 (seqK (wC C R4) (retK f12.res Q)))))) := by kernel_rfl
abbrev f12.J3 (C : CW) (Q : AVal → S → Prop) (E : En) (σ : S) : Prop := wC C f12.c3 E σ (blockK 3 (seqK (wC C (.ops [oq 43 (.mov (ot 8)), oq 44 (.bin .add .num (ot 43) (.val (.int .i64 1))), oq 8 (.mov (ot 44))])) (loopK C f12.c2 (blockK 2 (seqK (wC C f12.c4) (retK f12.res Q))))))
set_option maxRecDepth 20000 in
theorem f12.p3_of {C : CW} {Q : AVal → S → Prop} {E : En} {σ : S} (h : f12.p3 C Q f12.c2 f12.c4 E σ) : f12.J3 C Q E σ := Eq.mp (f12.p3_eq C Q f12.c2 f12.c4 E σ) h
noncomputable def f12.p2 (C : CW) (Q : AVal → S → Prop) (R3 R2 R4 : PC) (E : En) (σ : S) : Prop :=
Som (binA .leq .num (E 8) (.int .i64 47)) fun t42 =>
WIf t42 (
Som (vNilck (E 4)) fun t47 =>
Som (vFieldAddr 1 t47) fun t48 =>
Som (vLoad1 t48 σ) fun t49 =>
Som (binA .eql .num (E 8) t49) fun t50 =>
WIf t50 (
Som (vNilck (E 4)) fun t52 =>
Som (vFieldAddr 5 t52) fun t53 =>
Som (vLoad1 t53 σ) fun t54 =>
wC C R3 ((((((((((((((E.set 41 (E 8)).set 42 t42).set 9 (.int .i64 0)).set 45 (E 8)).set 46 (E 4)).set 47 t47).set 48 t48).set 49 t49).set 50 t50).set 51 (E 4)).set 52 t52).set 53 t53).set 54 t54).set 9 t54) σ (blockK 3 (seqK (wC C (.ops [oq 43 (.mov (ot 8)), oq 44 (.bin .add .num (ot 43) (.val (.int .i64 1))), oq 8 (.mov (ot 44))])) (loopK C R2 (blockK 2 (seqK (wC C R4) (retK f12.res Q))))))) (
wC C R3 (((((((((E.set 41 (E 8)).set 42 t42).set 9 (.int .i64 0)).set 45 (E 8)).set 46 (E 4)).set 47 t47).set 48 t48).set 49 t49).set 50 t50) σ (blockK 3 (seqK (wC C (.ops [oq 43 (.mov (ot 8)), oq 44 (.bin .add .num (ot 43) (.val (.int .i64 1))), oq 8 (.mov (ot 44))])) (loopK C R2 (blockK 2 (seqK (wC C R4) (retK f12.res Q)))))))) (
wC C R4 ((E.set 41 (E 8)).set 42 t42) σ (retK f12.res Q))
theorem f12.p2_eq (C : CW) (Q : AVal → S → Prop) (R3 R2 R4 : PC) (E : En) (σ : S) : f12.p2 C Q R3 R2 R4 E σ = wC C (.seq (.seq (.ops [oq 41 (.mov (ot 8)), oq 42 (.bin .leq .num (ot 41) (.val (.int .i64 47)))]) (.cond (ot 42) .skip (.exit 2))) (.seq (.block 3 (.seq (.ops [oq 9 (.mov (.val (.int .i64 0)))]) (.seq (.seq (.ops [oq 45 (.mov (ot 8)), oq 46 (.mov (ot 4)), oq 47 (.nilck (ot 46)), oq 48 (.fieldAddr 1 (ot 47)), oq 49 (.load1 (ot 48)), oq 50 (.bin .eql .num (ot 45) (ot 49))]) (.cond (ot 50) (.ops [oq 51 (.mov (ot 4)), oq 52 (.nilck (ot 51)), oq 53 (.fieldAddr 5 (ot 52)), oq 54 (.load1 (ot 53)), oq 9 (.mov (ot 54))]) .skip)) R3))) (.ops [oq 43 (.mov (ot 8)), oq 44 (.bin .add .num (ot 43) (.val (.int .i64 1))), oq 8 (.mov (ot 44))]))) E σ (loopK C R2 (blockK 2 (seqK (wC C R4) (retK f12.res Q)))) := by kernel_rfl
abbrev f12.L2 (C : CW) (Q : AVal → S → Prop) (E : En) (σ : S) : Prop := wC C (.loop f12.c2) E σ (blockK 2 (seqK (wC C f12.c4) (retK f12.res Q)))
set_option maxRecDepth 20000 in
theorem f12.p2_of {tab : Nat → Option PFn} {Q : AVal → S → Prop} {E : En} {σ : S} (h : f12.p2 (WF tab) Q f12.c3 f12.c2 f12.c4 E σ) : f12.L2 (WF tab) Q E σ := wLoop_step (Eq.mp (f12.p2_eq (WF tab) Q f12.c3 f12.c2 f12.c4 E σ) h)
noncomputable def f12.p1 (C : CW) (Q : AVal → S → Prop) (R2 R4 : PC) (E : En) (σ : S) : Prop :=
wC C (.loop R2) (E.set 8 (.int .i64 8)) σ (blockK 2 (seqK (wC C R4) (retK f12.res Q)))
theorem f12.p1_eq (C : CW) (Q : AVal → S → Prop) (R2 R4 : PC) (E : En) (σ : S) : f12.p1 C Q R2 R4 E σ = wC C (.seq (.seq (.ops [oq 8 (.mov (.val (.int .i64 8)))]) (.block 2 (.loop R2))) R4) E σ (retK f12.res Q) := by kernel_rfl
abbrev f12.J1 (C : CW) (Q : AVal → S → Prop) (E : En) (σ : S) : Prop := wC C f12.c1 E σ (retK f12.res Q)
set_option maxRecDepth 20000 in
theorem f12.p1_of {C : CW} {Q : AVal → S → Prop} {E : En} {σ : S} (h : f12.p1 C Q f12.c2 f12.c4 E σ) : f12.J1 C Q E σ := Eq.mp (f12.p1_eq C Q f12.c2 f12.c4 E σ) h
noncomputable def f12.p0 (C : CW) (Q : AVal → S → Prop) (R0 R1 : PC) (E : En) (σ : S) : Prop :=
Som (binA .lss .num (E 19) (E 18)) fun t20 =>
WIf t20 (
Som (vIxSl 1 (E 17) (E 19)) fun t21 =>
Som (vLoad1 t21 σ) fun t22 =>
C 41 [(E 0), t22] σ fun t25 σ1 =>
Som (binA .neq .ptr t25 .nptr) fun t27 =>
Som (gq1 (isB t27 true) (some t25)) fun t29 =>
Som (gq1 (isB t27 true) (vNilck t29)) fun t30 =>
Som (gq1 (isB t27 true) (vFieldAddr 2 t30)) fun t31 =>
Som (gq1 (isB t27 true) (vLoad1 t31 (σ1.bumpT 13))) fun t32 =>
Som (gq1 (isB t27 true) (some (E 4))) fun t33 =>
Som (gq1 (isB t27 true) (vNilck t33)) fun t34 =>
Som (gq1 (isB t27 true) (vFieldAddr 2 t34)) fun t35 =>
Som (gq1 (isB t27 true) (vLoad1 t35 (σ1.bumpT 13))) fun t36 =>
Som (gq1 (isB t27 true) (binA .gtr .num t32 t36)) fun t37 =>
Som (vPick t27 t37 (.bool false)) fun t38 =>
WIf t38 (
Som (binA .add .num (E 19) (.int .i64 1)) fun t40 =>
wC C (.loop R0) (((((((((((((((((((((((((E.set 20 t20).set 21 t21).set 22 t22).set 6 t22).set 23 (E 0)).set 24 t22).set 25 t25).set 7 t25).set 26 t25).set 27 t27).set 28 t27).set 29 t29).set 30 t30).set 31 t31).set 32 t32).set 33 t33).set 34 t34).set 35 t35).set 36 t36).set 37 t37).set 38 t38).set 39 t25).set 4 t25).set 40 t40).set 19 t40) (σ1.bumpT 13) (blockK 0 (seqK (wC C R1) (retK f12.res Q)))) (
Som (binA .add .num (E 19) (.int .i64 1)) fun t40 =>
wC C (.loop R0) (((((((((((((((((((((((E.set 20 t20).set 21 t21).set 22 t22).set 6 t22).set 23 (E 0)).set 24 t22).set 25 t25).set 7 t25).set 26 t25).set 27 t27).set 28 t27).set 29 t29).set 30 t30).set 31 t31).set 32 t32).set 33 t33).set 34 t34).set 35 t35).set 36 t36).set 37 t37).set 38 t38).set 40 t40).set 19 t40) (σ1.bumpT 13) (blockK 0 (seqK (wC C R1) (retK f12.res Q))))) (
wC C R1 (E.set 20 t20) σ (retK f12.res Q))
theorem f12.p0_eq (C : CW) (Q : AVal → S → Prop) (R0 R1 : PC) (E : En) (σ : S) : f12.p0 C Q R0 R1 E σ = wC C (.seq (.ops [oq 20 (.bin .lss .num (ot 19) (ot 18))]) (.seq (.cond (ot 20) .skip (.exit 0)) (.seq (.block 1 (.seq (.ops [oq 21 (.ixSl 1 (ot 17) (ot 19)), oq 22 (.load1 (ot 21)), oq 6 (.mov (ot 22))]) (.seq (.ops [oq 23 (.mov (ot 0)), oq 24 (.mov (ot 6)), oe 25 (.call 41 [(ot 23), (ot 24)]), oq 7 (.mov (ot 25))]) (.seq (.draw 13 [⟨0, oq 26 (.mov (ot 7)), []⟩, ⟨1, oq 27 (.bin .neq .ptr (ot 26) (.val .nptr)), []⟩, ⟨2, oq 28 (.mov (ot 27)), []⟩, ⟨3, oqg 29 28 true (.mov (ot 7)), []⟩, ⟨4, oqg 30 28 true (.nilck (ot 29)), []⟩, ⟨5, oqg 31 28 true (.fieldAddr 2 (ot 30)), []⟩, ⟨6, oqg 32 28 true (.load1 (ot 31)), []⟩, ⟨7, oqg 33 28 true (.mov (ot 4)), []⟩, ⟨8, oqg 34 28 true (.nilck (ot 33)), []⟩, ⟨9, oqg 35 28 true (.fieldAddr 2 (ot 34)), []⟩, ⟨10, oqg 36 28 true (.load1 (ot 35)), []⟩, ⟨11, oqg 37 28 true (.bin .gtr .num (ot 32) (ot 36)), []⟩, ⟨12, oq 38 (.pick (ot 28) (ot 37) (.val (.bool false))), []⟩]) (.cond (ot 38) (.ops [oq 39 (.mov (ot 7)), oq 4 (.mov (ot 39))]) .skip))))) (.ops [oq 40 (.bin .add .num (ot 19) (.val (.int .i64 1))), oq 19 (.mov (ot 40))])))) E σ (loopK C R0 (blockK 0 (seqK (wC C R1) (retK f12.res Q)))) := by kernel_rfl
abbrev f12.L0 (C : CW) (Q : AVal → S → Prop) (E : En) (σ : S) : Prop := wC C (.loop f12.c0) E σ (blockK 0 (seqK (wC C f12.c1) (retK f12.res Q)))
set_option maxRecDepth 20000 in
theorem f12.p0_of {tab : Nat → Option PFn} {Q : AVal → S → Prop} {E : En} {σ : S} (h : f12.p0 (WF tab) Q f12.c0 f12.c1 E σ) : f12.L0 (WF tab) Q E σ := wLoop_step (Eq.mp (f12.p0_eq (WF tab) Q f12.c0 f12.c1 E σ) h)
noncomputable def f12.body : PC := (.seq (.ops [oq 2 (.mov (.val .nptr)), oq 3 (.mov (.val (.int .i64 0)))]) (.seq (.seq (.ops [oq 10 (.mov (ot 0)), oq 11 (.bin .eql .ptr (ot 10) (.val .nptr))]) (.cond (ot 11) (.seq (.ops [oq 2 (.mov (.val .nptr)), oq 3 (.mov (.val (.int .i64 1)))]) .ret) .skip)) (.seq (.seq (.ops [oq 12 (.mov (ot 0)), oe 13 (.call 40 [(ot 12)])]) (.cond (ot 13) (.seq (.ops [oq 2 (.mov (.val .nptr)), oq 3 (.mov (.val (.int .i64 11)))]) .ret) .skip)) (.seq (.ops [oq 14 (.mov (ot 0)), oq 15 (.build [.nptr, (.int .i64 0), (.int .i64 0), (.int .i64 0), .nsl, (.int .i64 0), (.int .i64 0)] [(0, 1, (ot 14)), (1, 1, (.val (.int .i64 8))), (3, 1, (.val (.int .i64 1)))]), oa 16 (.box (ot 15)), oq 4 (.mov (ot 16))]) (.seq (.seq (.ops [oa 17 (.bslice 1 [(.int .i64 0)] 2 [(0, 1, (.val (.int .i64 8))), (1, 1, (.val (.int .i64 9)))]), oq 18 (.lenSl (ot 17)), oq 19 (.mov (.val (.int .i64 0)))]) (.block 0 (.loop f12.c0))) f12.c1)))))
noncomputable def f12.fn : PFn := .code (slotsN 95) f12.body f12.res
noncomputable def f12 (C : CW) (R0 R1 : PC) (a0 : AVal) (σ : S) (Q : AVal → S → Prop) : Prop :=
Som (binA .eql .ptr a0 .nptr) fun t11 =>
WIf t11 (
Ret [some .nptr, some (.int .i64 1)] σ Q) (
C 40 [a0] σ fun t13 σ1 =>
WIf t13 (
Ret [some .nptr, some (.int .i64 11)] σ1 Q) (
Som (vBuild [.nptr, (.int .i64 0), (.int .i64 0), (.int .i64 0), .nsl, (.int .i64 0), (.int .i64 0)] [(0, 1, a0), (1, 1, (.int .i64 8)), (3, 1, (.int .i64 1))]) fun t15 =>
Ala (aBoxV t15) σ1 fun t16 σ2 =>
Ala (aSliceV 1 [(.int .i64 0)] 2 [(0, 1, (.int .i64 8)), (1, 1, (.int .i64 9))]) σ2 fun t17 σ3 =>
Som (vLenSl t17) fun t18 =>
wC C (.loop R0) ((((((((((((((E0.set 0 a0).set 2 .nptr).set 3 (.int .i64 0)).set 10 a0).set 11 t11).set 12 a0).set 13 t13).set 14 a0).set 15 t15).set 16 t16).set 4 t16).set 17 t17).set 18 t18).set 19 (.int .i64 0)) σ3 (blockK 0 (seqK (wC C R1) (retK f12.res Q)))))
theorem f12_eq (C : CW) (R0 R1 : PC) (a0 : AVal) (σ : S) (Q : AVal → S → Prop) : f12 C R0 R1  a0 σ Q = wC C (.seq (.ops [oq 2 (.mov (.val .nptr)), oq 3 (.mov (.val (.int .i64 0)))]) (.seq (.seq (.ops [oq 10 (.mov (ot 0)), oq 11 (.bin .eql .ptr (ot 10) (.val .nptr))]) (.cond (ot 11) (.seq (.ops [oq 2 (.mov (.val .nptr)), oq 3 (.mov (.val (.int .i64 1)))]) .ret) .skip)) (.seq (.seq (.ops [oq 12 (.mov (ot 0)), oe 13 (.call 40 [(ot 12)])]) (.cond (ot 13) (.seq (.ops [oq 2 (.mov (.val .nptr)), oq 3 (.mov (.val (.int .i64 11)))]) .ret) .skip)) (.seq (.ops [oq 14 (.mov (ot 0)), oq 15 (.build [.nptr, (.int .i64 0), (.int .i64 0), (.int .i64 0), .nsl, (.int .i64 0), (.int .i64 0)] [(0, 1, (ot 14)), (1, 1, (.val (.int .i64 8))), (3, 1, (.val (.int .i64 1)))]), oa 16 (.box (ot 15)), oq 4 (.mov (ot 16))]) (.seq (.seq (.ops [oa 17 (.bslice 1 [(.int .i64 0)] 2 [(0, 1, (.val (.int .i64 8))), (1, 1, (.val (.int .i64 9)))]), oq 18 (.lenSl (ot 17)), oq 19 (.mov (.val (.int .i64 0)))]) (.block 0 (.loop R0))) R1))))) (E0.set 0 a0) σ (retK f12.res Q) := by kernel_rfl
theorem f12_ent (a0 : AVal) : enterE [a0] (slotsN 95) E0 = some (E0.set 0 a0) := by kernel_rfl
set_option maxRecDepth 20000 in
theorem f12_wf {tab : Nat → Option PFn} (ht : tab 12 = some f12.fn) {a0 : AVal} {σ : S} {Q : AVal → S → Prop} (h : f12 (WF tab) f12.c0 f12.c1  a0 σ Q) : WF tab 12 [a0] σ Q := wFn_sound ht (wFn_code (f12_ent a0) (Eq.mp (f12_eq (WF tab) f12.c0 f12.c1  a0 σ Q) h))
/-! *dray/wal.Log.First -/
noncomputable def f14.res : List PRes := [.tmp (sn 2)]
noncomputable def f14.body : PC := (.seq (.ops [oq 2 (.mov (.val (.int .i64 0)))]) (.seq (.ops [oq 3 (.mov (ot 0)), oq 4 (.nilck (ot 3)), oq 5 (.fieldAddr 3 (ot 4)), oq 6 (.load1 (ot 5)), oq 2 (.mov (ot 6))]) .ret))
noncomputable def f14.fn : PFn := .code (slotsN 7) f14.body f14.res
noncomputable def f14 (C : CW) (a0 : AVal) (σ : S) (Q : AVal → S → Prop) : Prop :=
Som (vNilck a0) fun t4 =>
Som (vFieldAddr 3 t4) fun t5 =>
Som (vLoad1 t5 σ) fun t6 =>
Ret [some t6] σ Q
theorem f14_eq (C : CW) (a0 : AVal) (σ : S) (Q : AVal → S → Prop) : f14 C   a0 σ Q = wC C (.seq (.ops [oq 2 (.mov (.val (.int .i64 0)))]) (.seq (.ops [oq 3 (.mov (ot 0)), oq 4 (.nilck (ot 3)), oq 5 (.fieldAddr 3 (ot 4)), oq 6 (.load1 (ot 5)), oq 2 (.mov (ot 6))]) .ret)) (E0.set 0 a0) σ (retK f14.res Q) := by kernel_rfl
theorem f14_ent (a0 : AVal) : enterE [a0] (slotsN 7) E0 = some (E0.set 0 a0) := by kernel_rfl
set_option maxRecDepth 20000 in
theorem f14_wf {tab : Nat → Option PFn} (ht : tab 14 = some f14.fn) {a0 : AVal} {σ : S} {Q : AVal → S → Prop} (h : f14 (WF tab)   a0 σ Q) : WF tab 14 [a0] σ Q := wFn_sound ht (wFn_code (f14_ent a0) (Eq.mp (f14_eq (WF tab)   a0 σ Q) h))
/-! *dray/wal.Log.Last -/
noncomputable def f15.res : List PRes := [.tmp (sn 2)]
noncomputable def f15.body : PC := (.seq (.ops [oq 2 (.mov (.val (.int .i64 0)))]) (.seq (.draw 12 [⟨0, oq 3 (.mov (ot 0)), []⟩, ⟨1, oq 4 (.nilck (ot 3)), []⟩, ⟨2, oq 5 (.fieldAddr 3 (ot 4)), []⟩, ⟨3, oq 6 (.load1 (ot 5)), []⟩, ⟨4, oq 7 (.mov (ot 0)), []⟩, ⟨5, oq 8 (.nilck (ot 7)), []⟩, ⟨6, oq 9 (.fieldAddr 4 (ot 8)), []⟩, ⟨7, oq 10 (.load1 (ot 9)), []⟩, ⟨8, oq 11 (.lenSl (ot 10)), []⟩, ⟨9, oq 12 (.bin .add .num (ot 6) (ot 11)), []⟩, ⟨10, oq 13 (.bin .sub .num (ot 12) (.val (.int .i64 1))), []⟩, ⟨11, oq 2 (.mov (ot 13)), []⟩]) .ret))
noncomputable def f15.fn : PFn := .code (slotsN 14) f15.body f15.res
noncomputable def f15 (C : CW) (a0 : AVal) (σ : S) (Q : AVal → S → Prop) : Prop :=
Som (vNilck a0) fun t4 =>
Som (vFieldAddr 3 t4) fun t5 =>
Som (vLoad1 t5 (σ.bumpT 12)) fun t6 =>
Som (vNilck a0) fun t8 =>
Som (vFieldAddr 4 t8) fun t9 =>
Som (vLoad1 t9 (σ.bumpT 12)) fun t10 =>
Som (vLenSl t10) fun t11 =>
Som (binA .add .num t6 t11) fun t12 =>
Som (binA .sub .num t12 (.int .i64 1)) fun t13 =>
Ret [some t13] (σ.bumpT 12) Q
theorem f15_eq (C : CW) (a0 : AVal) (σ : S) (Q : AVal → S → Prop) : f15 C   a0 σ Q = wC C (.seq (.ops [oq 2 (.mov (.val (.int .i64 0)))]) (.seq (.draw 12 [⟨0, oq 3 (.mov (ot 0)), []⟩, ⟨1, oq 4 (.nilck (ot 3)), []⟩, ⟨2, oq 5 (.fieldAddr 3 (ot 4)), []⟩, ⟨3, oq 6 (.load1 (ot 5)), []⟩, ⟨4, oq 7 (.mov (ot 0)), []⟩, ⟨5, oq 8 (.nilck (ot 7)), []⟩, ⟨6, oq 9 (.fieldAddr 4 (ot 8)), []⟩, ⟨7, oq 10 (.load1 (ot 9)), []⟩, ⟨8, oq 11 (.lenSl (ot 10)), []⟩, ⟨9, oq 12 (.bin .add .num (ot 6) (ot 11)), []⟩, ⟨10, oq 13 (.bin .sub .num (ot 12) (.val (.int .i64 1))), []⟩, ⟨11, oq 2 (.mov (ot 13)), []⟩]) .ret)) (E0.set 0 a0) σ (retK f15.res Q) := by kernel_rfl
theorem f15_ent (a0 : AVal) : enterE [a0] (slotsN 14) E0 = some (E0.set 0 a0) := by kernel_rfl
set_option maxRecDepth 20000 in
theorem f15_wf {tab : Nat → Option PFn} (ht : tab 15 = some f15.fn) {a0 : AVal} {σ : S} {Q : AVal → S → Prop} (h : f15 (WF tab)   a0 σ Q) : WF tab 15 [a0] σ Q := wFn_sound ht (wFn_code (f15_ent a0) (Eq.mp (f15_eq (WF tab)   a0 σ Q) h))
/-! *dray/wal.Log.Get -/
noncomputable def f16.res : List PRes := [.tmp (sn 4), .tmp (sn 5)]
noncomputable def f16.body : PC := (.seq (.ops [oq 4 (.mov (.val (.str []))), oq 5 (.mov (.val (.bool false)))]) (.seq (.seq (.ops [oq 6 (.mov (ot 1)), oq 7 (.mov (ot 0)), oq 8 (.nilck (ot 7)), oq 9 (.fieldAddr 3 (ot 8)), oq 10 (.load1 (ot 9)), oq 11 (.bin .lss .num (ot 6) (ot 10)), oq 12 (.mov (ot 11)), oqg 13 12 false (.mov (ot 1)), oqg 14 12 false (.mov (ot 0)), oeg 15 12 false (.call 15 [(ot 14)]), oqg 16 12 false (.bin .gtr .num (ot 13) (ot 15)), oq 17 (.pick (ot 12) (.val (.bool true)) (ot 16))]) (.cond (ot 17) (.seq (.ops [oq 4 (.mov (.val (.str []))), oq 5 (.mov (.val (.bool false)))]) .ret) .skip)) (.seq (.draw 14 [⟨0, oq 18 (.mov (ot 0)), []⟩, ⟨1, oq 19 (.nilck (ot 18)), []⟩, ⟨2, oq 20 (.fieldAddr 4 (ot 19)), []⟩, ⟨3, oq 21 (.load1 (ot 20)), []⟩, ⟨4, oq 22 (.mov (ot 1)), []⟩, ⟨5, oq 23 (.mov (ot 0)), []⟩, ⟨6, oq 24 (.nilck (ot 23)), []⟩, ⟨7, oq 25 (.fieldAddr 3 (ot 24)), []⟩, ⟨8, oq 26 (.load1 (ot 25)), []⟩, ⟨9, oq 27 (.bin .sub .num (ot 22) (ot 26)), []⟩, ⟨10, oq 28 (.ixSl 1 (ot 21) (ot 27)), []⟩, ⟨11, oq 29 (.load1 (ot 28)), []⟩, ⟨12, oq 4 (.mov (ot 29)), []⟩, ⟨13, oq 5 (.mov (.val (.bool true))), []⟩]) .ret)))
noncomputable def f16.fn : PFn := .code (slotsN 30) f16.body f16.res
noncomputable def f16 (C : CW) (a0 a1 : AVal) (σ : S) (Q : AVal → S → Prop) : Prop :=
Som (vNilck a0) fun t8 =>
Som (vFieldAddr 3 t8) fun t9 =>
Som (vLoad1 t9 σ) fun t10 =>
Som (binA .lss .num a1 t10) fun t11 =>
Som (gq1 (isB t11 false) (some a1)) fun t13 =>
Som (gq1 (isB t11 false) (some a0)) fun t14 =>
gE1 (isB t11 false) (fun K => C 15 [t14] σ K) σ fun t15 σ1 =>
Som (gq1 (isB t11 false) (binA .gtr .num t13 t15)) fun t16 =>
Som (vPick t11 (.bool true) t16) fun t17 =>
WIf t17 (
Ret [some (.str []), some (.bool false)] σ1 Q) (
Som (vNilck a0) fun t19 =>
Som (vFieldAddr 4 t19) fun t20 =>
Som (vLoad1 t20 (σ1.bumpT 14)) fun t21 =>
Som (vNilck a0) fun t24 =>
Som (vFieldAddr 3 t24) fun t25 =>
Som (vLoad1 t25 (σ1.bumpT 14)) fun t26 =>
Som (binA .sub .num a1 t26) fun t27 =>
Som (vIxSl 1 t21 t27) fun t28 =>
Som (vLoad1 t28 (σ1.bumpT 14)) fun t29 =>
Ret [some t29, some (.bool true)] (σ1.bumpT 14) Q)
theorem f16_eq (C : CW) (a0 a1 : AVal) (σ : S) (Q : AVal → S → Prop) : f16 C   a0 a1 σ Q = wC C (.seq (.ops [oq 4 (.mov (.val (.str []))), oq 5 (.mov (.val (.bool false)))]) (.seq (.seq (.ops [oq 6 (.mov (ot 1)), oq 7 (.mov (ot 0)), oq 8 (.nilck (ot 7)), oq 9 (.fieldAddr 3 (ot 8)), oq 10 (.load1 (ot 9)), oq 11 (.bin .lss .num (ot 6) (ot 10)), oq 12 (.mov (ot 11)), oqg 13 12 false (.mov (ot 1)), oqg 14 12 false (.mov (ot 0)), oeg 15 12 false (.call 15 [(ot 14)]), oqg 16 12 false (.bin .gtr .num (ot 13) (ot 15)), oq 17 (.pick (ot 12) (.val (.bool true)) (ot 16))]) (.cond (ot 17) (.seq (.ops [oq 4 (.mov (.val (.str []))), oq 5 (.mov (.val (.bool false)))]) .ret) .skip)) (.seq (.draw 14 [⟨0, oq 18 (.mov (ot 0)), []⟩, ⟨1, oq 19 (.nilck (ot 18)), []⟩, ⟨2, oq 20 (.fieldAddr 4 (ot 19)), []⟩, ⟨3, oq 21 (.load1 (ot 20)), []⟩, ⟨4, oq 22 (.mov (ot 1)), []⟩, ⟨5, oq 23 (.mov (ot 0)), []⟩, ⟨6, oq 24 (.nilck (ot 23)), []⟩, ⟨7, oq 25 (.fieldAddr 3 (ot 24)), []⟩, ⟨8, oq 26 (.load1 (ot 25)), []⟩, ⟨9, oq 27 (.bin .sub .num (ot 22) (ot 26)), []⟩, ⟨10, oq 28 (.ixSl 1 (ot 21) (ot 27)), []⟩, ⟨11, oq 29 (.load1 (ot 28)), []⟩, ⟨12, oq 4 (.mov (ot 29)), []⟩, ⟨13, oq 5 (.mov (.val (.bool true))), []⟩]) .ret))) ((E0.set 0 a0).set 1 a1) σ (retK f16.res Q) := by kernel_rfl
theorem f16_ent (a0 a1 : AVal) : enterE [a0, a1] (slotsN 30) E0 = some ((E0.set 0 a0).set 1 a1) := by kernel_rfl
set_option maxRecDepth 20000 in
theorem f16_wf {tab : Nat → Option PFn} (ht : tab 16 = some f16.fn) {a0 a1 : AVal} {σ : S} {Q : AVal → S → Prop} (h : f16 (WF tab)   a0 a1 σ Q) : WF tab 16 [a0, a1] σ Q := wFn_sound ht (wFn_code (f16_ent a0 a1) (Eq.mp (f16_eq (WF tab)   a0 a1 σ Q) h))
/-! *dray/wal.Log.Cut -/
noncomputable def f17.res : List PRes := [.tmp (sn 4)]
noncomputable def f17.body : PC := (.seq (.ops [oq 4 (.mov (.val (.int .i64 0)))]) (.seq (.seq (.ops [oq 5 (.mov (ot 1)), oq 6 (.mov (ot 0)), oq 7 (.nilck (ot 6)), oq 8 (.fieldAddr 3 (ot 7)), oq 9 (.load1 (ot 8)), oq 10 (.bin .lss .num (ot 5) (ot 9)), oq 11 (.mov (ot 10)), oqg 12 11 false (.mov (ot 1)), oqg 13 11 false (.mov (ot 0)), oeg 14 11 false (.call 15 [(ot 13)]), oqg 15 11 false (.bin .add .num (ot 14) (.val (.int .i64 1))), oqg 16 11 false (.bin .gtr .num (ot 12) (ot 15)), oq 17 (.pick (ot 11) (.val (.bool true)) (ot 16))]) (.cond (ot 17) (.seq (.ops [oq 4 (.mov (.val (.int .i64 1)))]) .ret) .skip)) (.seq (.seq (.ops [oq 18 (.mov (ot 0)), oq 19 (.nilck (ot 18)), oq 20 (.fieldAddr 0 (ot 19)), oq 21 (.load1 (ot 20)), oe 22 (.call 40 [(ot 21)])]) (.cond (ot 22) (.seq (.ops [oq 4 (.mov (.val (.int .i64 11)))]) .ret) .skip)) (.seq (.seq (.ops [oq 23 (.mov (ot 1)), oq 24 (.mov (ot 0)), oe 25 (.call 15 [(ot 24)]), oq 26 (.bin .add .num (ot 25) (.val (.int .i64 1))), oq 27 (.bin .eql .num (ot 23) (ot 26))]) (.cond (ot 27) (.seq (.ops [oq 4 (.mov (.val (.int .i64 0)))]) .ret) .skip)) (.seq (.draw 19 [⟨0, oq 28 (.mov (ot 0)), []⟩, ⟨1, oq 29 (.mov (ot 1)), []⟩, ⟨2, oq 30 (.mov (ot 0)), []⟩, ⟨3, oq 31 (.nilck (ot 30)), []⟩, ⟨4, oq 32 (.fieldAddr 3 (ot 31)), []⟩, ⟨5, oq 33 (.load1 (ot 32)), []⟩, ⟨6, oq 34 (.mov (ot 0)), []⟩, ⟨7, oq 35 (.nilck (ot 34)), []⟩, ⟨8, oq 36 (.fieldAddr 4 (ot 35)), []⟩, ⟨9, oq 37 (.load1 (ot 36)), []⟩, ⟨10, oq 38 (.mov (ot 1)), []⟩, ⟨11, oq 39 (.mov (ot 0)), []⟩, ⟨12, oq 40 (.nilck (ot 39)), []⟩, ⟨13, oq 41 (.fieldAddr 3 (ot 40)), []⟩, ⟨14, oq 42 (.load1 (ot 41)), []⟩, ⟨15, oq 43 (.bin .sub .num (ot 38) (ot 42)), []⟩, ⟨16, oq 44 (.slSl 1 (ot 37) none (some (ot 43)) none), []⟩, ⟨17, oe 45 (.call 47 [(ot 28), (.val (.int .i64 2)), (ot 29), (ot 33), (ot 44)]), []⟩, ⟨18, oq 4 (.mov (ot 45)), []⟩]) .ret)))))
noncomputable def f17.fn : PFn := .code (slotsN 46) f17.body f17.res
noncomputable def f17 (C : CW) (a0 a1 : AVal) (σ : S) (Q : AVal → S → Prop) : Prop :=
Som (vNilck a0) fun t7 =>
Som (vFieldAddr 3 t7) fun t8 =>
Som (vLoad1 t8 σ) fun t9 =>
Som (binA .lss .num a1 t9) fun t10 =>
Som (gq1 (isB t10 false) (some a1)) fun t12 =>
Som (gq1 (isB t10 false) (some a0)) fun t13 =>
gE1 (isB t10 false) (fun K => C 15 [t13] σ K) σ fun t14 σ1 =>
Som (gq1 (isB t10 false) (binA .add .num t14 (.int .i64 1))) fun t15 =>
Som (gq1 (isB t10 false) (binA .gtr .num t12 t15)) fun t16 =>
Som (vPick t10 (.bool true) t16) fun t17 =>
WIf t17 (
Ret [some (.int .i64 1)] σ1 Q) (
Som (vNilck a0) fun t19 =>
Som (vFieldAddr 0 t19) fun t20 =>
Som (vLoad1 t20 σ1) fun t21 =>
C 40 [t21] σ1 fun t22 σ2 =>
WIf t22 (
Ret [some (.int .i64 11)] σ2 Q) (
C 15 [a0] σ2 fun t25 σ3 =>
Som (binA .add .num t25 (.int .i64 1)) fun t26 =>
Som (binA .eql .num a1 t26) fun t27 =>
WIf t27 (
Ret [some (.int .i64 0)] σ3 Q) (
Som (vNilck a0) fun t31 =>
Som (vFieldAddr 3 t31) fun t32 =>
Som (vLoad1 t32 (σ3.bumpT 19)) fun t33 =>
Som (vNilck a0) fun t35 =>
Som (vFieldAddr 4 t35) fun t36 =>
Som (vLoad1 t36 (σ3.bumpT 19)) fun t37 =>
Som (vNilck a0) fun t40 =>
Som (vFieldAddr 3 t40) fun t41 =>
Som (vLoad1 t41 (σ3.bumpT 19)) fun t42 =>
Som (binA .sub .num a1 t42) fun t43 =>
Som (vSlSl 1 t37 none (some t43) none) fun t44 =>
C 47 [a0, (.int .i64 2), a1, t33, t44] (σ3.bumpT 19) fun t45 σ4 =>
Ret [some t45] σ4 Q)))
theorem f17_eq (C : CW) (a0 a1 : AVal) (σ : S) (Q : AVal → S → Prop) : f17 C   a0 a1 σ Q = wC C (.seq (.ops [oq 4 (.mov (.val (.int .i64 0)))]) (.seq (.seq (.ops [oq 5 (.mov (ot 1)), oq 6 (.mov (ot 0)), oq 7 (.nilck (ot 6)), oq 8 (.fieldAddr 3 (ot 7)), oq 9 (.load1 (ot 8)), oq 10 (.bin .lss .num (ot 5) (ot 9)), oq 11 (.mov (ot 10)), oqg 12 11 false (.mov (ot 1)), oqg 13 11 false (.mov (ot 0)), oeg 14 11 false (.call 15 [(ot 13)]), oqg 15 11 false (.bin .add .num (ot 14) (.val (.int .i64 1))), oqg 16 11 false (.bin .gtr .num (ot 12) (ot 15)), oq 17 (.pick (ot 11) (.val (.bool true)) (ot 16))]) (.cond (ot 17) (.seq (.ops [oq 4 (.mov (.val (.int .i64 1)))]) .ret) .skip)) (.seq (.seq (.ops [oq 18 (.mov (ot 0)), oq 19 (.nilck (ot 18)), oq 20 (.fieldAddr 0 (ot 19)), oq 21 (.load1 (ot 20)), oe 22 (.call 40 [(ot 21)])]) (.cond (ot 22) (.seq (.ops [oq 4 (.mov (.val (.int .i64 11)))]) .ret) .skip)) (.seq (.seq (.ops [oq 23 (.mov (ot 1)), oq 24 (.mov (ot 0)), oe 25 (.call 15 [(ot 24)]), oq 26 (.bin .add .num (ot 25) (.val (.int .i64 1))), oq 27 (.bin .eql .num (ot 23) (ot 26))]) (.cond (ot 27) (.seq (.ops [oq 4 (.mov (.val (.int .i64 0)))]) .ret) .skip)) (.seq (.draw 19 [⟨0, oq 28 (.mov (ot 0)), []⟩, ⟨1, oq 29 (.mov (ot 1)), []⟩, ⟨2, oq 30 (.mov (ot 0)), []⟩, ⟨3, oq 31 (.nilck (ot 30)), []⟩, ⟨4, oq 32 (.fieldAddr 3 (ot 31)), []⟩, ⟨5, oq 33 (.load1 (ot 32)), []⟩, ⟨6, oq 34 (.mov (ot 0)), []⟩, ⟨7, oq 35 (.nilck (ot 34)), []⟩, ⟨8, oq 36 (.fieldAddr 4 (ot 35)), []⟩, ⟨9, oq 37 (.load1 (ot 36)), []⟩, ⟨10, oq 38 (.mov (ot 1)), []⟩, ⟨11, oq 39 (.mov (ot 0)), []⟩, ⟨12, oq 40 (.nilck (ot 39)), []⟩, ⟨13, oq 41 (.fieldAddr 3 (ot 40)), []⟩, ⟨14, oq 42 (.load1 (ot 41)), []⟩, ⟨15, oq 43 (.bin .sub .num (ot 38) (ot 42)), []⟩, ⟨16, oq 44 (.slSl 1 (ot 37) none (some (ot 43)) none), []⟩, ⟨17, oe 45 (.call 47 [(ot 28), (.val (.int .i64 2)), (ot 29), (ot 33), (ot 44)]), []⟩, ⟨18, oq 4 (.mov (ot 45)), []⟩]) .ret))))) ((E0.set 0 a0).set 1 a1) σ (retK f17.res Q) := by kernel_rfl
theorem f17_ent (a0 a1 : AVal) : enterE [a0, a1] (slotsN 46) E0 = some ((E0.set 0 a0).set 1 a1) := by kernel_rfl
set_option maxRecDepth 20000 in
theorem f17_wf {tab : Nat → Option PFn} (ht : tab 17 = some f17.fn) {a0 a1 : AVal} {σ : S} {Q : AVal → S → Prop} (h : f17 (WF tab)   a0 a1 σ Q) : WF tab 17 [a0, a1] σ Q := wFn_sound ht (wFn_code (f17_ent a0 a1) (Eq.mp (f17_eq (WF tab)   a0 a1 σ Q) h))
/-! *dray/wal.Log.Append -/
noncomputable def f18.c4 : PC := (.seq (.ops [oq 92 (.bin .lss .num (ot 91) (ot 90))]) (.seq (.cond (ot 92) .skip (.exit 4)) (.seq (.block 5 (.seq (.ops [oq 93 (.mov (ot 91)), oq 94 (.ixSl 1 (ot 89) (ot 91)), oq 95 (.load1 (ot 94)), oq 13 (.mov (ot 93)), oq 14 (.mov (ot 95))]) (.ops [oq 96 (.mov (ot 0)), oq 97 (.mov (ot 1)), oq 98 (.mov (ot 13)), oq 99 (.bin .add .num (ot 97) (ot 98)), oq 100 (.mov (ot 14)), oe 101 (.call 52 [(ot 96), (ot 99), (ot 100)])]))) (.ops [oq 102 (.bin .add .num (ot 91) (.val (.int .i64 1))), oq 91 (.mov (ot 102))]))))
noncomputable def f18.c3 : PC := (.seq (.seq (.ops [oq 83 (.mov (ot 0)), oq 84 (.mov (ot 9)), oe 85 (.call 51 [(ot 83), (ot 84)]), oq 12 (.mov (ot 85))]) (.seq (.ops [oq 86 (.mov (ot 12)), oq 87 (.bin .neq .num (ot 86) (.val (.int .i64 0)))]) (.cond (ot 87) (.seq (.ops [oq 88 (.mov (ot 12)), oq 6 (.mov (ot 88))]) .ret) .skip))) (.seq (.seq (.ops [oq 89 (.mov (ot 2)), oq 90 (.lenSl (ot 89)), oq 91 (.mov (.val (.int .i64 0)))]) (.block 4 (.loop f18.c4))) (.seq (.ops [oq 6 (.mov (.val (.int .i64 0)))]) .ret)))
noncomputable def f18.c2 : PC := (.seq (.ops [oq 67 (.bin .lss .num (ot 66) (ot 65))]) (.seq (.cond (ot 67) .skip (.exit 2)) (.seq (.block 3 (.seq (.ops [oq 68 (.mov (ot 66)), oq 69 (.ixSl 1 (ot 64) (ot 66)), oq 70 (.load1 (ot 69)), oq 10 (.mov (ot 68)), oq 11 (.mov (ot 70))]) (.ops [oq 71 (.mov (ot 9)), oq 72 (.mov (ot 0)), oq 73 (.nilck (ot 72)), oq 74 (.fieldAddr 2 (ot 73)), oq 75 (.load1 (ot 74)), oq 76 (.mov (ot 1)), oq 77 (.mov (ot 10)), oq 78 (.bin .add .num (ot 76) (ot 77)), oq 79 (.mov (ot 11)), oe 80 (.call 50 [(.val .nsl), (.val (.int .i64 1)), (ot 75), (ot 78), (.val (.int .i64 0)), (ot 79)]), oe 81 (.append 1 1 (ot 71) (ot 80)), oq 9 (.mov (ot 81))]))) (.ops [oq 82 (.bin .add .num (ot 66) (.val (.int .i64 1))), oq 66 (.mov (ot 82))]))))
noncomputable def f18.c1 : PC := (.seq (.seq (.ops [oq 31 (.mov (ot 0)), oq 32 (.nilck (ot 31)), oq 33 (.fieldAddr 0 (ot 32)), oq 34 (.load1 (ot 33)), oe 35 (.call 40 [(ot 34)])]) (.cond (ot 35) (.seq (.ops [oq 6 (.mov (.val (.int .i64 11)))]) .ret) .skip)) (.seq (.seq (.ops [oq 36 (.mov (ot 2)), oq 37 (.lenSl (ot 36)), oq 38 (.bin .eql .num (ot 37) (.val (.int .i64 0))), oq 39 (.mov (ot 38)), oqg 40 39 true (.mov (ot 0)), oqg 41 39 true (.nilck (ot 40)), oqg 42 39 true (.fieldAddr 4 (ot 41)), oqg 43 39 true (.load1 (ot 42)), oqg 44 39 true (.lenSl (ot 43)), oqg 45 39 true (.bin .gtr .num (ot 44) (.val (.int .i64 0))), oqg 46 39 true (.mov (ot 45)), oqg 47 46 false (.mov (ot 1)), oqg 48 46 false (.mov (ot 0)), oqg 49 46 false (.nilck (ot 48)), oqg 50 46 false (.fieldAddr 3 (ot 49)), oqg 51 46 false (.load1 (ot 50)), oqg 52 46 false (.bin .eql .num (ot 47) (ot 51)), oqg 53 39 true (.pick (ot 46) (.val (.bool true)) (ot 52)), oq 54 (.pick (ot 39) (ot 53) (.val (.bool false)))]) (.cond (ot 54) (.seq (.ops [oq 6 (.mov (.val (.int .i64 0)))]) .ret) .skip)) (.seq (.seq (.ops [oq 55 (.mov (ot 2)), oq 56 (.lenSl (ot 55)), oq 57 (.bin .eql .num (ot 56) (.val (.int .i64 0)))]) (.cond (ot 57) (.seq (.ops [oq 58 (.mov (ot 0)), oq 59 (.mov (ot 1)), oq 60 (.mov (ot 1)), oe 61 (.call 47 [(ot 58), (.val (.int .i64 4)), (ot 59), (ot 60), (.val .nsl)]), oq 6 (.mov (ot 61))]) .ret) .skip)) (.seq (.ops [oq 62 (.mov (ot 0)), oe 63 (.call 49 [(ot 62)]), oq 9 (.mov (ot 63))]) (.seq (.seq (.ops [oq 64 (.mov (ot 2)), oq 65 (.lenSl (ot 64)), oq 66 (.mov (.val (.int .i64 0)))]) (.block 2 (.loop f18.c2))) f18.c3)))))
noncomputable def f18.c0 : PC := (.seq (.ops [oq 24 (.bin .lss .num (ot 23) (ot 22))]) (.seq (.cond (ot 24) .skip (.exit 0)) (.seq (.block 1 (.seq (.ops [oq 25 (.ixSl 1 (ot 21) (ot 23)), oq 26 (.load1 (ot 25)), oq 8 (.mov (ot 26))]) (.seq (.ops [oq 27 (.mov (ot 8)), oq 28 (.lenStr (ot 27)), oq 29 (.bin .gtr .num (ot 28) (.val (.int .i64 16284)))]) (.cond (ot 29) (.seq (.ops [oq 6 (.mov (.val (.int .i64 1)))]) .ret) .skip)))) (.ops [oq 30 (.bin .add .num (ot 23) (.val (.int .i64 1))), oq 23 (.mov (ot 30))]))))
noncomputable def f18.res : List PRes := [.tmp (sn 6)]
noncomputable def f18.p4 (C : CW) (Q : AVal → S → Prop) (R4 : PC) (E : En) (σ : S) : Prop :=
Som (binA .lss .num (E 91) (E 90)) fun t92 =>
WIf t92 (
Som (vIxSl 1 (E 89) (E 91)) fun t94 =>
Som (vLoad1 t94 σ) fun t95 =>
Som (binA .add .num (E 1) (E 91)) fun t99 =>
C 52 [(E 0), t99, t95] σ fun t101 σ1 =>
Som (binA .add .num (E 91) (.int .i64 1)) fun t102 =>
wC C (.loop R4) ((((((((((((((E.set 92 t92).set 93 (E 91)).set 94 t94).set 95 t95).set 13 (E 91)).set 14 t95).set 96 (E 0)).set 97 (E 1)).set 98 (E 91)).set 99 t99).set 100 t95).set 101 t101).set 102 t102).set 91 t102) σ1 (blockK 4 (seqK (wC C (.seq (.ops [oq 6 (.mov (.val (.int .i64 0)))]) .ret)) (retK f18.res Q)))) (
Ret [some (.int .i64 0)] σ Q)
theorem f18.p4_eq (C : CW) (Q : AVal → S → Prop) (R4 : PC) (E : En) (σ : S) : f18.p4 C Q R4 E σ = wC C (.seq (.ops [oq 92 (.bin .lss .num (ot 91) (ot 90))]) (.seq (.cond (ot 92) .skip (.exit 4)) (.seq (.block 5 (.seq (.ops [oq 93 (.mov (ot 91)), oq 94 (.ixSl 1 (ot 89) (ot 91)), oq 95 (.load1 (ot 94)), oq 13 (.mov (ot 93)), oq 14 (.mov (ot 95))]) (.ops [oq 96 (.mov (ot 0)), oq 97 (.mov (ot 1)), oq 98 (.mov (ot 13)), oq 99 (.bin .add .num (ot 97) (ot 98)), oq 100 (.mov (ot 14)), oe 101 (.call 52 [(ot 96), (ot 99), (ot 100)])]))) (.ops [oq 102 (.bin .add .num (ot 91) (.val (.int .i64 1))), oq 91 (.mov (ot 102))])))) E σ (loopK C R4 (blockK 4 (seqK (wC C (.seq (.ops [oq 6 (.mov (.val (.int .i64 0)))]) .ret)) (retK f18.res Q)))) := by kernel_rfl
abbrev f18.L4 (C : CW) (Q : AVal → S → Prop) (E : En) (σ : S) : Prop := wC C (.loop f18.c4) E σ (blockK 4 (seqK (wC C (.seq (.ops [oq 6 (.mov (.val (.int .i64 0)))]) .ret)) (retK f18.res Q)))
set_option maxRecDepth 20000 in
theorem f18.p4_of {tab : Nat → Option PFn} {Q : AVal → S → Prop} {E : En} {σ : S} (h : f18.p4 (WF tab) Q f18.c4 E σ) : f18.L4 (WF tab) Q E σ := wLoop_step (Eq.mp (f18.p4_eq (WF tab) Q f18.c4 E σ) h)
noncomputable def f18.p3 (C : CW) (Q : AVal → S → Prop) (R4 : PC) (E : En) (σ : S) : Prop :=
C 51 [(E 0), (E 9)] σ fun t85 σ1 =>
Som (binA .neq .num t85 (.int .i64 0)) fun t87 =>
WIf t87 (
Ret [some t85] σ1 Q) (
Som (vLenSl (E 2)) fun t90 =>
wC C (.loop R4) (((((((((E.set 83 (E 0)).set 84 (E 9)).set 85 t85).set 12 t85).set 86 t85).set 87 t87).set 89 (E 2)).set 90 t90).set 91 (.int .i64 0)) σ1 (blockK 4 (seqK (wC C (.seq (.ops [oq 6 (.mov (.val (.int .i64 0)))]) .ret)) (retK f18.res Q))))
theorem f18.p3_eq (C : CW) (Q : AVal → S → Prop) (R4 : PC) (E : En) (σ : S) : f18.p3 C Q R4 E σ = wC C (.seq (.seq (.ops [oq 83 (.mov (ot 0)), oq 84 (.mov (ot 9)), oe 85 (.call 51 [(ot 83), (ot 84)]), oq 12 (.mov (ot 85))]) (.seq (.ops [oq 86 (.mov (ot 12)), oq 87 (.bin .neq .num (ot 86) (.val (.int .i64 0)))]) (.cond (ot 87) (.seq (.ops [oq 88 (.mov (ot 12)), oq 6 (.mov (ot 88))]) .ret) .skip))) (.seq (.seq (.ops [oq 89 (.mov (ot 2)), oq 90 (.lenSl (ot 89)), oq 91 (.mov (.val (.int .i64 0)))]) (.block 4 (.loop R4))) (.seq (.ops [oq 6 (.mov (.val (.int .i64 0)))]) .ret))) E σ (retK f18.res Q) := by kernel_rfl
abbrev f18.J3 (C : CW) (Q : AVal → S → Prop) (E : En) (σ : S) : Prop := wC C f18.c3 E σ (retK f18.res Q)
set_option maxRecDepth 20000 in
theorem f18.p3_of {C : CW} {Q : AVal → S → Prop} {E : En} {σ : S} (h : f18.p3 C Q f18.c4 E σ) : f18.J3 C Q E σ := Eq.mp (f18.p3_eq C Q f18.c4 E σ) h
noncomputable def f18.p2 (C : CW) (Q : AVal → S → Prop) (R2 R3 : PC) (E : En) (σ : S) : Prop :=
Som (binA .lss .num (E 66) (E 65)) fun t67 =>
WIf t67 (
Som (vIxSl 1 (E 64) (E 66)) fun t69 =>
Som (vLoad1 t69 σ) fun t70 =>
Som (vNilck (E 0)) fun t73 =>
Som (vFieldAddr 2 t73) fun t74 =>
Som (vLoad1 t74 σ) fun t75 =>
Som (binA .add .num (E 1) (E 66)) fun t78 =>
C 50 [.nsl, (.int .i64 1), t75, t78, (.int .i64 0), t70] σ fun t80 σ1 =>
Eff (appendA 1 1 (E 9) t80 σ1) fun t81 σ2 =>
Som (binA .add .num (E 66) (.int .i64 1)) fun t82 =>
wC C (.loop R2) ((((((((((((((((((((E.set 67 t67).set 68 (E 66)).set 69 t69).set 70 t70).set 10 (E 66)).set 11 t70).set 71 (E 9)).set 72 (E 0)).set 73 t73).set 74 t74).set 75 t75).set 76 (E 1)).set 77 (E 66)).set 78 t78).set 79 t70).set 80 t80).set 81 t81).set 9 t81).set 82 t82).set 66 t82) σ2 (blockK 2 (seqK (wC C R3) (retK f18.res Q)))) (
wC C R3 (E.set 67 t67) σ (retK f18.res Q))
theorem f18.p2_eq (C : CW) (Q : AVal → S → Prop) (R2 R3 : PC) (E : En) (σ : S) : f18.p2 C Q R2 R3 E σ = wC C (.seq (.ops [oq 67 (.bin .lss .num (ot 66) (ot 65))]) (.seq (.cond (ot 67) .skip (.exit 2)) (.seq (.block 3 (.seq (.ops [oq 68 (.mov (ot 66)), oq 69 (.ixSl 1 (ot 64) (ot 66)), oq 70 (.load1 (ot 69)), oq 10 (.mov (ot 68)), oq 11 (.mov (ot 70))]) (.ops [oq 71 (.mov (ot 9)), oq 72 (.mov (ot 0)), oq 73 (.nilck (ot 72)), oq 74 (.fieldAddr 2 (ot 73)), oq 75 (.load1 (ot 74)), oq 76 (.mov (ot 1)), oq 77 (.mov (ot 10)), oq 78 (.bin .add .num (ot 76) (ot 77)), oq 79 (.mov (ot 11)), oe 80 (.call 50 [(.val .nsl), (.val (.int .i64 1)), (ot 75), (ot 78), (.val (.int .i64 0)), (ot 79)]), oe 81 (.append 1 1 (ot 71) (ot 80)), oq 9 (.mov (ot 81))]))) (.ops [oq 82 (.bin .add .num (ot 66) (.val (.int .i64 1))), oq 66 (.mov (ot 82))])))) E σ (loopK C R2 (blockK 2 (seqK (wC C R3) (retK f18.res Q)))) := by kernel_rfl
abbrev f18.L2 (C : CW) (Q : AVal → S → Prop) (E : En) (σ : S) : Prop := wC C (.loop f18.c2) E σ (blockK 2 (seqK (wC C f18.c3) (retK f18.res Q)))
set_option maxRecDepth 20000 in
theorem f18.p2_of {tab : Nat → Option PFn} {Q : AVal → S → Prop} {E : En} {σ : S} (h : f18.p2 (WF tab) Q f18.c2 f18.c3 E σ) : f18.L2 (WF tab) Q E σ := wLoop_step (Eq.mp (f18.p2_eq (WF tab) Q f18.c2 f18.c3 E σ) h)
noncomputable def f18.p1 (C : CW) (Q : AVal → S → Prop) (R2 R3 : PC) (E : En) (σ : S) : Prop :=
Som (vNilck (E 0)) fun t32 =>
Som (vFieldAddr 0 t32) fun t33 =>
Som (vLoad1 t33 σ) fun t34 =>
C 40 [t34] σ fun t35 σ1 =>
WIf t35 (
Ret [some (.int .i64 11)] σ1 Q) (
Som (vLenSl (E 2)) fun t37 =>
Som (binA .eql .num t37 (.int .i64 0)) fun t38 =>
Som (gq1 (isB t38 true) (some (E 0))) fun t40 =>
Som (gq1 (isB t38 true) (vNilck t40)) fun t41 =>
Som (gq1 (isB t38 true) (vFieldAddr 4 t41)) fun t42 =>
Som (gq1 (isB t38 true) (vLoad1 t42 σ1)) fun t43 =>
Som (gq1 (isB t38 true) (vLenSl t43)) fun t44 =>
Som (gq1 (isB t38 true) (binA .gtr .num t44 (.int .i64 0))) fun t45 =>
Som (gq1 (isB t38 true) (some t45)) fun t46 =>
Som (gq1 (isB t46 false) (some (E 1))) fun t47 =>
Som (gq1 (isB t46 false) (some (E 0))) fun t48 =>
Som (gq1 (isB t46 false) (vNilck t48)) fun t49 =>
Som (gq1 (isB t46 false) (vFieldAddr 3 t49)) fun t50 =>
Som (gq1 (isB t46 false) (vLoad1 t50 σ1)) fun t51 =>
Som (gq1 (isB t46 false) (binA .eql .num t47 t51)) fun t52 =>
Som (gq1 (isB t38 true) (vPick t46 (.bool true) t52)) fun t53 =>
Som (vPick t38 t53 (.bool false)) fun t54 =>
WIf t54 (
Ret [some (.int .i64 0)] σ1 Q) (
Som (vLenSl (E 2)) fun t56 =>
Som (binA .eql .num t56 (.int .i64 0)) fun t57 =>
WIf t57 (
C 47 [(E 0), (.int .i64 4), (E 1), (E 1), .nsl] σ1 fun t61 σ2 =>
Ret [some t61] σ2 Q) (
C 49 [(E 0)] σ1 fun t63 σ2 =>
Som (vLenSl (E 2)) fun t65 =>
wC C (.loop R2) (((((((((((((((((((((((((((((((((E.set 31 (E 0)).set 32 t32).set 33 t33).set 34 t34).set 35 t35).set 36 (E 2)).set 37 t37).set 38 t38).set 39 t38).set 40 t40).set 41 t41).set 42 t42).set 43 t43).set 44 t44).set 45 t45).set 46 t46).set 47 t47).set 48 t48).set 49 t49).set 50 t50).set 51 t51).set 52 t52).set 53 t53).set 54 t54).set 55 (E 2)).set 56 t56).set 57 t57).set 62 (E 0)).set 63 t63).set 9 t63).set 64 (E 2)).set 65 t65).set 66 (.int .i64 0)) σ2 (blockK 2 (seqK (wC C R3) (retK f18.res Q))))))
theorem f18.p1_eq (C : CW) (Q : AVal → S → Prop) (R2 R3 : PC) (E : En) (σ : S) : f18.p1 C Q R2 R3 E σ = wC C (.seq (.seq (.ops [oq 31 (.mov (ot 0)), oq 32 (.nilck (ot 31)), oq 33 (.fieldAddr 0 (ot 32)), oq 34 (.load1 (ot 33)), oe 35 (.call 40 [(ot 34)])]) (.cond (ot 35) (.seq (.ops [oq 6 (.mov (.val (.int .i64 11)))]) .ret) .skip)) (.seq (.seq (.ops [oq 36 (.mov (ot 2)), oq 37 (.lenSl (ot 36)), oq 38 (.bin .eql .num (ot 37) (.val (.int .i64 0))), oq 39 (.mov (ot 38)), oqg 40 39 true (.mov (ot 0)), oqg 41 39 true (.nilck (ot 40)), oqg 42 39 true (.fieldAddr 4 (ot 41)), oqg 43 39 true (.load1 (ot 42)), oqg 44 39 true (.lenSl (ot 43)), oqg 45 39 true (.bin .gtr .num (ot 44) (.val (.int .i64 0))), oqg 46 39 true (.mov (ot 45)), oqg 47 46 false (.mov (ot 1)), oqg 48 46 false (.mov (ot 0)), oqg 49 46 false (.nilck (ot 48)), oqg 50 46 false (.fieldAddr 3 (ot 49)), oqg 51 46 false (.load1 (ot 50)), oqg 52 46 false (.bin .eql .num (ot 47) (ot 51)), oqg 53 39 true (.pick (ot 46) (.val (.bool true)) (ot 52)), oq 54 (.pick (ot 39) (ot 53) (.val (.bool false)))]) (.cond (ot 54) (.seq (.ops [oq 6 (.mov (.val (.int .i64 0)))]) .ret) .skip)) (.seq (.seq (.ops [oq 55 (.mov (ot 2)), oq 56 (.lenSl (ot 55)), oq 57 (.bin .eql .num (ot 56) (.val (.int .i64 0)))]) (.cond (ot 57) (.seq (.ops [oq 58 (.mov (ot 0)), oq 59 (.mov (ot 1)), oq 60 (.mov (ot 1)), oe 61 (.call 47 [(ot 58), (.val (.int .i64 4)), (ot 59), (ot 60), (.val .nsl)]), oq 6 (.mov (ot 61))]) .ret) .skip)) (.seq (.ops [oq 62 (.mov (ot 0)), oe 63 (.call 49 [(ot 62)]), oq 9 (.mov (ot 63))]) (.seq (.seq (.ops [oq 64 (.mov (ot 2)), oq 65 (.lenSl (ot 64)), oq 66 (.mov (.val (.int .i64 0)))]) (.block 2 (.loop R2))) R3))))) E σ (retK f18.res Q) := by kernel_rfl
abbrev f18.J1 (C : CW) (Q : AVal → S → Prop) (E : En) (σ : S) : Prop := wC C f18.c1 E σ (retK f18.res Q)
set_option maxRecDepth 20000 in
theorem f18.p1_of {C : CW} {Q : AVal → S → Prop} {E : En} {σ : S} (h : f18.p1 C Q f18.c2 f18.c3 E σ) : f18.J1 C Q E σ := Eq.mp (f18.p1_eq C Q f18.c2 f18.c3 E σ) h
noncomputable def f18.p0 (C : CW) (Q : AVal → S → Prop) (R0 R1 : PC) (E : En) (σ : S) : Prop :=
Som (binA .lss .num (E 23) (E 22)) fun t24 =>
WIf t24 (
Som (vIxSl 1 (E 21) (E 23)) fun t25 =>
Som (vLoad1 t25 σ) fun t26 =>
Som (vLenStr t26) fun t28 =>
Som (binA .gtr .num t28 (.int .i64 16284)) fun t29 =>
WIf t29 (
Ret [some (.int .i64 1)] σ Q) (
Som (binA .add .num (E 23) (.int .i64 1)) fun t30 =>
wC C (.loop R0) (((((((((E.set 24 t24).set 25 t25).set 26 t26).set 8 t26).set 27 t26).set 28 t28).set 29 t29).set 30 t30).set 23 t30) σ (blockK 0 (seqK (wC C R1) (retK f18.res Q))))) (
wC C R1 (E.set 24 t24) σ (retK f18.res Q))
theorem f18.p0_eq (C : CW) (Q : AVal → S → Prop) (R0 R1 : PC) (E : En) (σ : S) : f18.p0 C Q R0 R1 E σ = wC C (.seq (.ops [oq 24 (.bin .lss .num (ot 23) (ot 22))]) (.seq (.cond (ot 24) .skip (.exit 0)) (.seq (.block 1 (.seq (.ops [oq 25 (.ixSl 1 (ot 21) (ot 23)), oq 26 (.load1 (ot 25)), oq 8 (.mov (ot 26))]) (.seq (.ops [oq 27 (.mov (ot 8)), oq 28 (.lenStr (ot 27)), oq 29 (.bin .gtr .num (ot 28) (.val (.int .i64 16284)))]) (.cond (ot 29) (.seq (.ops [oq 6 (.mov (.val (.int .i64 1)))]) .ret) .skip)))) (.ops [oq 30 (.bin .add .num (ot 23) (.val (.int .i64 1))), oq 23 (.mov (ot 30))])))) E σ (loopK C R0 (blockK 0 (seqK (wC C R1) (retK f18.res Q)))) := by kernel_rfl
abbrev f18.L0 (C : CW) (Q : AVal → S → Prop) (E : En) (σ : S) : Prop := wC C (.loop f18.c0) E σ (blockK 0 (seqK (wC C f18.c1) (retK f18.res Q)))
set_option maxRecDepth 20000 in
theorem f18.p0_of {tab : Nat → Option PFn} {Q : AVal → S → Prop} {E : En} {σ : S} (h : f18.p0 (WF tab) Q f18.c0 f18.c1 E σ) : f18.L0 (WF tab) Q E σ := wLoop_step (Eq.mp (f18.p0_eq (WF tab) Q f18.c0 f18.c1 E σ) h)
noncomputable def f18.body : PC := (.seq (.ops [oq 6 (.mov (.val (.int .i64 0)))]) (.seq (.seq (.ops [oq 15 (.mov (ot 0)), oq 16 (.mov (ot 1)), oq 17 (.mov (ot 2)), oq 18 (.lenSl (ot 17)), oe 19 (.call 48 [(ot 15), (ot 16), (ot 18)]), oq 20 (.un .not (ot 19))]) (.cond (ot 20) (.seq (.ops [oq 6 (.mov (.val (.int .i64 1)))]) .ret) .skip)) (.seq (.seq (.ops [oq 21 (.mov (ot 2)), oq 22 (.lenSl (ot 21)), oq 23 (.mov (.val (.int .i64 0)))]) (.block 0 (.loop f18.c0))) f18.c1)))
noncomputable def f18.fn : PFn := .code (slotsN 103) f18.body f18.res
noncomputable def f18 (C : CW) (R0 R1 : PC) (a0 a1 a2 : AVal) (σ : S) (Q : AVal → S → Prop) : Prop :=
Som (vLenSl a2) fun t18 =>
C 48 [a0, a1, t18] σ fun t19 σ1 =>
Som (unA .not t19) fun t20 =>
WIf t20 (
Ret [some (.int .i64 1)] σ1 Q) (
Som (vLenSl a2) fun t22 =>
wC C (.loop R0) (((((((((((((E0.set 0 a0).set 1 a1).set 2 a2).set 6 (.int .i64 0)).set 15 a0).set 16 a1).set 17 a2).set 18 t18).set 19 t19).set 20 t20).set 21 a2).set 22 t22).set 23 (.int .i64 0)) σ1 (blockK 0 (seqK (wC C R1) (retK f18.res Q))))
theorem f18_eq (C : CW) (R0 R1 : PC) (a0 a1 a2 : AVal) (σ : S) (Q : AVal → S → Prop) : f18 C R0 R1  a0 a1 a2 σ Q = wC C (.seq (.ops [oq 6 (.mov (.val (.int .i64 0)))]) (.seq (.seq (.ops [oq 15 (.mov (ot 0)), oq 16 (.mov (ot 1)), oq 17 (.mov (ot 2)), oq 18 (.lenSl (ot 17)), oe 19 (.call 48 [(ot 15), (ot 16), (ot 18)]), oq 20 (.un .not (ot 19))]) (.cond (ot 20) (.seq (.ops [oq 6 (.mov (.val (.int .i64 1)))]) .ret) .skip)) (.seq (.seq (.ops [oq 21 (.mov (ot 2)), oq 22 (.lenSl (ot 21)), oq 23 (.mov (.val (.int .i64 0)))]) (.block 0 (.loop R0))) R1))) (((E0.set 0 a0).set 1 a1).set 2 a2) σ (retK f18.res Q) := by kernel_rfl
theorem f18_ent (a0 a1 a2 : AVal) : enterE [a0, a1, a2] (slotsN 103) E0 = some (((E0.set 0 a0).set 1 a1).set 2 a2) := by kernel_rfl
set_option maxRecDepth 20000 in
theorem f18_wf {tab : Nat → Option PFn} (ht : tab 18 = some f18.fn) {a0 a1 a2 : AVal} {σ : S} {Q : AVal → S → Prop} (h : f18 (WF tab) f18.c0 f18.c1  a0 a1 a2 σ Q) : WF tab 18 [a0, a1, a2] σ Q := wFn_sound ht (wFn_code (f18_ent a0 a1 a2) (Eq.mp (f18_eq (WF tab) f18.c0 f18.c1  a0 a1 a2 σ Q) h))
/-! *dray/wal.Log.Drop -/
noncomputable def f19.res : List PRes := [.tmp (sn 4)]
noncomputable def f19.body : PC := (.seq (.ops [oq 4 (.mov (.val (.int .i64 0)))]) (.seq (.seq (.ops [oq 5 (.mov (ot 1)), oq 6 (.mov (ot 0)), oq 7 (.nilck (ot 6)), oq 8 (.fieldAddr 3 (ot 7)), oq 9 (.load1 (ot 8)), oq 10 (.bin .lss .num (ot 5) (ot 9)), oq 11 (.mov (ot 10)), oqg 12 11 false (.mov (ot 1)), oqg 13 11 false (.mov (ot 0)), oeg 14 11 false (.call 15 [(ot 13)]), oqg 15 11 false (.bin .add .num (ot 14) (.val (.int .i64 1))), oqg 16 11 false (.bin .gtr .num (ot 12) (ot 15)), oq 17 (.pick (ot 11) (.val (.bool true)) (ot 16))]) (.cond (ot 17) (.seq (.ops [oq 4 (.mov (.val (.int .i64 1)))]) .ret) .skip)) (.seq (.seq (.ops [oq 18 (.mov (ot 0)), oq 19 (.nilck (ot 18)), oq 20 (.fieldAddr 0 (ot 19)), oq 21 (.load1 (ot 20)), oe 22 (.call 40 [(ot 21)])]) (.cond (ot 22) (.seq (.ops [oq 4 (.mov (.val (.int .i64 11)))]) .ret) .skip)) (.seq (.seq (.ops [oq 23 (.mov (ot 1)), oq 24 (.mov (ot 0)), oq 25 (.nilck (ot 24)), oq 26 (.fieldAddr 3 (ot 25)), oq 27 (.load1 (ot 26)), oq 28 (.bin .eql .num (ot 23) (ot 27))]) (.cond (ot 28) (.seq (.ops [oq 4 (.mov (.val (.int .i64 0)))]) .ret) .skip)) (.seq (.draw 16 [⟨0, oq 29 (.mov (ot 0)), []⟩, ⟨1, oq 30 (.mov (ot 1)), []⟩, ⟨2, oq 31 (.mov (ot 1)), []⟩, ⟨3, oq 32 (.mov (ot 0)), []⟩, ⟨4, oq 33 (.nilck (ot 32)), []⟩, ⟨5, oq 34 (.fieldAddr 4 (ot 33)), []⟩, ⟨6, oq 35 (.load1 (ot 34)), []⟩, ⟨7, oq 36 (.mov (ot 1)), []⟩, ⟨8, oq 37 (.mov (ot 0)), []⟩, ⟨9, oq 38 (.nilck (ot 37)), []⟩, ⟨10, oq 39 (.fieldAddr 3 (ot 38)), []⟩, ⟨11, oq 40 (.load1 (ot 39)), []⟩, ⟨12, oq 41 (.bin .sub .num (ot 36) (ot 40)), []⟩, ⟨13, oq 42 (.slSl 1 (ot 35) (some (ot 41)) none none), []⟩, ⟨14, oe 43 (.call 47 [(ot 29), (.val (.int .i64 3)), (ot 30), (ot 31), (ot 42)]), []⟩, ⟨15, oq 4 (.mov (ot 43)), []⟩]) .ret)))))
noncomputable def f19.fn : PFn := .code (slotsN 44) f19.body f19.res
noncomputable def f19 (C : CW) (a0 a1 : AVal) (σ : S) (Q : AVal → S → Prop) : Prop :=
Som (vNilck a0) fun t7 =>
Som (vFieldAddr 3 t7) fun t8 =>
Som (vLoad1 t8 σ) fun t9 =>
Som (binA .lss .num a1 t9) fun t10 =>
Som (gq1 (isB t10 false) (some a1)) fun t12 =>
Som (gq1 (isB t10 false) (some a0)) fun t13 =>
gE1 (isB t10 false) (fun K => C 15 [t13] σ K) σ fun t14 σ1 =>
Som (gq1 (isB t10 false) (binA .add .num t14 (.int .i64 1))) fun t15 =>
Som (gq1 (isB t10 false) (binA .gtr .num t12 t15)) fun t16 =>
Som (vPick t10 (.bool true) t16) fun t17 =>
WIf t17 (
Ret [some (.int .i64 1)] σ1 Q) (
Som (vNilck a0) fun t19 =>
Som (vFieldAddr 0 t19) fun t20 =>
Som (vLoad1 t20 σ1) fun t21 =>
C 40 [t21] σ1 fun t22 σ2 =>
WIf t22 (
Ret [some (.int .i64 11)] σ2 Q) (
Som (vNilck a0) fun t25 =>
Som (vFieldAddr 3 t25) fun t26 =>
Som (vLoad1 t26 σ2) fun t27 =>
Som (binA .eql .num a1 t27) fun t28 =>
WIf t28 (
Ret [some (.int .i64 0)] σ2 Q) (
Som (vNilck a0) fun t33 =>
Som (vFieldAddr 4 t33) fun t34 =>
Som (vLoad1 t34 (σ2.bumpT 16)) fun t35 =>
Som (vNilck a0) fun t38 =>
Som (vFieldAddr 3 t38) fun t39 =>
Som (vLoad1 t39 (σ2.bumpT 16)) fun t40 =>
Som (binA .sub .num a1 t40) fun t41 =>
Som (vSlSl 1 t35 (some t41) none none) fun t42 =>
C 47 [a0, (.int .i64 3), a1, a1, t42] (σ2.bumpT 16) fun t43 σ3 =>
Ret [some t43] σ3 Q)))
theorem f19_eq (C : CW) (a0 a1 : AVal) (σ : S) (Q : AVal → S → Prop) : f19 C   a0 a1 σ Q = wC C (.seq (.ops [oq 4 (.mov (.val (.int .i64 0)))]) (.seq (.seq (.ops [oq 5 (.mov (ot 1)), oq 6 (.mov (ot 0)), oq 7 (.nilck (ot 6)), oq 8 (.fieldAddr 3 (ot 7)), oq 9 (.load1 (ot 8)), oq 10 (.bin .lss .num (ot 5) (ot 9)), oq 11 (.mov (ot 10)), oqg 12 11 false (.mov (ot 1)), oqg 13 11 false (.mov (ot 0)), oeg 14 11 false (.call 15 [(ot 13)]), oqg 15 11 false (.bin .add .num (ot 14) (.val (.int .i64 1))), oqg 16 11 false (.bin .gtr .num (ot 12) (ot 15)), oq 17 (.pick (ot 11) (.val (.bool true)) (ot 16))]) (.cond (ot 17) (.seq (.ops [oq 4 (.mov (.val (.int .i64 1)))]) .ret) .skip)) (.seq (.seq (.ops [oq 18 (.mov (ot 0)), oq 19 (.nilck (ot 18)), oq 20 (.fieldAddr 0 (ot 19)), oq 21 (.load1 (ot 20)), oe 22 (.call 40 [(ot 21)])]) (.cond (ot 22) (.seq (.ops [oq 4 (.mov (.val (.int .i64 11)))]) .ret) .skip)) (.seq (.seq (.ops [oq 23 (.mov (ot 1)), oq 24 (.mov (ot 0)), oq 25 (.nilck (ot 24)), oq 26 (.fieldAddr 3 (ot 25)), oq 27 (.load1 (ot 26)), oq 28 (.bin .eql .num (ot 23) (ot 27))]) (.cond (ot 28) (.seq (.ops [oq 4 (.mov (.val (.int .i64 0)))]) .ret) .skip)) (.seq (.draw 16 [⟨0, oq 29 (.mov (ot 0)), []⟩, ⟨1, oq 30 (.mov (ot 1)), []⟩, ⟨2, oq 31 (.mov (ot 1)), []⟩, ⟨3, oq 32 (.mov (ot 0)), []⟩, ⟨4, oq 33 (.nilck (ot 32)), []⟩, ⟨5, oq 34 (.fieldAddr 4 (ot 33)), []⟩, ⟨6, oq 35 (.load1 (ot 34)), []⟩, ⟨7, oq 36 (.mov (ot 1)), []⟩, ⟨8, oq 37 (.mov (ot 0)), []⟩, ⟨9, oq 38 (.nilck (ot 37)), []⟩, ⟨10, oq 39 (.fieldAddr 3 (ot 38)), []⟩, ⟨11, oq 40 (.load1 (ot 39)), []⟩, ⟨12, oq 41 (.bin .sub .num (ot 36) (ot 40)), []⟩, ⟨13, oq 42 (.slSl 1 (ot 35) (some (ot 41)) none none), []⟩, ⟨14, oe 43 (.call 47 [(ot 29), (.val (.int .i64 3)), (ot 30), (ot 31), (ot 42)]), []⟩, ⟨15, oq 4 (.mov (ot 43)), []⟩]) .ret))))) ((E0.set 0 a0).set 1 a1) σ (retK f19.res Q) := by kernel_rfl
theorem f19_ent (a0 a1 : AVal) : enterE [a0, a1] (slotsN 44) E0 = some ((E0.set 0 a0).set 1 a1) := by kernel_rfl
set_option maxRecDepth 20000 in
theorem f19_wf {tab : Nat → Option PFn} (ht : tab 19 = some f19.fn) {a0 a1 : AVal} {σ : S} {Q : AVal → S → Prop} (h : f19 (WF tab)   a0 a1 σ Q) : WF tab 19 [a0, a1] σ Q := wFn_sound ht (wFn_code (f19_ent a0 a1) (Eq.mp (f19_eq (WF tab)   a0 a1 σ Q) h))
/-! *dray/wal.Log.Sync -/
noncomputable def f20.res : List PRes := [.tmp (sn 2)]
noncomputable def f20.body : PC := (.seq (.ops [oq 2 (.mov (.val (.int .i64 0)))]) (.seq (.ops [oq 3 (.mov (ot 0)), oq 4 (.nilck (ot 3)), oq 5 (.fieldAddr 0 (ot 4)), oq 6 (.load1 (ot 5)), oe 7 (.call 44 [(ot 6)]), oq 2 (.mov (ot 7))]) .ret))
noncomputable def f20.fn : PFn := .code (slotsN 8) f20.body f20.res
noncomputable def f20 (C : CW) (a0 : AVal) (σ : S) (Q : AVal → S → Prop) : Prop :=
Som (vNilck a0) fun t4 =>
Som (vFieldAddr 0 t4) fun t5 =>
Som (vLoad1 t5 σ) fun t6 =>
C 44 [t6] σ fun t7 σ1 =>
Ret [some t7] σ1 Q
theorem f20_eq (C : CW) (a0 : AVal) (σ : S) (Q : AVal → S → Prop) : f20 C   a0 σ Q = wC C (.seq (.ops [oq 2 (.mov (.val (.int .i64 0)))]) (.seq (.ops [oq 3 (.mov (ot 0)), oq 4 (.nilck (ot 3)), oq 5 (.fieldAddr 0 (ot 4)), oq 6 (.load1 (ot 5)), oe 7 (.call 44 [(ot 6)]), oq 2 (.mov (ot 7))]) .ret)) (E0.set 0 a0) σ (retK f20.res Q) := by kernel_rfl
theorem f20_ent (a0 : AVal) : enterE [a0] (slotsN 8) E0 = some (E0.set 0 a0) := by kernel_rfl
set_option maxRecDepth 20000 in
theorem f20_wf {tab : Nat → Option PFn} (ht : tab 20 = some f20.fn) {a0 : AVal} {σ : S} {Q : AVal → S → Prop} (h : f20 (WF tab)   a0 σ Q) : WF tab 20 [a0] σ Q := wFn_sound ht (wFn_code (f20_ent a0) (Eq.mp (f20_eq (WF tab)   a0 σ Q) h))
end Go.Am
