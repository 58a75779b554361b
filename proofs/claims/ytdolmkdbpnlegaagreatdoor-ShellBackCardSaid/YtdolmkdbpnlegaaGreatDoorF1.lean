/-
  Functions of the program as conditions. Conditions: none.
-/
import Derived.Test.YtdolmkdbpnlegaaGreatDoorF0
import Derived.KernelRfl
namespace Go.Am
noncomputable def f14.res : List PRes := [.cellN 25 (sn 2), .tmp (sn 3)]
noncomputable def f14.body : PC := (.seq (.ops [oa 2 (.alloc [(.int .i64 0), (.int .i64 0), (.int .i64 0), (.int .i64 0), (.int .i64 0), (.int .i64 0), (.int .i64 0), (.int .i64 0), (.int .i64 0), (.int .i64 0), (.int .i64 0), (.int .i64 0), (.int .i64 0), (.int .i64 0), (.int .i64 0), (.int .i64 0), (.int .i64 0), (.int .i64 0), (.int .i64 0), (.int .i64 0), (.int .i64 0), (.int .i64 0), (.bool false), (.int .i64 0), (.int .i64 0)]), oq 3 (.mov (.val (.bool false)))]) (.seq (.ops [oq 7 (.build [(.int .i64 0), (.int .i64 0), (.int .i64 0), (.int .i64 0), (.int .i64 0), (.int .i64 0), (.int .i64 0), (.int .i64 0), (.int .i64 0), (.int .i64 0), (.int .i64 0), (.int .i64 0), (.int .i64 0), (.int .i64 0), (.int .i64 0), (.int .i64 0), (.int .i64 0), (.int .i64 0), (.int .i64 0), (.int .i64 0), (.int .i64 0), (.int .i64 0), (.bool false), (.int .i64 0), (.int .i64 0)] [(0, 1, (.val (.int .i64 9)))]), oa 4 (.alloc [(.int .i64 0), (.int .i64 0), (.int .i64 0), (.int .i64 0), (.int .i64 0), (.int .i64 0), (.int .i64 0), (.int .i64 0), (.int .i64 0), (.int .i64 0), (.int .i64 0), (.int .i64 0), (.int .i64 0), (.int .i64 0), (.int .i64 0), (.int .i64 0), (.int .i64 0), (.int .i64 0), (.int .i64 0), (.int .i64 0), (.int .i64 0), (.int .i64 0), (.bool false), (.int .i64 0), (.int .i64 0)]), ⟨none, none, (.e (.store 25 (ot 4) (ot 7)))⟩]) (.seq (.seq (.ops [oq 8 (.mov (ot 0)), oq 9 (.lenSl (ot 8)), oq 10 (.bin .lss .num (ot 9) (.val (.int .i64 2))), oq 11 (.mov (ot 10)), oqg 12 11 false (.mov (ot 0)), oqg 13 11 false (.slSl 1 (ot 12) none (some (.val (.int .i64 2))) none), oqg 14 11 false (.fieldAddr 1 (ot 4)), oqg 15 11 false (.fieldAddr 4 (ot 4)), oqg 16 11 false (.fieldAddr 0 (ot 15)), oag 17 11 false (.bslice 1 [.nptr] 2 [(0, 1, (ot 14)), (1, 1, (ot 16))]), oeg 18 11 false (.call 16 [(ot 13), (ot 17)]), oqg 19 11 false (.un .not (ot 18)), oq 20 (.pick (ot 11) (.val (.bool true)) (ot 19))]) (.cond (ot 20) (.seq (.ops [oq 21 (.build [(.int .i64 0), (.int .i64 0), (.int .i64 0), (.int .i64 0), (.int .i64 0), (.int .i64 0), (.int .i64 0), (.int .i64 0), (.int .i64 0), (.int .i64 0), (.int .i64 0), (.int .i64 0), (.int .i64 0), (.int .i64 0), (.int .i64 0), (.int .i64 0), (.int .i64 0), (.int .i64 0), (.int .i64 0), (.int .i64 0), (.int .i64 0), (.int .i64 0), (.bool false), (.int .i64 0), (.int .i64 0)] []), ⟨none, none, (.e (.store 25 (ot 2) (ot 21)))⟩, oq 3 (.mov (.val (.bool false)))]) .ret) .skip)) (.seq (.ops [oq 23 (.mov (ot 0)), oq 24 (.slSl 1 (ot 23) (some (.val (.int .i64 2))) none none), oe 25 (.call 30 [(ot 24)]), oq 22 (.mov (ot 25)), oq 26 (.extract 0 (ot 22)), oq 27 (.extract 1 (ot 22)), oa 5 (.alloc [(.int .i64 0), (.int .i64 0), (.int .i64 0), (.int .i64 0), (.int .i64 0), (.int .i64 0), (.int .i64 0), (.int .i64 0), (.int .i64 0), (.int .i64 0), (.int .i64 0), (.int .i64 0), (.int .i64 0), (.int .i64 0), (.int .i64 0), (.int .i64 0), (.bool false), (.int .i64 0), (.int .i64 0)]), ⟨none, none, (.e (.store 19 (ot 5) (ot 26)))⟩, oq 6 (.mov (ot 27))]) (.seq (.seq (.ops [oq 28 (.mov (ot 6)), oq 29 (.un .not (ot 28))]) (.cond (ot 29) (.seq (.ops [oq 30 (.build [(.int .i64 0), (.int .i64 0), (.int .i64 0), (.int .i64 0), (.int .i64 0), (.int .i64 0), (.int .i64 0), (.int .i64 0), (.int .i64 0), (.int .i64 0), (.int .i64 0), (.int .i64 0), (.int .i64 0), (.int .i64 0), (.int .i64 0), (.int .i64 0), (.int .i64 0), (.int .i64 0), (.int .i64 0), (.int .i64 0), (.int .i64 0), (.int .i64 0), (.bool false), (.int .i64 0), (.int .i64 0)] []), ⟨none, none, (.e (.store 25 (ot 2) (ot 30)))⟩, oq 3 (.mov (.val (.bool false)))]) .ret) .skip)) (.seq (.ops [oq 31 (.loadN 19 (ot 5)), oq 32 (.fieldAddr 4 (ot 4)), oq 33 (.fieldAddr 2 (ot 32)), ⟨none, none, (.e (.store 19 (ot 33) (ot 31)))⟩]) (.seq (.ops [oq 34 (.loadN 25 (ot 4)), ⟨none, none, (.e (.store 25 (ot 2) (ot 34)))⟩, oq 3 (.mov (.val (.bool true)))]) .ret)))))))
noncomputable def f14.fn : PFn := .code (slotsN 35) f14.body f14.res
noncomputable def f14 (C : CW) (a0 : AVal) (σ : S) (Q : AVal → S → Prop) : Prop :=
Ala (aAllocV [(.int .i64 0), (.int .i64 0), (.int .i64 0), (.int .i64 0), (.int .i64 0), (.int .i64 0), (.int .i64 0), (.int .i64 0), (.int .i64 0), (.int .i64 0), (.int .i64 0), (.int .i64 0), (.int .i64 0), (.int .i64 0), (.int .i64 0), (.int .i64 0), (.int .i64 0), (.int .i64 0), (.int .i64 0), (.int .i64 0), (.int .i64 0), (.int .i64 0), (.bool false), (.int .i64 0), (.int .i64 0)]) σ fun t2 σ1 =>
Som (vBuild [(.int .i64 0), (.int .i64 0), (.int .i64 0), (.int .i64 0), (.int .i64 0), (.int .i64 0), (.int .i64 0), (.int .i64 0), (.int .i64 0), (.int .i64 0), (.int .i64 0), (.int .i64 0), (.int .i64 0), (.int .i64 0), (.int .i64 0), (.int .i64 0), (.int .i64 0), (.int .i64 0), (.int .i64 0), (.int .i64 0), (.int .i64 0), (.int .i64 0), (.bool false), (.int .i64 0), (.int .i64 0)] [(0, 1, (.int .i64 9))]) fun t7 =>
Ala (aAllocV [(.int .i64 0), (.int .i64 0), (.int .i64 0), (.int .i64 0), (.int .i64 0), (.int .i64 0), (.int .i64 0), (.int .i64 0), (.int .i64 0), (.int .i64 0), (.int .i64 0), (.int .i64 0), (.int .i64 0), (.int .i64 0), (.int .i64 0), (.int .i64 0), (.int .i64 0), (.int .i64 0), (.int .i64 0), (.int .i64 0), (.int .i64 0), (.int .i64 0), (.bool false), (.int .i64 0), (.int .i64 0)]) σ1 fun t4 σ2 =>
Eff (storeW 25 t4 t7 σ2) fun _ σ3 =>
Som (vLenSl a0) fun t9 =>
Som (binA .lss .num t9 (.int .i64 2)) fun t10 =>
Som (gq1 (isB t10 false) (some a0)) fun t12 =>
Som (gq1 (isB t10 false) (vSlSl 1 t12 none (some (.int .i64 2)) none)) fun t13 =>
Som (gq1 (isB t10 false) (vFieldAddr 1 t4)) fun t14 =>
Som (gq1 (isB t10 false) (vFieldAddr 4 t4)) fun t15 =>
Som (gq1 (isB t10 false) (vFieldAddr 0 t15)) fun t16 =>
gE1 (isB t10 false) (fun K => Ala (aSliceV 1 [.nptr] 2 [(0, 1, t14), (1, 1, t16)]) σ3 K) σ3 fun t17 σ4 =>
gE1 (isB t10 false) (fun K => C 16 [t13, t17] σ4 K) σ4 fun t18 σ5 =>
Som (gq1 (isB t10 false) (unA .not t18)) fun t19 =>
Som (vPick t10 (.bool true) t19) fun t20 =>
WIf t20 (
Som (vBuild [(.int .i64 0), (.int .i64 0), (.int .i64 0), (.int .i64 0), (.int .i64 0), (.int .i64 0), (.int .i64 0), (.int .i64 0), (.int .i64 0), (.int .i64 0), (.int .i64 0), (.int .i64 0), (.int .i64 0), (.int .i64 0), (.int .i64 0), (.int .i64 0), (.int .i64 0), (.int .i64 0), (.int .i64 0), (.int .i64 0), (.int .i64 0), (.int .i64 0), (.bool false), (.int .i64 0), (.int .i64 0)] []) fun t21 =>
Eff (storeW 25 t2 t21 σ5) fun _ σ6 =>
Ret [vLoadN 25 t2 σ6, some (.bool false)] σ6 Q) (
Som (vSlSl 1 a0 (some (.int .i64 2)) none none) fun t24 =>
C 30 [t24] σ5 fun t25 σ6 =>
Som (vExtract 0 t25) fun t26 =>
Som (vExtract 1 t25) fun t27 =>
Ala (aAllocV [(.int .i64 0), (.int .i64 0), (.int .i64 0), (.int .i64 0), (.int .i64 0), (.int .i64 0), (.int .i64 0), (.int .i64 0), (.int .i64 0), (.int .i64 0), (.int .i64 0), (.int .i64 0), (.int .i64 0), (.int .i64 0), (.int .i64 0), (.int .i64 0), (.bool false), (.int .i64 0), (.int .i64 0)]) σ6 fun t5 σ7 =>
Eff (storeW 19 t5 t26 σ7) fun _ σ8 =>
Som (unA .not t27) fun t29 =>
WIf t29 (
Som (vBuild [(.int .i64 0), (.int .i64 0), (.int .i64 0), (.int .i64 0), (.int .i64 0), (.int .i64 0), (.int .i64 0), (.int .i64 0), (.int .i64 0), (.int .i64 0), (.int .i64 0), (.int .i64 0), (.int .i64 0), (.int .i64 0), (.int .i64 0), (.int .i64 0), (.int .i64 0), (.int .i64 0), (.int .i64 0), (.int .i64 0), (.int .i64 0), (.int .i64 0), (.bool false), (.int .i64 0), (.int .i64 0)] []) fun t30 =>
Eff (storeW 25 t2 t30 σ8) fun _ σ9 =>
Ret [vLoadN 25 t2 σ9, some (.bool false)] σ9 Q) (
Som (vLoadN 19 t5 σ8) fun t31 =>
Som (vFieldAddr 4 t4) fun t32 =>
Som (vFieldAddr 2 t32) fun t33 =>
Eff (storeW 19 t33 t31 σ8) fun _ σ9 =>
Som (vLoadN 25 t4 σ9) fun t34 =>
Eff (storeW 25 t2 t34 σ9) fun _ σ10 =>
Ret [vLoadN 25 t2 σ10, some (.bool true)] σ10 Q))
theorem f14_eq (C : CW) (a0 : AVal) (σ : S) (Q : AVal → S → Prop) : f14 C   a0 σ Q = wC C f14.body (E0.set 0 a0) σ (retK f14.res Q) := by kernel_rfl
theorem f14_ent (a0 : AVal) : enterE [a0] (slotsN 35) E0 = some (E0.set 0 a0) := by kernel_rfl
set_option maxRecDepth 20000 in
theorem f14_wf {tab : Nat → Option PFn} (ht : tab 14 = some f14.fn) {a0 : AVal} {σ : S} {Q : AVal → S → Prop} (h : f14 (WF tab)   a0 σ Q) : WF tab 14 [a0] σ Q := wFn_sound ht (wFn_code (f14_ent a0) (Eq.mp (f14_eq (WF tab)   a0 σ Q) h))
noncomputable def f15.res : List PRes := [.tmp (sn 2)]
noncomputable def f15.body : PC := (.seq (.ops [oq 2 (.mov (.val (.str [])))]) (.seq (.seq (.ops [oq 3 (.mov (ot 0))]) (.block 0 (.seq (.ops [oq 5 (.bin .eql .num (ot 3) (.val (.int .i64 1))), oq 4 (.mov (ot 5))]) (.cond (ot 4) (.seq (.ops [oq 2 (.mov (.val (.str [100, 101, 108, 105, 118, 101, 114])))]) .ret) (.seq (.ops [oq 7 (.bin .eql .num (ot 3) (.val (.int .i64 3))), oq 6 (.mov (ot 7))]) (.cond (ot 6) (.seq (.ops [oq 2 (.mov (.val (.str [116, 119, 105, 99, 101])))]) .ret) (.seq (.ops [oq 9 (.bin .eql .num (ot 3) (.val (.int .i64 2))), oq 8 (.mov (ot 9))]) (.cond (ot 8) (.seq (.ops [oq 2 (.mov (.val (.str [100, 114, 111, 112])))]) .ret) (.seq (.ops [oq 11 (.bin .eql .num (ot 3) (.val (.int .i64 7))), oq 10 (.mov (ot 11))]) (.cond (ot 10) (.seq (.ops [oq 2 (.mov (.val (.str [99, 114, 97, 115, 104])))]) .ret) (.seq (.ops [oq 13 (.bin .eql .num (ot 3) (.val (.int .i64 4))), oq 12 (.mov (ot 13))]) (.cond (ot 12) (.seq (.ops [oq 2 (.mov (.val (.str [99, 117, 116])))]) .ret) (.seq (.ops [oq 15 (.bin .eql .num (ot 3) (.val (.int .i64 5))), oq 14 (.mov (ot 15))]) (.cond (ot 14) (.seq (.ops [oq 2 (.mov (.val (.str [109, 101, 110, 100])))]) .ret) (.seq (.ops [oq 17 (.bin .eql .num (ot 3) (.val (.int .i64 6))), oq 16 (.mov (ot 17))]) (.cond (ot 16) (.seq (.ops [oq 2 (.mov (.val (.str [116, 105, 99, 107])))]) .ret) (.seq (.ops [oq 19 (.bin .eql .num (ot 3) (.val (.int .i64 8))), oq 18 (.mov (ot 19))]) (.cond (ot 18) (.seq (.ops [oq 2 (.mov (.val (.str [115, 116, 97, 114, 116])))]) .ret) (.seq (.ops [oq 21 (.bin .eql .num (ot 3) (.val (.int .i64 12))), oq 20 (.mov (ot 21))]) (.cond (ot 20) (.seq (.ops [oq 2 (.mov (.val (.str [97, 114, 109])))]) .ret) (.seq (.ops [oq 23 (.bin .eql .num (ot 3) (.val (.int .i64 10))), oq 22 (.mov (ot 23))]) (.cond (ot 22) (.seq (.ops [oq 2 (.mov (.val (.str [99, 111, 109, 112, 97, 99, 116])))]) .ret) (.seq (.ops [oq 25 (.bin .eql .num (ot 3) (.val (.int .i64 11))), oq 24 (.mov (ot 25))]) (.cond (ot 24) (.seq (.ops [oq 2 (.mov (.val (.str [119, 105, 112, 101])))]) .ret) .skip)))))))))))))))))))))))) (.seq (.ops [oq 2 (.mov (.val (.str [])))]) .ret)))
noncomputable def f15.fn : PFn := .code (slotsN 26) f15.body f15.res
noncomputable def f15 (C : CW) (a0 : AVal) (σ : S) (Q : AVal → S → Prop) : Prop :=
Som (binA .eql .num a0 (.int .i64 1)) fun t5 =>
WIf t5 (
Ret [some (.str [100, 101, 108, 105, 118, 101, 114])] σ Q) (
Som (binA .eql .num a0 (.int .i64 3)) fun t7 =>
WIf t7 (
Ret [some (.str [116, 119, 105, 99, 101])] σ Q) (
Som (binA .eql .num a0 (.int .i64 2)) fun t9 =>
WIf t9 (
Ret [some (.str [100, 114, 111, 112])] σ Q) (
Som (binA .eql .num a0 (.int .i64 7)) fun t11 =>
WIf t11 (
Ret [some (.str [99, 114, 97, 115, 104])] σ Q) (
Som (binA .eql .num a0 (.int .i64 4)) fun t13 =>
WIf t13 (
Ret [some (.str [99, 117, 116])] σ Q) (
Som (binA .eql .num a0 (.int .i64 5)) fun t15 =>
WIf t15 (
Ret [some (.str [109, 101, 110, 100])] σ Q) (
Som (binA .eql .num a0 (.int .i64 6)) fun t17 =>
WIf t17 (
Ret [some (.str [116, 105, 99, 107])] σ Q) (
Som (binA .eql .num a0 (.int .i64 8)) fun t19 =>
WIf t19 (
Ret [some (.str [115, 116, 97, 114, 116])] σ Q) (
Som (binA .eql .num a0 (.int .i64 12)) fun t21 =>
WIf t21 (
Ret [some (.str [97, 114, 109])] σ Q) (
Som (binA .eql .num a0 (.int .i64 10)) fun t23 =>
WIf t23 (
Ret [some (.str [99, 111, 109, 112, 97, 99, 116])] σ Q) (
Som (binA .eql .num a0 (.int .i64 11)) fun t25 =>
WIf t25 (
Ret [some (.str [119, 105, 112, 101])] σ Q) (
Ret [some (.str [])] σ Q)))))))))))
theorem f15_eq (C : CW) (a0 : AVal) (σ : S) (Q : AVal → S → Prop) : f15 C   a0 σ Q = wC C f15.body (E0.set 0 a0) σ (retK f15.res Q) := by kernel_rfl
theorem f15_ent (a0 : AVal) : enterE [a0] (slotsN 26) E0 = some (E0.set 0 a0) := by kernel_rfl
set_option maxRecDepth 20000 in
theorem f15_wf {tab : Nat → Option PFn} (ht : tab 15 = some f15.fn) {a0 : AVal} {σ : S} {Q : AVal → S → Prop} (h : f15 (WF tab)   a0 σ Q) : WF tab 15 [a0] σ Q := wFn_sound ht (wFn_code (f15_ent a0) (Eq.mp (f15_eq (WF tab)   a0 σ Q) h))
noncomputable def f16.c0 : PC := (.seq (.ops [oq 17 (.bin .lss .num (ot 16) (ot 15))]) (.seq (.cond (ot 17) .skip (.exit 0)) (.seq (.block 1 (.seq (.ops [oq 18 (.mov (ot 16)), oq 19 (.ixSl 1 (ot 14) (ot 16)), oq 20 (.load1 (ot 19)), oq 5 (.mov (ot 18)), oq 6 (.mov (ot 20))]) (.seq (.ops [oq 22 (.mov (ot 6)), oe 23 (.call 31 [(ot 22)]), oq 21 (.mov (ot 23)), oq 24 (.extract 0 (ot 21)), oq 25 (.extract 1 (ot 21)), oq 7 (.mov (ot 24)), oq 8 (.mov (ot 25))]) (.seq (.seq (.ops [oq 26 (.mov (ot 8)), oq 27 (.bin .neq .ifc (ot 26) (.val .niface)), oq 28 (.mov (ot 27)), oqg 29 28 false (.mov (ot 7)), oeg 30 28 false (.call 32 [(ot 29)]), oqg 31 28 false (.mov (ot 6)), oqg 32 28 false (.bin .neq .num (ot 30) (ot 31)), oq 33 (.pick (ot 28) (.val (.bool true)) (ot 32))]) (.cond (ot 33) (.seq (.ops [oq 4 (.mov (.val (.bool false)))]) .ret) .skip)) (.ops [oq 34 (.mov (ot 1)), oq 35 (.mov (ot 5)), oq 36 (.ixSl 1 (ot 34) (ot 35)), oq 37 (.load1 (ot 36)), oq 38 (.mov (ot 7)), oq 39 (.nilck (ot 37)), ⟨none, none, (.e (.store 1 (ot 39) (ot 38)))⟩]))))) (.ops [oq 40 (.bin .add .num (ot 16) (.val (.int .i64 1))), oq 16 (.mov (ot 40))]))))
noncomputable def f16.res : List PRes := [.tmp (sn 4)]
noncomputable def f16.p0 (C : CW) (Q : AVal → S → Prop) (R0 : PC) (E : En) (σ : S) : Prop :=
Som (binA .lss .num (E 16) (E 15)) fun t17 =>
WIf t17 (
Som (vIxSl 1 (E 14) (E 16)) fun t19 =>
Som (vLoad1 t19 σ) fun t20 =>
C 31 [t20] σ fun t23 σ1 =>
Som (vExtract 0 t23) fun t24 =>
Som (vExtract 1 t23) fun t25 =>
Som (binA .neq .ifc t25 .niface) fun t27 =>
Som (gq1 (isB t27 false) (some t24)) fun t29 =>
gE1 (isB t27 false) (fun K => C 32 [t29] σ1 K) σ1 fun t30 σ2 =>
Som (gq1 (isB t27 false) (some t20)) fun t31 =>
Som (gq1 (isB t27 false) (binA .neq .num t30 t31)) fun t32 =>
Som (vPick t27 (.bool true) t32) fun t33 =>
WIf t33 (
Ret [some (.bool false)] σ2 Q) (
Som (vIxSl 1 (E 1) (E 16)) fun t36 =>
Som (vLoad1 t36 σ2) fun t37 =>
Som (vNilck t37) fun t39 =>
Eff (storeW 1 t39 t24 σ2) fun _ σ3 =>
Som (binA .add .num (E 16) (.int .i64 1)) fun t40 =>
wC C (.loop R0) (((((((((((((((((((((((((((((E.set 17 t17).set 18 (E 16)).set 19 t19).set 20 t20).set 5 (E 16)).set 6 t20).set 22 t20).set 23 t23).set 21 t23).set 24 t24).set 25 t25).set 7 t24).set 8 t25).set 26 t25).set 27 t27).set 28 t27).set 29 t29).set 30 t30).set 31 t31).set 32 t32).set 33 t33).set 34 (E 1)).set 35 (E 16)).set 36 t36).set 37 t37).set 38 t24).set 39 t39).set 40 t40).set 16 t40) σ3 (blockK 0 (seqK (wC C (.seq (.ops [oq 4 (.mov (.val (.bool true)))]) .ret)) (retK f16.res Q))))) (
Ret [some (.bool true)] σ Q)
theorem f16.p0_eq (C : CW) (Q : AVal → S → Prop) (R0 : PC) (E : En) (σ : S) : f16.p0 C Q R0 E σ = wC C f16.c0 E σ (loopK C R0 (blockK 0 (seqK (wC C (.seq (.ops [oq 4 (.mov (.val (.bool true)))]) .ret)) (retK f16.res Q)))) := by kernel_rfl
abbrev f16.L0 (C : CW) (Q : AVal → S → Prop) (E : En) (σ : S) : Prop := wC C (.loop f16.c0) E σ (blockK 0 (seqK (wC C (.seq (.ops [oq 4 (.mov (.val (.bool true)))]) .ret)) (retK f16.res Q)))
set_option maxRecDepth 20000 in
theorem f16.p0_of {tab : Nat → Option PFn} {Q : AVal → S → Prop} {E : En} {σ : S} (h : f16.p0 (WF tab) Q f16.c0 E σ) : f16.L0 (WF tab) Q E σ := wLoop_step (Eq.mp (f16.p0_eq (WF tab) Q f16.c0 E σ) h)
noncomputable def f16.body (R0 : PC) : PC := (.seq (.ops [oq 4 (.mov (.val (.bool false)))]) (.seq (.seq (.ops [oq 9 (.mov (ot 0)), oq 10 (.lenSl (ot 9)), oq 11 (.mov (ot 1)), oq 12 (.lenSl (ot 11)), oq 13 (.bin .neq .num (ot 10) (ot 12))]) (.cond (ot 13) (.seq (.ops [oq 4 (.mov (.val (.bool false)))]) .ret) .skip)) (.seq (.seq (.ops [oq 14 (.mov (ot 0)), oq 15 (.lenSl (ot 14)), oq 16 (.mov (.val (.int .i64 0)))]) (.block 0 (.loop R0))) (.seq (.ops [oq 4 (.mov (.val (.bool true)))]) .ret))))
noncomputable def f16.fn : PFn := .code (slotsN 41) (f16.body f16.c0) f16.res
noncomputable def f16 (C : CW) (R0 : PC) (a0 a1 : AVal) (σ : S) (Q : AVal → S → Prop) : Prop :=
Som (vLenSl a0) fun t10 =>
Som (vLenSl a1) fun t12 =>
Som (binA .neq .num t10 t12) fun t13 =>
WIf t13 (
Ret [some (.bool false)] σ Q) (
Som (vLenSl a0) fun t15 =>
wC C (.loop R0) (((((((((((E0.set 0 a0).set 1 a1).set 4 (.bool false)).set 9 a0).set 10 t10).set 11 a1).set 12 t12).set 13 t13).set 14 a0).set 15 t15).set 16 (.int .i64 0)) σ (blockK 0 (seqK (wC C (.seq (.ops [oq 4 (.mov (.val (.bool true)))]) .ret)) (retK f16.res Q))))
theorem f16_eq (C : CW) (R0 : PC) (a0 a1 : AVal) (σ : S) (Q : AVal → S → Prop) : f16 C R0  a0 a1 σ Q = wC C (f16.body R0) ((E0.set 0 a0).set 1 a1) σ (retK f16.res Q) := by kernel_rfl
theorem f16_ent (a0 a1 : AVal) : enterE [a0, a1] (slotsN 41) E0 = some ((E0.set 0 a0).set 1 a1) := by kernel_rfl
set_option maxRecDepth 20000 in
theorem f16_wf {tab : Nat → Option PFn} (ht : tab 16 = some f16.fn) {a0 a1 : AVal} {σ : S} {Q : AVal → S → Prop} (h : f16 (WF tab) f16.c0  a0 a1 σ Q) : WF tab 16 [a0, a1] σ Q := wFn_sound ht (wFn_code (f16_ent a0 a1) (Eq.mp (f16_eq (WF tab) f16.c0  a0 a1 σ Q) h))
noncomputable def f17.c3 : PC := (.cond (ot 43) (.seq (.ops [oq 46 (.mov (ot 0)), oq 47 (.nilck (ot 46)), oq 48 (.fieldAddr 1 (ot 47)), oa 49 (.bslice 1 [.nptr] 1 [(0, 1, (ot 48))]), oq 2 (.mov (ot 49))]) .ret) .skip)
noncomputable def f17.t2 (R3 : PC) : PC := (.cond (ot 32) (.seq (.draw 8 [⟨0, oq 36 (.mov (ot 0)), []⟩, ⟨1, oq 37 (.nilck (ot 36)), []⟩, ⟨2, oq 38 (.fieldAddr 1 (ot 37)), []⟩, ⟨3, oq 39 (.mov (ot 0)), []⟩, ⟨4, oq 40 (.nilck (ot 39)), []⟩, ⟨5, oq 41 (.fieldAddr 3 (ot 40)), []⟩, ⟨6, oa 42 (.bslice 1 [.nptr] 2 [(0, 1, (ot 38)), (1, 1, (ot 41))]), []⟩, ⟨7, oq 2 (.mov (ot 42)), []⟩]) .ret) (.seq (.seq (.ops [oq 44 (.bin .eql .num (ot 6) (.val (.int .i64 10))), oq 43 (.mov (ot 44))]) (.cond (ot 43) .skip (.ops [oq 45 (.bin .eql .num (ot 6) (.val (.int .i64 11))), oq 43 (.mov (ot 45))]))) R3))
noncomputable def f17.c2 : PC := f17.t2 f17.c3
noncomputable def f17.t1 (R2 : PC) : PC := (.cond (ot 22) (.seq (.draw 8 [⟨0, oq 25 (.mov (ot 0)), []⟩, ⟨1, oq 26 (.nilck (ot 25)), []⟩, ⟨2, oq 27 (.fieldAddr 1 (ot 26)), []⟩, ⟨3, oq 28 (.mov (ot 0)), []⟩, ⟨4, oq 29 (.nilck (ot 28)), []⟩, ⟨5, oq 30 (.fieldAddr 2 (ot 29)), []⟩, ⟨6, oa 31 (.bslice 1 [.nptr] 2 [(0, 1, (ot 27)), (1, 1, (ot 30))]), []⟩, ⟨7, oq 2 (.mov (ot 31)), []⟩]) .ret) (.seq (.seq (.ops [oq 33 (.bin .eql .num (ot 6) (.val (.int .i64 6))), oq 32 (.mov (ot 33))]) (.cond (ot 32) .skip (.seq (.ops [oq 34 (.bin .eql .num (ot 6) (.val (.int .i64 8))), oq 32 (.mov (ot 34))]) (.cond (ot 32) .skip (.ops [oq 35 (.bin .eql .num (ot 6) (.val (.int .i64 12))), oq 32 (.mov (ot 35))]))))) R2))
noncomputable def f17.c1 : PC := f17.t1 f17.c2
noncomputable def f17.t0 (R1 : PC) : PC := (.cond (ot 7) (.seq (.draw 11 [⟨0, oq 12 (.mov (ot 0)), []⟩, ⟨1, oq 13 (.nilck (ot 12)), []⟩, ⟨2, oq 14 (.fieldAddr 1 (ot 13)), []⟩, ⟨3, oq 15 (.mov (ot 0)), []⟩, ⟨4, oq 16 (.nilck (ot 15)), []⟩, ⟨5, oq 17 (.fieldAddr 2 (ot 16)), []⟩, ⟨6, oq 18 (.mov (ot 0)), []⟩, ⟨7, oq 19 (.nilck (ot 18)), []⟩, ⟨8, oq 20 (.fieldAddr 3 (ot 19)), []⟩, ⟨9, oa 21 (.bslice 1 [.nptr] 3 [(0, 1, (ot 14)), (1, 1, (ot 17)), (2, 1, (ot 20))]), []⟩, ⟨10, oq 2 (.mov (ot 21)), []⟩]) .ret) (.seq (.seq (.ops [oq 23 (.bin .eql .num (ot 6) (.val (.int .i64 4))), oq 22 (.mov (ot 23))]) (.cond (ot 22) .skip (.ops [oq 24 (.bin .eql .num (ot 6) (.val (.int .i64 5))), oq 22 (.mov (ot 24))]))) R1))
noncomputable def f17.c0 : PC := f17.t0 f17.c1
noncomputable def f17.res : List PRes := [.tmp (sn 2)]
noncomputable def f17.p3 (C : CW) (Q : AVal → S → Prop) (E : En) (σ : S) : Prop :=
WIf (E 43) (
Som (vNilck (E 0)) fun t47 =>
Som (vFieldAddr 1 t47) fun t48 =>
Ala (aSliceV 1 [.nptr] 1 [(0, 1, t48)]) σ fun t49 σ1 =>
Ret [some t49] σ1 Q) (
Ret [some .nsl] σ Q)
theorem f17.p3_eq (C : CW) (Q : AVal → S → Prop) (E : En) (σ : S) : f17.p3 C Q  E σ = wC C f17.c3 E σ (blockK 0 (seqK (wC C (.seq (.ops [oq 2 (.mov (.val .nsl))]) .ret)) (retK f17.res Q))) := by kernel_rfl
abbrev f17.J3 (C : CW) (Q : AVal → S → Prop) (E : En) (σ : S) : Prop := wC C f17.c3 E σ (blockK 0 (seqK (wC C (.seq (.ops [oq 2 (.mov (.val .nsl))]) .ret)) (retK f17.res Q)))
set_option maxRecDepth 20000 in
theorem f17.p3_of {C : CW} {Q : AVal → S → Prop} {E : En} {σ : S} (h : f17.p3 C Q  E σ) : f17.J3 C Q E σ := Eq.mp (f17.p3_eq C Q  E σ) h
noncomputable def f17.p2 (C : CW) (Q : AVal → S → Prop) (R3 : PC) (E : En) (σ : S) : Prop :=
WIf (E 32) (
Som (vNilck (E 0)) fun t37 =>
Som (vFieldAddr 1 t37) fun t38 =>
Som (vNilck (E 0)) fun t40 =>
Som (vFieldAddr 3 t40) fun t41 =>
Alb (aSliceV 1 [.nptr] 2 [(0, 1, t38), (1, 1, t41)]) (Pos.plusT 6 σ.next) (σ.bumpT 8) fun t42 σ1 =>
Ret [some t42] σ1 Q) (
Som (binA .eql .num (E 6) (.int .i64 10)) fun t44 =>
WIf t44 (
wC C R3 ((E.set 44 t44).set 43 t44) σ (blockK 0 (seqK (wC C (.seq (.ops [oq 2 (.mov (.val .nsl))]) .ret)) (retK f17.res Q)))) (
Som (binA .eql .num (E 6) (.int .i64 11)) fun t45 =>
wC C R3 ((((E.set 44 t44).set 43 t44).set 45 t45).set 43 t45) σ (blockK 0 (seqK (wC C (.seq (.ops [oq 2 (.mov (.val .nsl))]) .ret)) (retK f17.res Q)))))
theorem f17.p2_eq (C : CW) (Q : AVal → S → Prop) (R3 : PC) (E : En) (σ : S) : f17.p2 C Q R3 E σ = wC C (f17.t2 R3) E σ (blockK 0 (seqK (wC C (.seq (.ops [oq 2 (.mov (.val .nsl))]) .ret)) (retK f17.res Q))) := by kernel_rfl
abbrev f17.J2 (C : CW) (Q : AVal → S → Prop) (E : En) (σ : S) : Prop := wC C f17.c2 E σ (blockK 0 (seqK (wC C (.seq (.ops [oq 2 (.mov (.val .nsl))]) .ret)) (retK f17.res Q)))
set_option maxRecDepth 20000 in
theorem f17.p2_of {C : CW} {Q : AVal → S → Prop} {E : En} {σ : S} (h : f17.p2 C Q f17.c3 E σ) : f17.J2 C Q E σ := Eq.mp (f17.p2_eq C Q f17.c3 E σ) h
noncomputable def f17.p1 (C : CW) (Q : AVal → S → Prop) (R2 : PC) (E : En) (σ : S) : Prop :=
WIf (E 22) (
Som (vNilck (E 0)) fun t26 =>
Som (vFieldAddr 1 t26) fun t27 =>
Som (vNilck (E 0)) fun t29 =>
Som (vFieldAddr 2 t29) fun t30 =>
Alb (aSliceV 1 [.nptr] 2 [(0, 1, t27), (1, 1, t30)]) (Pos.plusT 6 σ.next) (σ.bumpT 8) fun t31 σ1 =>
Ret [some t31] σ1 Q) (
Som (binA .eql .num (E 6) (.int .i64 6)) fun t33 =>
WIf t33 (
wC C R2 ((E.set 33 t33).set 32 t33) σ (blockK 0 (seqK (wC C (.seq (.ops [oq 2 (.mov (.val .nsl))]) .ret)) (retK f17.res Q)))) (
Som (binA .eql .num (E 6) (.int .i64 8)) fun t34 =>
WIf t34 (
wC C R2 ((((E.set 33 t33).set 32 t33).set 34 t34).set 32 t34) σ (blockK 0 (seqK (wC C (.seq (.ops [oq 2 (.mov (.val .nsl))]) .ret)) (retK f17.res Q)))) (
Som (binA .eql .num (E 6) (.int .i64 12)) fun t35 =>
wC C R2 ((((((E.set 33 t33).set 32 t33).set 34 t34).set 32 t34).set 35 t35).set 32 t35) σ (blockK 0 (seqK (wC C (.seq (.ops [oq 2 (.mov (.val .nsl))]) .ret)) (retK f17.res Q))))))
theorem f17.p1_eq (C : CW) (Q : AVal → S → Prop) (R2 : PC) (E : En) (σ : S) : f17.p1 C Q R2 E σ = wC C (f17.t1 R2) E σ (blockK 0 (seqK (wC C (.seq (.ops [oq 2 (.mov (.val .nsl))]) .ret)) (retK f17.res Q))) := by kernel_rfl
abbrev f17.J1 (C : CW) (Q : AVal → S → Prop) (E : En) (σ : S) : Prop := wC C f17.c1 E σ (blockK 0 (seqK (wC C (.seq (.ops [oq 2 (.mov (.val .nsl))]) .ret)) (retK f17.res Q)))
set_option maxRecDepth 20000 in
theorem f17.p1_of {C : CW} {Q : AVal → S → Prop} {E : En} {σ : S} (h : f17.p1 C Q f17.c2 E σ) : f17.J1 C Q E σ := Eq.mp (f17.p1_eq C Q f17.c2 E σ) h
noncomputable def f17.p0 (C : CW) (Q : AVal → S → Prop) (R1 : PC) (E : En) (σ : S) : Prop :=
WIf (E 7) (
Som (vNilck (E 0)) fun t13 =>
Som (vFieldAddr 1 t13) fun t14 =>
Som (vNilck (E 0)) fun t16 =>
Som (vFieldAddr 2 t16) fun t17 =>
Som (vNilck (E 0)) fun t19 =>
Som (vFieldAddr 3 t19) fun t20 =>
Alb (aSliceV 1 [.nptr] 3 [(0, 1, t14), (1, 1, t17), (2, 1, t20)]) (Pos.plusT 9 σ.next) (σ.bumpT 11) fun t21 σ1 =>
Ret [some t21] σ1 Q) (
Som (binA .eql .num (E 6) (.int .i64 4)) fun t23 =>
WIf t23 (
wC C R1 ((E.set 23 t23).set 22 t23) σ (blockK 0 (seqK (wC C (.seq (.ops [oq 2 (.mov (.val .nsl))]) .ret)) (retK f17.res Q)))) (
Som (binA .eql .num (E 6) (.int .i64 5)) fun t24 =>
wC C R1 ((((E.set 23 t23).set 22 t23).set 24 t24).set 22 t24) σ (blockK 0 (seqK (wC C (.seq (.ops [oq 2 (.mov (.val .nsl))]) .ret)) (retK f17.res Q)))))
theorem f17.p0_eq (C : CW) (Q : AVal → S → Prop) (R1 : PC) (E : En) (σ : S) : f17.p0 C Q R1 E σ = wC C (f17.t0 R1) E σ (blockK 0 (seqK (wC C (.seq (.ops [oq 2 (.mov (.val .nsl))]) .ret)) (retK f17.res Q))) := by kernel_rfl
abbrev f17.J0 (C : CW) (Q : AVal → S → Prop) (E : En) (σ : S) : Prop := wC C f17.c0 E σ (blockK 0 (seqK (wC C (.seq (.ops [oq 2 (.mov (.val .nsl))]) .ret)) (retK f17.res Q)))
set_option maxRecDepth 20000 in
theorem f17.p0_of {C : CW} {Q : AVal → S → Prop} {E : En} {σ : S} (h : f17.p0 C Q f17.c1 E σ) : f17.J0 C Q E σ := Eq.mp (f17.p0_eq C Q f17.c1 E σ) h
noncomputable def f17.body (R0 : PC) : PC := (.seq (.ops [oq 2 (.mov (.val .nsl))]) (.seq (.seq (.ops [oq 3 (.mov (ot 0)), oq 4 (.nilck (ot 3)), oq 5 (.fieldAddr 0 (ot 4)), oq 6 (.load1 (ot 5))]) (.block 0 (.seq (.seq (.ops [oq 8 (.bin .eql .num (ot 6) (.val (.int .i64 1))), oq 7 (.mov (ot 8))]) (.cond (ot 7) .skip (.seq (.ops [oq 9 (.bin .eql .num (ot 6) (.val (.int .i64 3))), oq 7 (.mov (ot 9))]) (.cond (ot 7) .skip (.seq (.ops [oq 10 (.bin .eql .num (ot 6) (.val (.int .i64 2))), oq 7 (.mov (ot 10))]) (.cond (ot 7) .skip (.ops [oq 11 (.bin .eql .num (ot 6) (.val (.int .i64 7))), oq 7 (.mov (ot 11))]))))))) R0))) (.seq (.ops [oq 2 (.mov (.val .nsl))]) .ret)))
noncomputable def f17.fn : PFn := .code (slotsN 50) (f17.body f17.c0) f17.res
noncomputable def f17 (C : CW) (R0 : PC) (a0 : AVal) (σ : S) (Q : AVal → S → Prop) : Prop :=
Som (vNilck a0) fun t4 =>
Som (vFieldAddr 0 t4) fun t5 =>
Som (vLoad1 t5 σ) fun t6 =>
Som (binA .eql .num t6 (.int .i64 1)) fun t8 =>
WIf t8 (
wC C R0 ((((((((E0.set 0 a0).set 2 .nsl).set 3 a0).set 4 t4).set 5 t5).set 6 t6).set 8 t8).set 7 t8) σ (blockK 0 (seqK (wC C (.seq (.ops [oq 2 (.mov (.val .nsl))]) .ret)) (retK f17.res Q)))) (
Som (binA .eql .num t6 (.int .i64 3)) fun t9 =>
WIf t9 (
wC C R0 ((((((((((E0.set 0 a0).set 2 .nsl).set 3 a0).set 4 t4).set 5 t5).set 6 t6).set 8 t8).set 7 t8).set 9 t9).set 7 t9) σ (blockK 0 (seqK (wC C (.seq (.ops [oq 2 (.mov (.val .nsl))]) .ret)) (retK f17.res Q)))) (
Som (binA .eql .num t6 (.int .i64 2)) fun t10 =>
WIf t10 (
wC C R0 ((((((((((((E0.set 0 a0).set 2 .nsl).set 3 a0).set 4 t4).set 5 t5).set 6 t6).set 8 t8).set 7 t8).set 9 t9).set 7 t9).set 10 t10).set 7 t10) σ (blockK 0 (seqK (wC C (.seq (.ops [oq 2 (.mov (.val .nsl))]) .ret)) (retK f17.res Q)))) (
Som (binA .eql .num t6 (.int .i64 7)) fun t11 =>
wC C R0 ((((((((((((((E0.set 0 a0).set 2 .nsl).set 3 a0).set 4 t4).set 5 t5).set 6 t6).set 8 t8).set 7 t8).set 9 t9).set 7 t9).set 10 t10).set 7 t10).set 11 t11).set 7 t11) σ (blockK 0 (seqK (wC C (.seq (.ops [oq 2 (.mov (.val .nsl))]) .ret)) (retK f17.res Q))))))
theorem f17_eq (C : CW) (R0 : PC) (a0 : AVal) (σ : S) (Q : AVal → S → Prop) : f17 C R0  a0 σ Q = wC C (f17.body R0) (E0.set 0 a0) σ (retK f17.res Q) := by kernel_rfl
theorem f17_ent (a0 : AVal) : enterE [a0] (slotsN 50) E0 = some (E0.set 0 a0) := by kernel_rfl
set_option maxRecDepth 20000 in
theorem f17_wf {tab : Nat → Option PFn} (ht : tab 17 = some f17.fn) {a0 : AVal} {σ : S} {Q : AVal → S → Prop} (h : f17 (WF tab) f17.c0  a0 σ Q) : WF tab 17 [a0] σ Q := wFn_sound ht (wFn_code (f17_ent a0) (Eq.mp (f17_eq (WF tab) f17.c0  a0 σ Q) h))
noncomputable def f18.c0 : PC := (.seq (.seq (.ops [oq 7 (.mov (ot 6)), oq 8 (.mov (ot 0)), oq 9 (.lenStr (ot 8)), oq 10 (.bin .leq .num (ot 7) (ot 9))]) (.cond (ot 10) .skip (.exit 0))) (.seq (.block 1 (.seq (.ops [oq 13 (.mov (ot 6)), oq 14 (.mov (ot 0)), oq 15 (.lenStr (ot 14)), oq 16 (.bin .eql .num (ot 13) (ot 15)), oq 17 (.mov (ot 16)), oqg 18 17 false (.mov (ot 0)), oqg 19 17 false (.mov (ot 6)), oqg 20 17 false (.idxStr (ot 18) (ot 19)), oqg 21 17 false (.bin .eql .num (ot 20) (.val (.int .u8 32))), oq 22 (.pick (ot 17) (.val (.bool true)) (ot 21))]) (.cond (ot 22) (.seq (.seq (.ops [oq 23 (.mov (ot 6)), oq 24 (.mov (ot 5)), oq 25 (.bin .eql .num (ot 23) (ot 24))]) (.cond (ot 25) (.seq (.ops [oq 2 (.mov (.val .nsl)), oq 3 (.mov (.val (.bool false)))]) .ret) .skip)) (.seq (.ops [oq 26 (.mov (ot 4)), oq 27 (.mov (ot 0)), oq 28 (.mov (ot 5)), oq 29 (.mov (ot 6)), oq 30 (.slStr (ot 27) (some (ot 28)) (some (ot 29))), oa 31 (.bslice 1 [(.str [])] 1 [(0, 1, (ot 30))]), oe 32 (.append 1 16 (ot 26) (ot 31)), oq 4 (.mov (ot 32))]) (.ops [oq 33 (.mov (ot 6)), oq 34 (.bin .add .num (ot 33) (.val (.int .i64 1))), oq 5 (.mov (ot 34))]))) .skip))) (.ops [oq 11 (.mov (ot 6)), oq 12 (.bin .add .num (ot 11) (.val (.int .i64 1))), oq 6 (.mov (ot 12))])))
noncomputable def f18.res : List PRes := [.tmp (sn 2), .tmp (sn 3)]
noncomputable def f18.p0 (C : CW) (Q : AVal → S → Prop) (R0 : PC) (E : En) (σ : S) : Prop :=
Som (vLenStr (E 0)) fun t9 =>
Som (binA .leq .num (E 6) t9) fun t10 =>
WIf t10 (
Som (vLenStr (E 0)) fun t15 =>
Som (binA .eql .num (E 6) t15) fun t16 =>
Som (gq1 (isB t16 false) (some (E 0))) fun t18 =>
Som (gq1 (isB t16 false) (some (E 6))) fun t19 =>
Som (gq1 (isB t16 false) (vIdxStr t18 t19)) fun t20 =>
Som (gq1 (isB t16 false) (binA .eql .num t20 (.int .u8 32))) fun t21 =>
Som (vPick t16 (.bool true) t21) fun t22 =>
WIf t22 (
Som (binA .eql .num (E 6) (E 5)) fun t25 =>
WIf t25 (
Ret [some .nsl, some (.bool false)] σ Q) (
Som (vSlStr (E 0) (some (E 5)) (some (E 6))) fun t30 =>
Ala (aSliceV 1 [(.str [])] 1 [(0, 1, t30)]) σ fun t31 σ1 =>
Eff (appendA 1 1 16 (E 4) t31 σ1) fun t32 σ2 =>
Som (binA .add .num (E 6) (.int .i64 1)) fun t34 =>
Som (binA .add .num (E 6) (.int .i64 1)) fun t12 =>
wC C (.loop R0) (((((((((((((((((((((((((((((((E.set 7 (E 6)).set 8 (E 0)).set 9 t9).set 10 t10).set 13 (E 6)).set 14 (E 0)).set 15 t15).set 16 t16).set 17 t16).set 18 t18).set 19 t19).set 20 t20).set 21 t21).set 22 t22).set 23 (E 6)).set 24 (E 5)).set 25 t25).set 26 (E 4)).set 27 (E 0)).set 28 (E 5)).set 29 (E 6)).set 30 t30).set 31 t31).set 32 t32).set 4 t32).set 33 (E 6)).set 34 t34).set 5 t34).set 11 (E 6)).set 12 t12).set 6 t12) σ2 (blockK 0 (seqK (wC C (.seq (.ops [oq 35 (.mov (ot 4)), oq 2 (.mov (ot 35)), oq 3 (.mov (.val (.bool true)))]) .ret)) (retK f18.res Q))))) (
Som (binA .add .num (E 6) (.int .i64 1)) fun t12 =>
wC C (.loop R0) (((((((((((((((((E.set 7 (E 6)).set 8 (E 0)).set 9 t9).set 10 t10).set 13 (E 6)).set 14 (E 0)).set 15 t15).set 16 t16).set 17 t16).set 18 t18).set 19 t19).set 20 t20).set 21 t21).set 22 t22).set 11 (E 6)).set 12 t12).set 6 t12) σ (blockK 0 (seqK (wC C (.seq (.ops [oq 35 (.mov (ot 4)), oq 2 (.mov (ot 35)), oq 3 (.mov (.val (.bool true)))]) .ret)) (retK f18.res Q))))) (
Ret [some (E 4), some (.bool true)] σ Q)
theorem f18.p0_eq (C : CW) (Q : AVal → S → Prop) (R0 : PC) (E : En) (σ : S) : f18.p0 C Q R0 E σ = wC C f18.c0 E σ (loopK C R0 (blockK 0 (seqK (wC C (.seq (.ops [oq 35 (.mov (ot 4)), oq 2 (.mov (ot 35)), oq 3 (.mov (.val (.bool true)))]) .ret)) (retK f18.res Q)))) := by kernel_rfl
abbrev f18.L0 (C : CW) (Q : AVal → S → Prop) (E : En) (σ : S) : Prop := wC C (.loop f18.c0) E σ (blockK 0 (seqK (wC C (.seq (.ops [oq 35 (.mov (ot 4)), oq 2 (.mov (ot 35)), oq 3 (.mov (.val (.bool true)))]) .ret)) (retK f18.res Q)))
set_option maxRecDepth 20000 in
theorem f18.p0_of {tab : Nat → Option PFn} {Q : AVal → S → Prop} {E : En} {σ : S} (h : f18.p0 (WF tab) Q f18.c0 E σ) : f18.L0 (WF tab) Q E σ := wLoop_step (Eq.mp (f18.p0_eq (WF tab) Q f18.c0 E σ) h)
noncomputable def f18.body (R0 : PC) : PC := (.seq (.ops [oq 2 (.mov (.val .nsl)), oq 3 (.mov (.val (.bool false)))]) (.seq (.ops [oq 4 (.mov (.val .nsl))]) (.seq (.ops [oq 5 (.mov (.val (.int .i64 0)))]) (.seq (.seq (.ops [oq 6 (.mov (.val (.int .i64 0)))]) (.block 0 (.loop R0))) (.seq (.ops [oq 35 (.mov (ot 4)), oq 2 (.mov (ot 35)), oq 3 (.mov (.val (.bool true)))]) .ret)))))
noncomputable def f18.fn : PFn := .code (slotsN 36) (f18.body f18.c0) f18.res
noncomputable def f18 (C : CW) (R0 : PC) (a0 : AVal) (σ : S) (Q : AVal → S → Prop) : Prop :=
wC C (.loop R0) ((((((E0.set 0 a0).set 2 .nsl).set 3 (.bool false)).set 4 .nsl).set 5 (.int .i64 0)).set 6 (.int .i64 0)) σ (blockK 0 (seqK (wC C (.seq (.ops [oq 35 (.mov (ot 4)), oq 2 (.mov (ot 35)), oq 3 (.mov (.val (.bool true)))]) .ret)) (retK f18.res Q)))
theorem f18_eq (C : CW) (R0 : PC) (a0 : AVal) (σ : S) (Q : AVal → S → Prop) : f18 C R0  a0 σ Q = wC C (f18.body R0) (E0.set 0 a0) σ (retK f18.res Q) := by kernel_rfl
theorem f18_ent (a0 : AVal) : enterE [a0] (slotsN 36) E0 = some (E0.set 0 a0) := by kernel_rfl
set_option maxRecDepth 20000 in
theorem f18_wf {tab : Nat → Option PFn} (ht : tab 18 = some f18.fn) {a0 : AVal} {σ : S} {Q : AVal → S → Prop} (h : f18 (WF tab) f18.c0  a0 σ Q) : WF tab 18 [a0] σ Q := wFn_sound ht (wFn_code (f18_ent a0) (Eq.mp (f18_eq (WF tab) f18.c0  a0 σ Q) h))
noncomputable def f19.c0 : PC := (.seq (.seq (.ops [oq 14 (.mov (ot 7)), oq 15 (.mov (ot 1)), oq 16 (.bin .lss .num (ot 14) (ot 15))]) (.cond (ot 16) .skip (.exit 0))) (.seq (.block 1 (.seq (.ops [oq 20 (.mov (ot 0)), oq 21 (.mov (ot 7)), oq 22 (.ixSl 1 (ot 20) (ot 21)), oq 23 (.load1 (ot 22)), oe 24 (.call 33 [(ot 23)]), oq 19 (.mov (ot 24)), oq 25 (.extract 0 (ot 19)), oq 26 (.extract 1 (ot 19)), oq 8 (.mov (ot 25)), oq 9 (.mov (ot 26))]) (.seq (.seq (.ops [oq 27 (.mov (ot 9)), oq 28 (.un .not (ot 27))]) (.cond (ot 28) (.seq (.ops [oq 4 (.mov (.val .nsl)), oq 5 (.mov (.val (.bool false)))]) .ret) .skip)) (.ops [oq 29 (.mov (ot 6)), oq 30 (.mov (ot 8)), oa 31 (.bslice 1 [(.int .i64 0)] 1 [(0, 1, (ot 30))]), oe 32 (.append 1 8 (ot 29) (ot 31)), oq 6 (.mov (ot 32))])))) (.ops [oq 17 (.mov (ot 7)), oq 18 (.bin .add .num (ot 17) (.val (.int .i64 1))), oq 7 (.mov (ot 18))])))
noncomputable def f19.res : List PRes := [.tmp (sn 4), .tmp (sn 5)]
noncomputable def f19.p0 (C : CW) (Q : AVal → S → Prop) (R0 : PC) (E : En) (σ : S) : Prop :=
Som (binA .lss .num (E 7) (E 1)) fun t16 =>
WIf t16 (
Som (vIxSl 1 (E 0) (E 7)) fun t22 =>
Som (vLoad1 t22 σ) fun t23 =>
C 33 [t23] σ fun t24 σ1 =>
Som (vExtract 0 t24) fun t25 =>
Som (vExtract 1 t24) fun t26 =>
Som (unA .not t26) fun t28 =>
WIf t28 (
Ret [some .nsl, some (.bool false)] σ1 Q) (
Ala (aSliceV 1 [(.int .i64 0)] 1 [(0, 1, t25)]) σ1 fun t31 σ2 =>
Eff (appendA 1 1 8 (E 6) t31 σ2) fun t32 σ3 =>
Som (binA .add .num (E 7) (.int .i64 1)) fun t18 =>
wC C (.loop R0) (((((((((((((((((((((((E.set 14 (E 7)).set 15 (E 1)).set 16 t16).set 20 (E 0)).set 21 (E 7)).set 22 t22).set 23 t23).set 24 t24).set 19 t24).set 25 t25).set 26 t26).set 8 t25).set 9 t26).set 27 t26).set 28 t28).set 29 (E 6)).set 30 t25).set 31 t31).set 32 t32).set 6 t32).set 17 (E 7)).set 18 t18).set 7 t18) σ3 (blockK 0 (seqK (wC C (.seq (.ops [oq 33 (.mov (ot 6)), oq 4 (.mov (ot 33)), oq 5 (.mov (.val (.bool true)))]) .ret)) (retK f19.res Q))))) (
Ret [some (E 6), some (.bool true)] σ Q)
theorem f19.p0_eq (C : CW) (Q : AVal → S → Prop) (R0 : PC) (E : En) (σ : S) : f19.p0 C Q R0 E σ = wC C f19.c0 E σ (loopK C R0 (blockK 0 (seqK (wC C (.seq (.ops [oq 33 (.mov (ot 6)), oq 4 (.mov (ot 33)), oq 5 (.mov (.val (.bool true)))]) .ret)) (retK f19.res Q)))) := by kernel_rfl
abbrev f19.L0 (C : CW) (Q : AVal → S → Prop) (E : En) (σ : S) : Prop := wC C (.loop f19.c0) E σ (blockK 0 (seqK (wC C (.seq (.ops [oq 33 (.mov (ot 6)), oq 4 (.mov (ot 33)), oq 5 (.mov (.val (.bool true)))]) .ret)) (retK f19.res Q)))
set_option maxRecDepth 20000 in
theorem f19.p0_of {tab : Nat → Option PFn} {Q : AVal → S → Prop} {E : En} {σ : S} (h : f19.p0 (WF tab) Q f19.c0 E σ) : f19.L0 (WF tab) Q E σ := wLoop_step (Eq.mp (f19.p0_eq (WF tab) Q f19.c0 E σ) h)
noncomputable def f19.body (R0 : PC) : PC := (.seq (.ops [oq 4 (.mov (.val .nsl)), oq 5 (.mov (.val (.bool false)))]) (.seq (.seq (.ops [oq 10 (.mov (ot 0)), oq 11 (.lenSl (ot 10)), oq 12 (.mov (ot 1)), oq 13 (.bin .neq .num (ot 11) (ot 12))]) (.cond (ot 13) (.seq (.ops [oq 4 (.mov (.val .nsl)), oq 5 (.mov (.val (.bool false)))]) .ret) .skip)) (.seq (.ops [oq 6 (.mov (.val .nsl))]) (.seq (.seq (.ops [oq 7 (.mov (.val (.int .i64 0)))]) (.block 0 (.loop R0))) (.seq (.ops [oq 33 (.mov (ot 6)), oq 4 (.mov (ot 33)), oq 5 (.mov (.val (.bool true)))]) .ret)))))
noncomputable def f19.fn : PFn := .code (slotsN 34) (f19.body f19.c0) f19.res
noncomputable def f19 (C : CW) (R0 : PC) (a0 a1 : AVal) (σ : S) (Q : AVal → S → Prop) : Prop :=
Som (vLenSl a0) fun t11 =>
Som (binA .neq .num t11 a1) fun t13 =>
WIf t13 (
Ret [some .nsl, some (.bool false)] σ Q) (
wC C (.loop R0) ((((((((((E0.set 0 a0).set 1 a1).set 4 .nsl).set 5 (.bool false)).set 10 a0).set 11 t11).set 12 a1).set 13 t13).set 6 .nsl).set 7 (.int .i64 0)) σ (blockK 0 (seqK (wC C (.seq (.ops [oq 33 (.mov (ot 6)), oq 4 (.mov (ot 33)), oq 5 (.mov (.val (.bool true)))]) .ret)) (retK f19.res Q))))
theorem f19_eq (C : CW) (R0 : PC) (a0 a1 : AVal) (σ : S) (Q : AVal → S → Prop) : f19 C R0  a0 a1 σ Q = wC C (f19.body R0) ((E0.set 0 a0).set 1 a1) σ (retK f19.res Q) := by kernel_rfl
theorem f19_ent (a0 a1 : AVal) : enterE [a0, a1] (slotsN 34) E0 = some ((E0.set 0 a0).set 1 a1) := by kernel_rfl
set_option maxRecDepth 20000 in
theorem f19_wf {tab : Nat → Option PFn} (ht : tab 19 = some f19.fn) {a0 a1 : AVal} {σ : S} {Q : AVal → S → Prop} (h : f19 (WF tab) f19.c0  a0 a1 σ Q) : WF tab 19 [a0, a1] σ Q := wFn_sound ht (wFn_code (f19_ent a0 a1) (Eq.mp (f19_eq (WF tab) f19.c0  a0 a1 σ Q) h))
noncomputable def f20.res : List PRes := [.cellN 19 (sn 2), .tmp (sn 3)]
noncomputable def f20.body : PC := (.seq (.ops [oa 2 (.alloc [(.int .i64 0), (.int .i64 0), (.int .i64 0), (.int .i64 0), (.int .i64 0), (.int .i64 0), (.int .i64 0), (.int .i64 0), (.int .i64 0), (.int .i64 0), (.int .i64 0), (.int .i64 0), (.int .i64 0), (.int .i64 0), (.int .i64 0), (.int .i64 0), (.bool false), (.int .i64 0), (.int .i64 0)]), oq 3 (.mov (.val (.bool false)))]) (.seq (.seq (.ops [oq 8 (.mov (ot 0)), oq 9 (.lenSl (ot 8)), oq 10 (.bin .eql .num (ot 9) (.val (.int .i64 0))), oq 11 (.mov (ot 10)), oqg 12 11 false (.mov (ot 0)), oqg 13 11 false (.ixSl 1 (ot 12) (.val (.int .i64 0))), oqg 14 11 false (.load1 (ot 13)), oeg 15 11 false (.call 34 [(ot 14)]), oqg 16 11 false (.bin .lss .num (ot 15) (.val (.int .i64 0))), oq 17 (.pick (ot 11) (.val (.bool true)) (ot 16))]) (.cond (ot 17) (.seq (.ops [oq 18 (.build [(.int .i64 0), (.int .i64 0), (.int .i64 0), (.int .i64 0), (.int .i64 0), (.int .i64 0), (.int .i64 0), (.int .i64 0), (.int .i64 0), (.int .i64 0), (.int .i64 0), (.int .i64 0), (.int .i64 0), (.int .i64 0), (.int .i64 0), (.int .i64 0), (.bool false), (.int .i64 0), (.int .i64 0)] []), ⟨none, none, (.e (.store 19 (ot 2) (ot 18)))⟩, oq 3 (.mov (.val (.bool false)))]) .ret) .skip)) (.seq (.draw 12 [⟨0, oq 20 (.mov (ot 0)), []⟩, ⟨1, oq 21 (.slSl 1 (ot 20) (some (.val (.int .i64 1))) none none), []⟩, ⟨2, oq 22 (.mov (ot 0)), []⟩, ⟨3, oq 23 (.ixSl 1 (ot 22) (.val (.int .i64 0))), []⟩, ⟨4, oq 24 (.load1 (ot 23)), []⟩, ⟨5, oe 25 (.call 34 [(ot 24)]), []⟩, ⟨6, oe 26 (.call 19 [(ot 21), (ot 25)]), []⟩, ⟨7, oq 19 (.mov (ot 26)), []⟩, ⟨8, oq 27 (.extract 0 (ot 19)), []⟩, ⟨9, oq 28 (.extract 1 (ot 19)), []⟩, ⟨10, oq 4 (.mov (ot 27)), []⟩, ⟨11, oq 5 (.mov (ot 28)), []⟩]) (.seq (.seq (.ops [oq 29 (.mov (ot 5)), oq 30 (.un .not (ot 29))]) (.cond (ot 30) (.seq (.ops [oq 31 (.build [(.int .i64 0), (.int .i64 0), (.int .i64 0), (.int .i64 0), (.int .i64 0), (.int .i64 0), (.int .i64 0), (.int .i64 0), (.int .i64 0), (.int .i64 0), (.int .i64 0), (.int .i64 0), (.int .i64 0), (.int .i64 0), (.int .i64 0), (.int .i64 0), (.bool false), (.int .i64 0), (.int .i64 0)] []), ⟨none, none, (.e (.store 19 (ot 2) (ot 31)))⟩, oq 3 (.mov (.val (.bool false)))]) .ret) .skip)) (.seq (.seq (.ops [oq 32 (.mov (ot 0)), oq 33 (.ixSl 1 (ot 32) (.val (.int .i64 0))), oq 34 (.load1 (ot 33))]) (.block 0 (.seq (.ops [oq 36 (.bin .eql .num (ot 34) (.val (.str [113, 117, 101, 114, 121]))), oq 35 (.mov (ot 36))]) (.cond (ot 35) (.seq (.ops [oq 37 (.mov (ot 4)), oq 38 (.ixSl 1 (ot 37) (.val (.int .i64 0))), oq 39 (.load1 (ot 38)), oq 40 (.build [(.int .i64 0), (.int .i64 0), (.int .i64 0), (.int .i64 0), (.int .i64 0), (.int .i64 0), (.int .i64 0), (.int .i64 0), (.int .i64 0), (.int .i64 0), (.int .i64 0), (.int .i64 0), (.int .i64 0), (.int .i64 0), (.int .i64 0), (.int .i64 0), (.bool false), (.int .i64 0), (.int .i64 0)] [(0, 1, (.val (.int .i64 7))), (17, 1, (ot 39))]), ⟨none, none, (.e (.store 19 (ot 2) (ot 40)))⟩, oq 3 (.mov (.val (.bool true)))]) .ret) (.seq (.ops [oq 42 (.bin .eql .num (ot 34) (.val (.str [99, 97, 110, 99, 101, 108]))), oq 41 (.mov (ot 42))]) (.cond (ot 41) (.seq (.ops [oq 43 (.mov (ot 4)), oq 44 (.ixSl 1 (ot 43) (.val (.int .i64 0))), oq 45 (.load1 (ot 44)), oq 46 (.build [(.int .i64 0), (.int .i64 0), (.int .i64 0), (.int .i64 0), (.int .i64 0), (.int .i64 0), (.int .i64 0), (.int .i64 0), (.int .i64 0), (.int .i64 0), (.int .i64 0), (.int .i64 0), (.int .i64 0), (.int .i64 0), (.int .i64 0), (.int .i64 0), (.bool false), (.int .i64 0), (.int .i64 0)] [(0, 1, (.val (.int .i64 2))), (17, 1, (ot 45))]), ⟨none, none, (.e (.store 19 (ot 2) (ot 46)))⟩, oq 3 (.mov (.val (.bool true)))]) .ret) (.seq (.ops [oq 48 (.bin .eql .num (ot 34) (.val (.str [114, 101, 116, 105, 114, 101]))), oq 47 (.mov (ot 48))]) (.cond (ot 47) (.seq (.ops [oq 49 (.mov (ot 4)), oq 50 (.ixSl 1 (ot 49) (.val (.int .i64 0))), oq 51 (.load1 (ot 50)), oq 52 (.build [(.int .i64 0), (.int .i64 0), (.int .i64 0), (.int .i64 0), (.int .i64 0), (.int .i64 0), (.int .i64 0), (.int .i64 0), (.int .i64 0), (.int .i64 0), (.int .i64 0), (.int .i64 0), (.int .i64 0), (.int .i64 0), (.int .i64 0), (.int .i64 0), (.bool false), (.int .i64 0), (.int .i64 0)] [(0, 1, (.val (.int .i64 4))), (17, 1, (ot 51))]), ⟨none, none, (.e (.store 19 (ot 2) (ot 52)))⟩, oq 3 (.mov (.val (.bool true)))]) .ret) (.seq (.ops [oq 54 (.bin .eql .num (ot 34) (.val (.str [114, 101, 112, 108, 97, 110]))), oq 53 (.mov (ot 54))]) (.cond (ot 53) (.seq (.ops [oq 55 (.mov (ot 4)), oq 56 (.ixSl 1 (ot 55) (.val (.int .i64 0))), oq 57 (.load1 (ot 56)), oq 58 (.build [(.int .i64 0), (.int .i64 0), (.int .i64 0), (.int .i64 0), (.int .i64 0), (.int .i64 0), (.int .i64 0), (.int .i64 0), (.int .i64 0), (.int .i64 0), (.int .i64 0), (.int .i64 0), (.int .i64 0), (.int .i64 0), (.int .i64 0), (.int .i64 0), (.bool false), (.int .i64 0), (.int .i64 0)] [(0, 1, (.val (.int .i64 6))), (18, 1, (ot 57))]), ⟨none, none, (.e (.store 19 (ot 2) (ot 58)))⟩, oq 3 (.mov (.val (.bool true)))]) .ret) (.seq (.ops [oq 60 (.bin .eql .num (ot 34) (.val (.str [112, 114, 111, 103, 114, 101, 115, 115]))), oq 59 (.mov (ot 60))]) (.cond (ot 59) (.seq (.draw 9 [⟨0, oq 61 (.mov (ot 4)), []⟩, ⟨1, oq 62 (.ixSl 1 (ot 61) (.val (.int .i64 0))), []⟩, ⟨2, oq 63 (.load1 (ot 62)), []⟩, ⟨3, oq 64 (.mov (ot 4)), []⟩, ⟨4, oq 65 (.ixSl 1 (ot 64) (.val (.int .i64 1))), []⟩, ⟨5, oq 66 (.load1 (ot 65)), []⟩, ⟨6, oq 67 (.build [(.int .i64 0), (.int .i64 0), (.int .i64 0), (.int .i64 0), (.int .i64 0), (.int .i64 0), (.int .i64 0), (.int .i64 0), (.int .i64 0), (.int .i64 0), (.int .i64 0), (.int .i64 0), (.int .i64 0), (.int .i64 0), (.int .i64 0), (.int .i64 0), (.bool false), (.int .i64 0), (.int .i64 0)] [(0, 1, (.val (.int .i64 5))), (17, 1, (ot 63)), (18, 1, (ot 66))]), []⟩, ⟨7, ⟨none, none, (.e (.store 19 (ot 2) (ot 67)))⟩, []⟩, ⟨8, oq 3 (.mov (.val (.bool true))), []⟩]) .ret) (.seq (.ops [oq 69 (.bin .eql .num (ot 34) (.val (.str [100, 114, 105, 118, 101, 114]))), oq 68 (.mov (ot 69))]) (.cond (ot 68) (.seq (.draw 23 [⟨0, oq 70 (.mov (ot 4)), []⟩, ⟨1, oq 71 (.ixSl 1 (ot 70) (.val (.int .i64 0))), []⟩, ⟨2, oq 72 (.load1 (ot 71)), []⟩, ⟨3, oq 73 (.mov (ot 4)), []⟩, ⟨4, oq 74 (.ixSl 1 (ot 73) (.val (.int .i64 1))), []⟩, ⟨5, oq 75 (.load1 (ot 74)), []⟩, ⟨6, oq 76 (.mov (ot 4)), []⟩, ⟨7, oq 77 (.ixSl 1 (ot 76) (.val (.int .i64 2))), []⟩, ⟨8, oq 78 (.load1 (ot 77)), []⟩, ⟨9, oq 79 (.mov (ot 4)), []⟩, ⟨10, oq 80 (.ixSl 1 (ot 79) (.val (.int .i64 3))), []⟩, ⟨11, oq 81 (.load1 (ot 80)), []⟩, ⟨12, oq 82 (.mov (ot 4)), []⟩, ⟨13, oq 83 (.ixSl 1 (ot 82) (.val (.int .i64 4))), []⟩, ⟨14, oq 84 (.load1 (ot 83)), []⟩, ⟨15, oq 85 (.build [(.int .i64 0), (.int .i64 0)] [(0, 1, (ot 81)), (1, 1, (ot 84))]), []⟩, ⟨16, oq 86 (.mov (ot 4)), []⟩, ⟨17, oq 87 (.ixSl 1 (ot 86) (.val (.int .i64 5))), []⟩, ⟨18, oq 88 (.load1 (ot 87)), []⟩, ⟨19, oq 89 (.bin .eql .num (ot 88) (.val (.int .i64 1))), []⟩, ⟨20, oq 90 (.build [(.int .i64 0), (.int .i64 0), (.int .i64 0), (.int .i64 0), (.int .i64 0), (.bool false)] [(0, 1, (ot 72)), (1, 1, (ot 75)), (2, 1, (ot 78)), (3, 2, (ot 85)), (5, 1, (ot 89))]), []⟩, ⟨21, oa 6 (.alloc [(.int .i64 0), (.int .i64 0), (.int .i64 0), (.int .i64 0), (.int .i64 0), (.bool false)]), []⟩, ⟨22, ⟨none, none, (.e (.store 6 (ot 6) (ot 90)))⟩, []⟩]) (.seq (.draw 14 [⟨0, oq 91 (.loadN 6 (ot 6)), []⟩, ⟨1, oq 92 (.build [(.int .i64 0), (.int .i64 0), (.int .i64 0), (.int .i64 0), (.int .i64 0), (.int .i64 0), (.int .i64 0), (.int .i64 0), (.int .i64 0), (.int .i64 0), (.int .i64 0), (.int .i64 0), (.int .i64 0), (.int .i64 0), (.int .i64 0), (.int .i64 0), (.bool false), (.int .i64 0), (.int .i64 0)] [(0, 1, (.val (.int .i64 3))), (11, 6, (ot 91))]), []⟩, ⟨2, oq 93 (.mov (ot 4)), []⟩, ⟨3, oq 94 (.ixSl 1 (ot 93) (.val (.int .i64 5))), []⟩, ⟨4, oq 95 (.load1 (ot 94)), []⟩, ⟨5, oq 96 (.bin .eql .num (ot 95) (.val (.int .i64 0))), []⟩, ⟨6, oq 97 (.mov (ot 96)), []⟩, ⟨7, oqg 98 97 false (.mov (ot 4)), []⟩, ⟨8, oqg 99 97 false (.ixSl 1 (ot 98) (.val (.int .i64 5))), []⟩, ⟨9, oqg 100 97 false (.load1 (ot 99)), []⟩, ⟨10, oqg 101 97 false (.bin .eql .num (ot 100) (.val (.int .i64 1))), []⟩, ⟨11, oq 102 (.pick (ot 97) (.val (.bool true)) (ot 101)), []⟩, ⟨12, ⟨none, none, (.e (.store 19 (ot 2) (ot 92)))⟩, [oqg 100 97 false (.load1 (ot 99))]⟩, ⟨13, oq 3 (.mov (ot 102)), []⟩]) .ret)) .skip)))))))))))))) (.seq (.draw 15 [⟨0, oq 103 (.mov (ot 4)), []⟩, ⟨1, oq 104 (.ixSl 1 (ot 103) (.val (.int .i64 0))), []⟩, ⟨2, oq 105 (.load1 (ot 104)), []⟩, ⟨3, oq 106 (.mov (ot 4)), []⟩, ⟨4, oq 107 (.ixSl 1 (ot 106) (.val (.int .i64 1))), []⟩, ⟨5, oq 108 (.load1 (ot 107)), []⟩, ⟨6, oq 109 (.mov (ot 4)), []⟩, ⟨7, oq 110 (.slSl 1 (ot 109) (some (.val (.int .i64 2))) (some (.val (.int .i64 6))) none), []⟩, ⟨9, oq 112 (.mov (ot 4)), []⟩, ⟨10, oq 113 (.slSl 1 (ot 112) (some (.val (.int .i64 6))) (some (.val (.int .i64 10))) none), []⟩, ⟨8, oe 111 (.call 35 [(ot 110)]), [oq 105 (.load1 (ot 104)), oq 108 (.load1 (ot 107))]⟩, ⟨11, oe 114 (.call 35 [(ot 113)]), [oq 105 (.load1 (ot 104)), oq 108 (.load1 (ot 107))]⟩, ⟨12, oq 115 (.build [(.int .i64 0), (.int .i64 0), (.int .i64 0), (.int .i64 0), (.int .i64 0), (.int .i64 0), (.int .i64 0), (.int .i64 0), (.int .i64 0), (.int .i64 0)] [(0, 1, (ot 105)), (1, 1, (ot 108)), (2, 4, (ot 111)), (6, 4, (ot 114))]), []⟩, ⟨13, oa 7 (.alloc [(.int .i64 0), (.int .i64 0), (.int .i64 0), (.int .i64 0), (.int .i64 0), (.int .i64 0), (.int .i64 0), (.int .i64 0), (.int .i64 0), (.int .i64 0)]), []⟩, ⟨14, ⟨none, none, (.e (.store 10 (ot 7) (ot 115)))⟩, []⟩]) (.seq (.ops [oq 116 (.loadN 10 (ot 7)), oq 117 (.build [(.int .i64 0), (.int .i64 0), (.int .i64 0), (.int .i64 0), (.int .i64 0), (.int .i64 0), (.int .i64 0), (.int .i64 0), (.int .i64 0), (.int .i64 0), (.int .i64 0), (.int .i64 0), (.int .i64 0), (.int .i64 0), (.int .i64 0), (.int .i64 0), (.bool false), (.int .i64 0), (.int .i64 0)] [(0, 1, (.val (.int .i64 1))), (1, 10, (ot 116))]), ⟨none, none, (.e (.store 19 (ot 2) (ot 117)))⟩, oq 3 (.mov (.val (.bool true)))]) .ret)))))))
noncomputable def f20.fn : PFn := .code (slotsN 118) f20.body f20.res
noncomputable def f20 (C : CW) (a0 : AVal) (σ : S) (Q : AVal → S → Prop) : Prop :=
Ala (aAllocV [(.int .i64 0), (.int .i64 0), (.int .i64 0), (.int .i64 0), (.int .i64 0), (.int .i64 0), (.int .i64 0), (.int .i64 0), (.int .i64 0), (.int .i64 0), (.int .i64 0), (.int .i64 0), (.int .i64 0), (.int .i64 0), (.int .i64 0), (.int .i64 0), (.bool false), (.int .i64 0), (.int .i64 0)]) σ fun t2 σ1 =>
Som (vLenSl a0) fun t9 =>
Som (binA .eql .num t9 (.int .i64 0)) fun t10 =>
Som (gq1 (isB t10 false) (some a0)) fun t12 =>
Som (gq1 (isB t10 false) (vIxSl 1 t12 (.int .i64 0))) fun t13 =>
Som (gq1 (isB t10 false) (vLoad1 t13 σ1)) fun t14 =>
gE1 (isB t10 false) (fun K => C 34 [t14] σ1 K) σ1 fun t15 σ2 =>
Som (gq1 (isB t10 false) (binA .lss .num t15 (.int .i64 0))) fun t16 =>
Som (vPick t10 (.bool true) t16) fun t17 =>
WIf t17 (
Som (vBuild [(.int .i64 0), (.int .i64 0), (.int .i64 0), (.int .i64 0), (.int .i64 0), (.int .i64 0), (.int .i64 0), (.int .i64 0), (.int .i64 0), (.int .i64 0), (.int .i64 0), (.int .i64 0), (.int .i64 0), (.int .i64 0), (.int .i64 0), (.int .i64 0), (.bool false), (.int .i64 0), (.int .i64 0)] []) fun t18 =>
Eff (storeW 19 t2 t18 σ2) fun _ σ3 =>
Ret [vLoadN 19 t2 σ3, some (.bool false)] σ3 Q) (
Som (vSlSl 1 a0 (some (.int .i64 1)) none none) fun t21 =>
Som (vIxSl 1 a0 (.int .i64 0)) fun t23 =>
Som (vLoad1 t23 (σ2.bumpT 12)) fun t24 =>
C 34 [t24] (σ2.bumpT 12) fun t25 σ3 =>
C 19 [t21, t25] σ3 fun t26 σ4 =>
Som (vExtract 0 t26) fun t27 =>
Som (vExtract 1 t26) fun t28 =>
Som (unA .not t28) fun t30 =>
WIf t30 (
Som (vBuild [(.int .i64 0), (.int .i64 0), (.int .i64 0), (.int .i64 0), (.int .i64 0), (.int .i64 0), (.int .i64 0), (.int .i64 0), (.int .i64 0), (.int .i64 0), (.int .i64 0), (.int .i64 0), (.int .i64 0), (.int .i64 0), (.int .i64 0), (.int .i64 0), (.bool false), (.int .i64 0), (.int .i64 0)] []) fun t31 =>
Eff (storeW 19 t2 t31 σ4) fun _ σ5 =>
Ret [vLoadN 19 t2 σ5, some (.bool false)] σ5 Q) (
Som (vIxSl 1 a0 (.int .i64 0)) fun t33 =>
Som (vLoad1 t33 σ4) fun t34 =>
Som (binA .eql .num t34 (.str [113, 117, 101, 114, 121])) fun t36 =>
WIf t36 (
Som (vIxSl 1 t27 (.int .i64 0)) fun t38 =>
Som (vLoad1 t38 σ4) fun t39 =>
Som (vBuild [(.int .i64 0), (.int .i64 0), (.int .i64 0), (.int .i64 0), (.int .i64 0), (.int .i64 0), (.int .i64 0), (.int .i64 0), (.int .i64 0), (.int .i64 0), (.int .i64 0), (.int .i64 0), (.int .i64 0), (.int .i64 0), (.int .i64 0), (.int .i64 0), (.bool false), (.int .i64 0), (.int .i64 0)] [(0, 1, (.int .i64 7)), (17, 1, t39)]) fun t40 =>
Eff (storeW 19 t2 t40 σ4) fun _ σ5 =>
Ret [vLoadN 19 t2 σ5, some (.bool true)] σ5 Q) (
Som (binA .eql .num t34 (.str [99, 97, 110, 99, 101, 108])) fun t42 =>
WIf t42 (
Som (vIxSl 1 t27 (.int .i64 0)) fun t44 =>
Som (vLoad1 t44 σ4) fun t45 =>
Som (vBuild [(.int .i64 0), (.int .i64 0), (.int .i64 0), (.int .i64 0), (.int .i64 0), (.int .i64 0), (.int .i64 0), (.int .i64 0), (.int .i64 0), (.int .i64 0), (.int .i64 0), (.int .i64 0), (.int .i64 0), (.int .i64 0), (.int .i64 0), (.int .i64 0), (.bool false), (.int .i64 0), (.int .i64 0)] [(0, 1, (.int .i64 2)), (17, 1, t45)]) fun t46 =>
Eff (storeW 19 t2 t46 σ4) fun _ σ5 =>
Ret [vLoadN 19 t2 σ5, some (.bool true)] σ5 Q) (
Som (binA .eql .num t34 (.str [114, 101, 116, 105, 114, 101])) fun t48 =>
WIf t48 (
Som (vIxSl 1 t27 (.int .i64 0)) fun t50 =>
Som (vLoad1 t50 σ4) fun t51 =>
Som (vBuild [(.int .i64 0), (.int .i64 0), (.int .i64 0), (.int .i64 0), (.int .i64 0), (.int .i64 0), (.int .i64 0), (.int .i64 0), (.int .i64 0), (.int .i64 0), (.int .i64 0), (.int .i64 0), (.int .i64 0), (.int .i64 0), (.int .i64 0), (.int .i64 0), (.bool false), (.int .i64 0), (.int .i64 0)] [(0, 1, (.int .i64 4)), (17, 1, t51)]) fun t52 =>
Eff (storeW 19 t2 t52 σ4) fun _ σ5 =>
Ret [vLoadN 19 t2 σ5, some (.bool true)] σ5 Q) (
Som (binA .eql .num t34 (.str [114, 101, 112, 108, 97, 110])) fun t54 =>
WIf t54 (
Som (vIxSl 1 t27 (.int .i64 0)) fun t56 =>
Som (vLoad1 t56 σ4) fun t57 =>
Som (vBuild [(.int .i64 0), (.int .i64 0), (.int .i64 0), (.int .i64 0), (.int .i64 0), (.int .i64 0), (.int .i64 0), (.int .i64 0), (.int .i64 0), (.int .i64 0), (.int .i64 0), (.int .i64 0), (.int .i64 0), (.int .i64 0), (.int .i64 0), (.int .i64 0), (.bool false), (.int .i64 0), (.int .i64 0)] [(0, 1, (.int .i64 6)), (18, 1, t57)]) fun t58 =>
Eff (storeW 19 t2 t58 σ4) fun _ σ5 =>
Ret [vLoadN 19 t2 σ5, some (.bool true)] σ5 Q) (
Som (binA .eql .num t34 (.str [112, 114, 111, 103, 114, 101, 115, 115])) fun t60 =>
WIf t60 (
Som (vIxSl 1 t27 (.int .i64 0)) fun t62 =>
Som (vLoad1 t62 (σ4.bumpT 9)) fun t63 =>
Som (vIxSl 1 t27 (.int .i64 1)) fun t65 =>
Som (vLoad1 t65 (σ4.bumpT 9)) fun t66 =>
Som (vBuild [(.int .i64 0), (.int .i64 0), (.int .i64 0), (.int .i64 0), (.int .i64 0), (.int .i64 0), (.int .i64 0), (.int .i64 0), (.int .i64 0), (.int .i64 0), (.int .i64 0), (.int .i64 0), (.int .i64 0), (.int .i64 0), (.int .i64 0), (.int .i64 0), (.bool false), (.int .i64 0), (.int .i64 0)] [(0, 1, (.int .i64 5)), (17, 1, t63), (18, 1, t66)]) fun t67 =>
Eff (storeW 19 t2 t67 (σ4.bumpT 9)) fun _ σ5 =>
Ret [vLoadN 19 t2 σ5, some (.bool true)] σ5 Q) (
Som (binA .eql .num t34 (.str [100, 114, 105, 118, 101, 114])) fun t69 =>
WIf t69 (
Som (vIxSl 1 t27 (.int .i64 0)) fun t71 =>
Som (vLoad1 t71 (σ4.bumpT 23)) fun t72 =>
Som (vIxSl 1 t27 (.int .i64 1)) fun t74 =>
Som (vLoad1 t74 (σ4.bumpT 23)) fun t75 =>
Som (vIxSl 1 t27 (.int .i64 2)) fun t77 =>
Som (vLoad1 t77 (σ4.bumpT 23)) fun t78 =>
Som (vIxSl 1 t27 (.int .i64 3)) fun t80 =>
Som (vLoad1 t80 (σ4.bumpT 23)) fun t81 =>
Som (vIxSl 1 t27 (.int .i64 4)) fun t83 =>
Som (vLoad1 t83 (σ4.bumpT 23)) fun t84 =>
Som (vBuild [(.int .i64 0), (.int .i64 0)] [(0, 1, t81), (1, 1, t84)]) fun t85 =>
Som (vIxSl 1 t27 (.int .i64 5)) fun t87 =>
Som (vLoad1 t87 (σ4.bumpT 23)) fun t88 =>
Som (binA .eql .num t88 (.int .i64 1)) fun t89 =>
Som (vBuild [(.int .i64 0), (.int .i64 0), (.int .i64 0), (.int .i64 0), (.int .i64 0), (.bool false)] [(0, 1, t72), (1, 1, t75), (2, 1, t78), (3, 2, t85), (5, 1, t89)]) fun t90 =>
Alb (aAllocV [(.int .i64 0), (.int .i64 0), (.int .i64 0), (.int .i64 0), (.int .i64 0), (.bool false)]) (Pos.plusT 21 σ4.next) (σ4.bumpT 23) fun t6 σ5 =>
Eff (storeW 6 t6 t90 σ5) fun _ σ6 =>
Som (vLoadN 6 t6 (σ6.bumpT 14)) fun t91 =>
Som (vBuild [(.int .i64 0), (.int .i64 0), (.int .i64 0), (.int .i64 0), (.int .i64 0), (.int .i64 0), (.int .i64 0), (.int .i64 0), (.int .i64 0), (.int .i64 0), (.int .i64 0), (.int .i64 0), (.int .i64 0), (.int .i64 0), (.int .i64 0), (.int .i64 0), (.bool false), (.int .i64 0), (.int .i64 0)] [(0, 1, (.int .i64 3)), (11, 6, t91)]) fun t92 =>
Som (vIxSl 1 t27 (.int .i64 5)) fun t94 =>
Som (vLoad1 t94 (σ6.bumpT 14)) fun t95 =>
Som (binA .eql .num t95 (.int .i64 0)) fun t96 =>
Som (gq1 (isB t96 false) (some t27)) fun t98 =>
Som (gq1 (isB t96 false) (vIxSl 1 t98 (.int .i64 5))) fun t99 =>
Som (gq1 (isB t96 false) (vLoad1 t99 (σ6.bumpT 14))) fun t100 =>
Som (gq1 (isB t96 false) (binA .eql .num t100 (.int .i64 1))) fun t101 =>
Som (vPick t96 (.bool true) t101) fun t102 =>
Eff (storeW 19 t2 t92 (σ6.bumpT 14)) fun _ σ7 =>
Sure ((notB (isB t96 false) || SameO (vLoad1 t99 σ7) t100)) <|
Ret [vLoadN 19 t2 σ7, some t102] σ7 Q) (
Som (vIxSl 1 t27 (.int .i64 0)) fun t104 =>
Som (vLoad1 t104 (σ4.bumpT 15)) fun t105 =>
Som (vIxSl 1 t27 (.int .i64 1)) fun t107 =>
Som (vLoad1 t107 (σ4.bumpT 15)) fun t108 =>
Som (vSlSl 1 t27 (some (.int .i64 2)) (some (.int .i64 6)) none) fun t110 =>
Som (vSlSl 1 t27 (some (.int .i64 6)) (some (.int .i64 10)) none) fun t113 =>
C 35 [t110] (σ4.bumpT 15) fun t111 σ5 =>
Sure (SameO (vLoad1 t104 σ5) t105) <|
Sure (SameO (vLoad1 t107 σ5) t108) <|
C 35 [t113] σ5 fun t114 σ6 =>
Sure (SameO (vLoad1 t104 σ6) t105) <|
Sure (SameO (vLoad1 t107 σ6) t108) <|
Som (vBuild [(.int .i64 0), (.int .i64 0), (.int .i64 0), (.int .i64 0), (.int .i64 0), (.int .i64 0), (.int .i64 0), (.int .i64 0), (.int .i64 0), (.int .i64 0)] [(0, 1, t105), (1, 1, t108), (2, 4, t111), (6, 4, t114)]) fun t115 =>
Alb (aAllocV [(.int .i64 0), (.int .i64 0), (.int .i64 0), (.int .i64 0), (.int .i64 0), (.int .i64 0), (.int .i64 0), (.int .i64 0), (.int .i64 0), (.int .i64 0)]) (Pos.plusT 13 σ4.next) σ6 fun t7 σ7 =>
Eff (storeW 10 t7 t115 σ7) fun _ σ8 =>
Som (vLoadN 10 t7 σ8) fun t116 =>
Som (vBuild [(.int .i64 0), (.int .i64 0), (.int .i64 0), (.int .i64 0), (.int .i64 0), (.int .i64 0), (.int .i64 0), (.int .i64 0), (.int .i64 0), (.int .i64 0), (.int .i64 0), (.int .i64 0), (.int .i64 0), (.int .i64 0), (.int .i64 0), (.int .i64 0), (.bool false), (.int .i64 0), (.int .i64 0)] [(0, 1, (.int .i64 1)), (1, 10, t116)]) fun t117 =>
Eff (storeW 19 t2 t117 σ8) fun _ σ9 =>
Ret [vLoadN 19 t2 σ9, some (.bool true)] σ9 Q))))))))
theorem f20_eq (C : CW) (a0 : AVal) (σ : S) (Q : AVal → S → Prop) : f20 C   a0 σ Q = wC C f20.body (E0.set 0 a0) σ (retK f20.res Q) := by kernel_rfl
theorem f20_ent (a0 : AVal) : enterE [a0] (slotsN 118) E0 = some (E0.set 0 a0) := by kernel_rfl
set_option maxRecDepth 20000 in
theorem f20_wf {tab : Nat → Option PFn} (ht : tab 20 = some f20.fn) {a0 : AVal} {σ : S} {Q : AVal → S → Prop} (h : f20 (WF tab)   a0 σ Q) : WF tab 20 [a0] σ Q := wFn_sound ht (wFn_code (f20_ent a0) (Eq.mp (f20_eq (WF tab)   a0 σ Q) h))
noncomputable def f21.res : List PRes := [.tmp (sn 2), .tmp (sn 3)]
noncomputable def f21.body : PC := (.seq (.ops [oq 2 (.mov (.val (.int .i64 0))), oq 3 (.mov (.val (.int .i64 0)))]) (.seq (.seq (.ops [oq 4 (.mov (ot 0))]) (.block 0 (.seq (.ops [oq 6 (.bin .eql .num (ot 4) (.val (.str [100, 101, 108, 105, 118, 101, 114]))), oq 5 (.mov (ot 6))]) (.cond (ot 5) (.seq (.ops [oq 2 (.mov (.val (.int .i64 1))), oq 3 (.mov (.val (.int .i64 3)))]) .ret) (.seq (.ops [oq 8 (.bin .eql .num (ot 4) (.val (.str [116, 119, 105, 99, 101]))), oq 7 (.mov (ot 8))]) (.cond (ot 7) (.seq (.ops [oq 2 (.mov (.val (.int .i64 3))), oq 3 (.mov (.val (.int .i64 3)))]) .ret) (.seq (.ops [oq 10 (.bin .eql .num (ot 4) (.val (.str [100, 114, 111, 112]))), oq 9 (.mov (ot 10))]) (.cond (ot 9) (.seq (.ops [oq 2 (.mov (.val (.int .i64 2))), oq 3 (.mov (.val (.int .i64 3)))]) .ret) (.seq (.ops [oq 12 (.bin .eql .num (ot 4) (.val (.str [99, 114, 97, 115, 104]))), oq 11 (.mov (ot 12))]) (.cond (ot 11) (.seq (.ops [oq 2 (.mov (.val (.int .i64 7))), oq 3 (.mov (.val (.int .i64 3)))]) .ret) (.seq (.ops [oq 14 (.bin .eql .num (ot 4) (.val (.str [99, 117, 116]))), oq 13 (.mov (ot 14))]) (.cond (ot 13) (.seq (.ops [oq 2 (.mov (.val (.int .i64 4))), oq 3 (.mov (.val (.int .i64 2)))]) .ret) (.seq (.ops [oq 16 (.bin .eql .num (ot 4) (.val (.str [109, 101, 110, 100]))), oq 15 (.mov (ot 16))]) (.cond (ot 15) (.seq (.ops [oq 2 (.mov (.val (.int .i64 5))), oq 3 (.mov (.val (.int .i64 2)))]) .ret) (.seq (.ops [oq 18 (.bin .eql .num (ot 4) (.val (.str [116, 105, 99, 107]))), oq 17 (.mov (ot 18))]) (.cond (ot 17) (.seq (.ops [oq 2 (.mov (.val (.int .i64 6))), oq 3 (.mov (.val (.int .i64 2)))]) .ret) (.seq (.ops [oq 20 (.bin .eql .num (ot 4) (.val (.str [115, 116, 97, 114, 116]))), oq 19 (.mov (ot 20))]) (.cond (ot 19) (.seq (.ops [oq 2 (.mov (.val (.int .i64 8))), oq 3 (.mov (.val (.int .i64 2)))]) .ret) (.seq (.ops [oq 22 (.bin .eql .num (ot 4) (.val (.str [97, 114, 109]))), oq 21 (.mov (ot 22))]) (.cond (ot 21) (.seq (.ops [oq 2 (.mov (.val (.int .i64 12))), oq 3 (.mov (.val (.int .i64 2)))]) .ret) (.seq (.ops [oq 24 (.bin .eql .num (ot 4) (.val (.str [99, 111, 109, 112, 97, 99, 116]))), oq 23 (.mov (ot 24))]) (.cond (ot 23) (.seq (.ops [oq 2 (.mov (.val (.int .i64 10))), oq 3 (.mov (.val (.int .i64 1)))]) .ret) (.seq (.ops [oq 26 (.bin .eql .num (ot 4) (.val (.str [119, 105, 112, 101]))), oq 25 (.mov (ot 26))]) (.cond (ot 25) (.seq (.ops [oq 2 (.mov (.val (.int .i64 11))), oq 3 (.mov (.val (.int .i64 1)))]) .ret) .skip)))))))))))))))))))))))) (.seq (.ops [oq 2 (.mov (.val (.int .i64 0))), oq 3 (.mov (.val (.int .i64 0)))]) .ret)))
noncomputable def f21.fn : PFn := .code (slotsN 27) f21.body f21.res
noncomputable def f21 (C : CW) (a0 : AVal) (σ : S) (Q : AVal → S → Prop) : Prop :=
Som (binA .eql .num a0 (.str [100, 101, 108, 105, 118, 101, 114])) fun t6 =>
WIf t6 (
Ret [some (.int .i64 1), some (.int .i64 3)] σ Q) (
Som (binA .eql .num a0 (.str [116, 119, 105, 99, 101])) fun t8 =>
WIf t8 (
Ret [some (.int .i64 3), some (.int .i64 3)] σ Q) (
Som (binA .eql .num a0 (.str [100, 114, 111, 112])) fun t10 =>
WIf t10 (
Ret [some (.int .i64 2), some (.int .i64 3)] σ Q) (
Som (binA .eql .num a0 (.str [99, 114, 97, 115, 104])) fun t12 =>
WIf t12 (
Ret [some (.int .i64 7), some (.int .i64 3)] σ Q) (
Som (binA .eql .num a0 (.str [99, 117, 116])) fun t14 =>
WIf t14 (
Ret [some (.int .i64 4), some (.int .i64 2)] σ Q) (
Som (binA .eql .num a0 (.str [109, 101, 110, 100])) fun t16 =>
WIf t16 (
Ret [some (.int .i64 5), some (.int .i64 2)] σ Q) (
Som (binA .eql .num a0 (.str [116, 105, 99, 107])) fun t18 =>
WIf t18 (
Ret [some (.int .i64 6), some (.int .i64 2)] σ Q) (
Som (binA .eql .num a0 (.str [115, 116, 97, 114, 116])) fun t20 =>
WIf t20 (
Ret [some (.int .i64 8), some (.int .i64 2)] σ Q) (
Som (binA .eql .num a0 (.str [97, 114, 109])) fun t22 =>
WIf t22 (
Ret [some (.int .i64 12), some (.int .i64 2)] σ Q) (
Som (binA .eql .num a0 (.str [99, 111, 109, 112, 97, 99, 116])) fun t24 =>
WIf t24 (
Ret [some (.int .i64 10), some (.int .i64 1)] σ Q) (
Som (binA .eql .num a0 (.str [119, 105, 112, 101])) fun t26 =>
WIf t26 (
Ret [some (.int .i64 11), some (.int .i64 1)] σ Q) (
Ret [some (.int .i64 0), some (.int .i64 0)] σ Q)))))))))))
theorem f21_eq (C : CW) (a0 : AVal) (σ : S) (Q : AVal → S → Prop) : f21 C   a0 σ Q = wC C f21.body (E0.set 0 a0) σ (retK f21.res Q) := by kernel_rfl
theorem f21_ent (a0 : AVal) : enterE [a0] (slotsN 27) E0 = some (E0.set 0 a0) := by kernel_rfl
set_option maxRecDepth 20000 in
theorem f21_wf {tab : Nat → Option PFn} (ht : tab 21 = some f21.fn) {a0 : AVal} {σ : S} {Q : AVal → S → Prop} (h : f21 (WF tab)   a0 σ Q) : WF tab 21 [a0] σ Q := wFn_sound ht (wFn_code (f21_ent a0) (Eq.mp (f21_eq (WF tab)   a0 σ Q) h))
noncomputable def f24.res : List PRes := [.tmp (sn 2)]
noncomputable def f24.body : PC := (.seq (.ops [oa 1 (.box (ot 0)), oq 2 (.mov (.val (.bool false)))]) (.seq (.ops [oq 9 (.fieldAddr 0 (ot 1)), oq 10 (.load1 (ot 9)), oe 11 (.call 42 [(ot 10)]), oq 8 (.mov (ot 11)), oq 12 (.extract 0 (ot 8)), oq 13 (.extract 1 (ot 8)), oq 14 (.extract 2 (ot 8)), oq 15 (.extract 3 (ot 8)), oq 16 (.extract 4 (ot 8)), oq 3 (.mov (ot 12)), oq 4 (.mov (ot 13)), oq 5 (.mov (ot 14)), oq 6 (.mov (ot 15)), oq 7 (.mov (ot 16))]) (.seq (.ops [oq 17 (.mov (ot 7)), oq 18 (.mov (ot 17)), oqg 19 18 true (.mov (ot 3)), oqg 20 18 true (.mov (ot 19)), oqg 21 20 false (.fieldAddr 1 (ot 1)), oqg 22 20 false (.loadN 10 (ot 21)), oqg 23 20 false (.build [(.int .i64 0), (.int .i64 0), (.int .i64 0), (.int .i64 0), (.int .i64 0), (.int .i64 0), (.int .i64 0), (.int .i64 0), (.int .i64 0), (.int .i64 0)] []), oqg 24 20 false (.eqAgg [.i, .i, .i, .i, .i, .i, .i, .i, .i, .i] false (ot 22) (ot 23)), oqg 25 18 true (.pick (ot 20) (.val (.bool true)) (ot 24)), oq 26 (.pick (ot 18) (ot 25) (.val (.bool false))), oq 27 (.mov (ot 26)), oqg 28 27 true (.mov (ot 4)), oqg 29 27 true (.mov (ot 28)), oqg 30 29 false (.fieldAddr 11 (ot 1)), oqg 31 29 false (.loadN 6 (ot 30)), oqg 32 29 false (.build [(.int .i64 0), (.int .i64 0), (.int .i64 0), (.int .i64 0), (.int .i64 0), (.bool false)] []), oqg 33 29 false (.eqAgg [.i, .i, .i, .i, .i, .b] false (ot 31) (ot 32)), oqg 34 27 true (.pick (ot 29) (.val (.bool true)) (ot 33)), oq 35 (.pick (ot 27) (ot 34) (.val (.bool false))), oq 36 (.mov (ot 35)), oqg 37 36 true (.mov (ot 5)), oqg 38 36 true (.mov (ot 37)), oqg 39 38 false (.fieldAddr 17 (ot 1)), oqg 40 38 false (.load1 (ot 39)), oqg 41 38 false (.bin .eql .num (ot 40) (.val (.int .i64 0))), oqg 42 36 true (.pick (ot 38) (.val (.bool true)) (ot 41)), oq 43 (.pick (ot 36) (ot 42) (.val (.bool false))), oq 44 (.mov (ot 43)), oqg 45 44 true (.mov (ot 6)), oqg 46 44 true (.mov (ot 45)), oqg 47 46 false (.fieldAddr 18 (ot 1)), oqg 48 46 false (.load1 (ot 47)), oqg 49 46 false (.bin .eql .num (ot 48) (.val (.int .i64 0))), oqg 50 44 true (.pick (ot 46) (.val (.bool true)) (ot 49)), oq 51 (.pick (ot 44) (ot 50) (.val (.bool false))), oq 2 (.mov (ot 51))]) .ret)))
noncomputable def f24.fn : PFn := .code (slotsN 52) f24.body f24.res
noncomputable def f24 (C : CW) (a0 : AVal) (σ : S) (Q : AVal → S → Prop) : Prop :=
Ala (aBoxV a0) σ fun t1 σ1 =>
Som (vFieldAddr 0 t1) fun t9 =>
Som (vLoad1 t9 σ1) fun t10 =>
C 42 [t10] σ1 fun t11 σ2 =>
Som (vExtract 0 t11) fun t12 =>
Som (vExtract 1 t11) fun t13 =>
Som (vExtract 2 t11) fun t14 =>
Som (vExtract 3 t11) fun t15 =>
Som (vExtract 4 t11) fun t16 =>
Som (gq1 (isB t16 true) (some t12)) fun t19 =>
Som (gq1 (isB t16 true) (some t19)) fun t20 =>
Som (gq1 (isB t20 false) (vFieldAddr 1 t1)) fun t21 =>
Som (gq1 (isB t20 false) (vLoadN 10 t21 σ2)) fun t22 =>
Som (gq1 (isB t20 false) (vBuild [(.int .i64 0), (.int .i64 0), (.int .i64 0), (.int .i64 0), (.int .i64 0), (.int .i64 0), (.int .i64 0), (.int .i64 0), (.int .i64 0), (.int .i64 0)] [])) fun t23 =>
Som (gq1 (isB t20 false) (vEqAgg [.i, .i, .i, .i, .i, .i, .i, .i, .i, .i] false t22 t23)) fun t24 =>
Som (gq1 (isB t16 true) (vPick t20 (.bool true) t24)) fun t25 =>
Som (vPick t16 t25 (.bool false)) fun t26 =>
Som (gq1 (isB t26 true) (some t13)) fun t28 =>
Som (gq1 (isB t26 true) (some t28)) fun t29 =>
Som (gq1 (isB t29 false) (vFieldAddr 11 t1)) fun t30 =>
Som (gq1 (isB t29 false) (vLoadN 6 t30 σ2)) fun t31 =>
Som (gq1 (isB t29 false) (vBuild [(.int .i64 0), (.int .i64 0), (.int .i64 0), (.int .i64 0), (.int .i64 0), (.bool false)] [])) fun t32 =>
Som (gq1 (isB t29 false) (vEqAgg [.i, .i, .i, .i, .i, .b] false t31 t32)) fun t33 =>
Som (gq1 (isB t26 true) (vPick t29 (.bool true) t33)) fun t34 =>
Som (vPick t26 t34 (.bool false)) fun t35 =>
Som (gq1 (isB t35 true) (some t14)) fun t37 =>
Som (gq1 (isB t35 true) (some t37)) fun t38 =>
Som (gq1 (isB t38 false) (vFieldAddr 17 t1)) fun t39 =>
Som (gq1 (isB t38 false) (vLoad1 t39 σ2)) fun t40 =>
Som (gq1 (isB t38 false) (binA .eql .num t40 (.int .i64 0))) fun t41 =>
Som (gq1 (isB t35 true) (vPick t38 (.bool true) t41)) fun t42 =>
Som (vPick t35 t42 (.bool false)) fun t43 =>
Som (gq1 (isB t43 true) (some t15)) fun t45 =>
Som (gq1 (isB t43 true) (some t45)) fun t46 =>
Som (gq1 (isB t46 false) (vFieldAddr 18 t1)) fun t47 =>
Som (gq1 (isB t46 false) (vLoad1 t47 σ2)) fun t48 =>
Som (gq1 (isB t46 false) (binA .eql .num t48 (.int .i64 0))) fun t49 =>
Som (gq1 (isB t43 true) (vPick t46 (.bool true) t49)) fun t50 =>
Som (vPick t43 t50 (.bool false)) fun t51 =>
Ret [some t51] σ2 Q
theorem f24_eq (C : CW) (a0 : AVal) (σ : S) (Q : AVal → S → Prop) : f24 C   a0 σ Q = wC C f24.body (E0.set 0 a0) σ (retK f24.res Q) := by kernel_rfl
theorem f24_ent (a0 : AVal) : enterE [a0] (slotsN 52) E0 = some (E0.set 0 a0) := by kernel_rfl
set_option maxRecDepth 20000 in
theorem f24_wf {tab : Nat → Option PFn} (ht : tab 24 = some f24.fn) {a0 : AVal} {σ : S} {Q : AVal → S → Prop} (h : f24 (WF tab)   a0 σ Q) : WF tab 24 [a0] σ Q := wFn_sound ht (wFn_code (f24_ent a0) (Eq.mp (f24_eq (WF tab)   a0 σ Q) h))
noncomputable def f25.c0 : PC := (.seq (.ops [oq 10 (.bin .lss .num (ot 9) (ot 8))]) (.seq (.cond (ot 10) .skip (.exit 0)) (.seq (.block 1 (.seq (.ops [oq 11 (.ixSl 1 (ot 7) (ot 9)), oq 12 (.load1 (ot 11)), oq 6 (.mov (ot 12))]) (.ops [oq 13 (.mov (ot 0)), oq 14 (.mov (ot 6)), oq 15 (.nilck (ot 14)), oq 16 (.load1 (ot 15)), oe 17 (.call 32 [(ot 16)]), oq 18 (.bin .add .num (.val (.str [32])) (ot 17)), oq 19 (.bin .add .num (ot 13) (ot 18)), oq 0 (.mov (ot 19))]))) (.ops [oq 20 (.bin .add .num (ot 9) (.val (.int .i64 1))), oq 9 (.mov (ot 20))]))))
noncomputable def f25.res : List PRes := [.tmp (sn 4)]
noncomputable def f25.p0 (C : CW) (Q : AVal → S → Prop) (R0 : PC) (E : En) (σ : S) : Prop :=
Som (binA .lss .num (E 9) (E 8)) fun t10 =>
WIf t10 (
Som (vIxSl 1 (E 7) (E 9)) fun t11 =>
Som (vLoad1 t11 σ) fun t12 =>
Som (vNilck t12) fun t15 =>
Som (vLoad1 t15 σ) fun t16 =>
C 32 [t16] σ fun t17 σ1 =>
Som (binA .add .num (.str [32]) t17) fun t18 =>
Som (binA .add .num (E 0) t18) fun t19 =>
Som (binA .add .num (E 9) (.int .i64 1)) fun t20 =>
wC C (.loop R0) ((((((((((((((E.set 10 t10).set 11 t11).set 12 t12).set 6 t12).set 13 (E 0)).set 14 t12).set 15 t15).set 16 t16).set 17 t17).set 18 t18).set 19 t19).set 0 t19).set 20 t20).set 9 t20) σ1 (blockK 0 (seqK (wC C (.seq (.ops [oq 21 (.mov (ot 0)), oq 4 (.mov (ot 21))]) .ret)) (retK f25.res Q)))) (
Ret [some (E 0)] σ Q)
theorem f25.p0_eq (C : CW) (Q : AVal → S → Prop) (R0 : PC) (E : En) (σ : S) : f25.p0 C Q R0 E σ = wC C f25.c0 E σ (loopK C R0 (blockK 0 (seqK (wC C (.seq (.ops [oq 21 (.mov (ot 0)), oq 4 (.mov (ot 21))]) .ret)) (retK f25.res Q)))) := by kernel_rfl
abbrev f25.L0 (C : CW) (Q : AVal → S → Prop) (E : En) (σ : S) : Prop := wC C (.loop f25.c0) E σ (blockK 0 (seqK (wC C (.seq (.ops [oq 21 (.mov (ot 0)), oq 4 (.mov (ot 21))]) .ret)) (retK f25.res Q)))
set_option maxRecDepth 20000 in
theorem f25.p0_of {tab : Nat → Option PFn} {Q : AVal → S → Prop} {E : En} {σ : S} (h : f25.p0 (WF tab) Q f25.c0 E σ) : f25.L0 (WF tab) Q E σ := wLoop_step (Eq.mp (f25.p0_eq (WF tab) Q f25.c0 E σ) h)
noncomputable def f25.body (R0 : PC) : PC := (.seq (.ops [oq 4 (.mov (.val (.str [])))]) (.seq (.seq (.ops [oq 7 (.mov (ot 1)), oq 8 (.lenSl (ot 7)), oq 9 (.mov (.val (.int .i64 0)))]) (.block 0 (.loop R0))) (.seq (.ops [oq 21 (.mov (ot 0)), oq 4 (.mov (ot 21))]) .ret)))
noncomputable def f25.fn : PFn := .code (slotsN 22) (f25.body f25.c0) f25.res
noncomputable def f25 (C : CW) (R0 : PC) (a0 a1 : AVal) (σ : S) (Q : AVal → S → Prop) : Prop :=
Som (vLenSl a1) fun t8 =>
wC C (.loop R0) ((((((E0.set 0 a0).set 1 a1).set 4 (.str [])).set 7 a1).set 8 t8).set 9 (.int .i64 0)) σ (blockK 0 (seqK (wC C (.seq (.ops [oq 21 (.mov (ot 0)), oq 4 (.mov (ot 21))]) .ret)) (retK f25.res Q)))
theorem f25_eq (C : CW) (R0 : PC) (a0 a1 : AVal) (σ : S) (Q : AVal → S → Prop) : f25 C R0  a0 a1 σ Q = wC C (f25.body R0) ((E0.set 0 a0).set 1 a1) σ (retK f25.res Q) := by kernel_rfl
theorem f25_ent (a0 a1 : AVal) : enterE [a0, a1] (slotsN 22) E0 = some ((E0.set 0 a0).set 1 a1) := by kernel_rfl
set_option maxRecDepth 20000 in
theorem f25_wf {tab : Nat → Option PFn} (ht : tab 25 = some f25.fn) {a0 a1 : AVal} {σ : S} {Q : AVal → S → Prop} (h : f25 (WF tab) f25.c0  a0 a1 σ Q) : WF tab 25 [a0, a1] σ Q := wFn_sound ht (wFn_code (f25_ent a0 a1) (Eq.mp (f25_eq (WF tab) f25.c0  a0 a1 σ Q) h))
noncomputable def f26.res : List PRes := [.tmp (sn 2)]
noncomputable def f26.body : PC := (.seq (.ops [oa 1 (.box (ot 0)), oq 2 (.mov (.val (.str [])))]) (.seq (.ops [oe 7 (.call 43 [(ot 1)]), oq 6 (.mov (ot 7)), oq 8 (.extract 0 (ot 6)), oq 9 (.extract 1 (ot 6)), oq 3 (.mov (ot 8)), oq 4 (.mov (ot 9))]) (.seq (.ops [oq 10 (.mov (ot 3)), oq 11 (.mov (ot 4)), oe 12 (.call 25 [(ot 10), (ot 11)]), oq 5 (.mov (ot 12))]) (.seq (.seq (.ops [oq 13 (.fieldAddr 0 (ot 1)), oq 14 (.load1 (ot 13)), oq 15 (.bin .eql .num (ot 14) (.val (.int .i64 3))), oq 16 (.mov (ot 15)), oqg 17 16 true (.fieldAddr 11 (ot 1)), oqg 18 16 true (.fieldAddr 5 (ot 17)), oqg 19 16 true (.load1 (ot 18)), oq 20 (.pick (ot 16) (ot 19) (.val (.bool false)))]) (.cond (ot 20) (.ops [oq 21 (.mov (ot 5)), oq 22 (.bin .add .num (ot 21) (.val (.str [32, 49]))), oq 5 (.mov (ot 22))]) (.seq (.ops [oq 23 (.fieldAddr 0 (ot 1)), oq 24 (.load1 (ot 23)), oq 25 (.bin .eql .num (ot 24) (.val (.int .i64 3)))]) (.cond (ot 25) (.ops [oq 26 (.mov (ot 5)), oq 27 (.bin .add .num (ot 26) (.val (.str [32, 48]))), oq 5 (.mov (ot 27))]) .skip)))) (.seq (.ops [oq 28 (.mov (ot 5)), oq 2 (.mov (ot 28))]) .ret)))))
noncomputable def f26.fn : PFn := .code (slotsN 29) f26.body f26.res
noncomputable def f26 (C : CW) (a0 : AVal) (σ : S) (Q : AVal → S → Prop) : Prop :=
Ala (aBoxV a0) σ fun t1 σ1 =>
C 43 [t1] σ1 fun t7 σ2 =>
Som (vExtract 0 t7) fun t8 =>
Som (vExtract 1 t7) fun t9 =>
C 25 [t8, t9] σ2 fun t12 σ3 =>
Som (vFieldAddr 0 t1) fun t13 =>
Som (vLoad1 t13 σ3) fun t14 =>
Som (binA .eql .num t14 (.int .i64 3)) fun t15 =>
Som (gq1 (isB t15 true) (vFieldAddr 11 t1)) fun t17 =>
Som (gq1 (isB t15 true) (vFieldAddr 5 t17)) fun t18 =>
Som (gq1 (isB t15 true) (vLoad1 t18 σ3)) fun t19 =>
Som (vPick t15 t19 (.bool false)) fun t20 =>
WIf t20 (
Som (binA .add .num t12 (.str [32, 49])) fun t22 =>
Ret [some t22] σ3 Q) (
Som (vFieldAddr 0 t1) fun t23 =>
Som (vLoad1 t23 σ3) fun t24 =>
Som (binA .eql .num t24 (.int .i64 3)) fun t25 =>
WIf t25 (
Som (binA .add .num t12 (.str [32, 48])) fun t27 =>
Ret [some t27] σ3 Q) (
Ret [some t12] σ3 Q))
theorem f26_eq (C : CW) (a0 : AVal) (σ : S) (Q : AVal → S → Prop) : f26 C   a0 σ Q = wC C f26.body (E0.set 0 a0) σ (retK f26.res Q) := by kernel_rfl
theorem f26_ent (a0 : AVal) : enterE [a0] (slotsN 29) E0 = some (E0.set 0 a0) := by kernel_rfl
set_option maxRecDepth 20000 in
theorem f26_wf {tab : Nat → Option PFn} (ht : tab 26 = some f26.fn) {a0 : AVal} {σ : S} {Q : AVal → S → Prop} (h : f26 (WF tab)   a0 σ Q) : WF tab 26 [a0] σ Q := wFn_sound ht (wFn_code (f26_ent a0) (Eq.mp (f26_eq (WF tab)   a0 σ Q) h))
noncomputable def f27.c0 : PC := (.seq (.ops [oq 49 (.fieldAddr 0 (ot 3)), oq 50 (.load1 (ot 49)), oq 51 (.fieldAddr 1 (ot 3)), oq 52 (.load1 (ot 51)), oq 53 (.fieldAddr 2 (ot 3)), oq 54 (.load1 (ot 53)), oq 55 (.fieldAddr 3 (ot 3)), oq 56 (.fieldAddr 0 (ot 55)), oq 57 (.load1 (ot 56)), oq 58 (.fieldAddr 3 (ot 3)), oq 59 (.fieldAddr 1 (ot 58)), oq 60 (.load1 (ot 59)), oq 61 (.mov (ot 4)), oa 62 (.bslice 1 [(.int .i64 0)] 6 [(0, 1, (ot 50)), (1, 1, (ot 52)), (2, 1, (ot 54)), (3, 1, (ot 57)), (4, 1, (ot 60)), (5, 1, (ot 61))]), oe 63 (.call 28 [(.val (.str [100, 114, 105, 118, 101, 114])), (ot 62)]), oq 2 (.mov (ot 63))]) .ret)
noncomputable def f27.res : List PRes := [.tmp (sn 2)]
noncomputable def f27.p0 (C : CW) (Q : AVal → S → Prop) (E : En) (σ : S) : Prop :=
Som (vFieldAddr 0 (E 3)) fun t49 =>
Som (vLoad1 t49 σ) fun t50 =>
Som (vFieldAddr 1 (E 3)) fun t51 =>
Som (vLoad1 t51 σ) fun t52 =>
Som (vFieldAddr 2 (E 3)) fun t53 =>
Som (vLoad1 t53 σ) fun t54 =>
Som (vFieldAddr 3 (E 3)) fun t55 =>
Som (vFieldAddr 0 t55) fun t56 =>
Som (vLoad1 t56 σ) fun t57 =>
Som (vFieldAddr 3 (E 3)) fun t58 =>
Som (vFieldAddr 1 t58) fun t59 =>
Som (vLoad1 t59 σ) fun t60 =>
Ala (aSliceV 1 [(.int .i64 0)] 6 [(0, 1, t50), (1, 1, t52), (2, 1, t54), (3, 1, t57), (4, 1, t60), (5, 1, (E 4))]) σ fun t62 σ1 =>
C 28 [(.str [100, 114, 105, 118, 101, 114]), t62] σ1 fun t63 σ2 =>
Ret [some t63] σ2 Q
theorem f27.p0_eq (C : CW) (Q : AVal → S → Prop) (E : En) (σ : S) : f27.p0 C Q  E σ = wC C f27.c0 E σ (blockK 0 (seqK (wC C (.seq (.ops [oq 64 (.fieldAddr 1 (ot 1)), oq 65 (.loadN 10 (ot 64)), oa 5 (.alloc [(.int .i64 0), (.int .i64 0), (.int .i64 0), (.int .i64 0), (.int .i64 0), (.int .i64 0), (.int .i64 0), (.int .i64 0), (.int .i64 0), (.int .i64 0)]), ⟨none, none, (.e (.store 10 (ot 5) (ot 65)))⟩]) (.seq (.ops [oq 66 (.fieldAddr 0 (ot 5)), oq 67 (.load1 (ot 66)), oq 68 (.fieldAddr 1 (ot 5)), oq 69 (.load1 (ot 68)), oq 70 (.fieldAddr 2 (ot 5)), oq 71 (.fieldAddr 0 (ot 70)), oq 72 (.load1 (ot 71)), oq 73 (.fieldAddr 2 (ot 5)), oq 74 (.fieldAddr 1 (ot 73)), oq 75 (.fieldAddr 0 (ot 74)), oq 76 (.load1 (ot 75)), oq 77 (.fieldAddr 2 (ot 5)), oq 78 (.fieldAddr 1 (ot 77)), oq 79 (.fieldAddr 1 (ot 78)), oq 80 (.load1 (ot 79)), oq 81 (.fieldAddr 2 (ot 5)), oq 82 (.fieldAddr 3 (ot 81)), oq 83 (.load1 (ot 82)), oq 84 (.fieldAddr 6 (ot 5)), oq 85 (.fieldAddr 0 (ot 84)), oq 86 (.load1 (ot 85)), oq 87 (.fieldAddr 6 (ot 5)), oq 88 (.fieldAddr 1 (ot 87)), oq 89 (.fieldAddr 0 (ot 88)), oq 90 (.load1 (ot 89)), oq 91 (.fieldAddr 6 (ot 5)), oq 92 (.fieldAddr 1 (ot 91)), oq 93 (.fieldAddr 1 (ot 92)), oq 94 (.load1 (ot 93)), oq 95 (.fieldAddr 6 (ot 5)), oq 96 (.fieldAddr 3 (ot 95)), oq 97 (.load1 (ot 96)), oa 98 (.bslice 1 [(.int .i64 0)] 10 [(0, 1, (ot 67)), (1, 1, (ot 69)), (2, 1, (ot 72)), (3, 1, (ot 76)), (4, 1, (ot 80)), (5, 1, (ot 83)), (6, 1, (ot 86)), (7, 1, (ot 90)), (8, 1, (ot 94)), (9, 1, (ot 97))]), oe 99 (.call 28 [(.val (.str [111, 114, 100, 101, 114])), (ot 98)]), oq 2 (.mov (ot 99))]) .ret))) (retK f27.res Q))) := by kernel_rfl
abbrev f27.J0 (C : CW) (Q : AVal → S → Prop) (E : En) (σ : S) : Prop := wC C f27.c0 E σ (blockK 0 (seqK (wC C (.seq (.ops [oq 64 (.fieldAddr 1 (ot 1)), oq 65 (.loadN 10 (ot 64)), oa 5 (.alloc [(.int .i64 0), (.int .i64 0), (.int .i64 0), (.int .i64 0), (.int .i64 0), (.int .i64 0), (.int .i64 0), (.int .i64 0), (.int .i64 0), (.int .i64 0)]), ⟨none, none, (.e (.store 10 (ot 5) (ot 65)))⟩]) (.seq (.ops [oq 66 (.fieldAddr 0 (ot 5)), oq 67 (.load1 (ot 66)), oq 68 (.fieldAddr 1 (ot 5)), oq 69 (.load1 (ot 68)), oq 70 (.fieldAddr 2 (ot 5)), oq 71 (.fieldAddr 0 (ot 70)), oq 72 (.load1 (ot 71)), oq 73 (.fieldAddr 2 (ot 5)), oq 74 (.fieldAddr 1 (ot 73)), oq 75 (.fieldAddr 0 (ot 74)), oq 76 (.load1 (ot 75)), oq 77 (.fieldAddr 2 (ot 5)), oq 78 (.fieldAddr 1 (ot 77)), oq 79 (.fieldAddr 1 (ot 78)), oq 80 (.load1 (ot 79)), oq 81 (.fieldAddr 2 (ot 5)), oq 82 (.fieldAddr 3 (ot 81)), oq 83 (.load1 (ot 82)), oq 84 (.fieldAddr 6 (ot 5)), oq 85 (.fieldAddr 0 (ot 84)), oq 86 (.load1 (ot 85)), oq 87 (.fieldAddr 6 (ot 5)), oq 88 (.fieldAddr 1 (ot 87)), oq 89 (.fieldAddr 0 (ot 88)), oq 90 (.load1 (ot 89)), oq 91 (.fieldAddr 6 (ot 5)), oq 92 (.fieldAddr 1 (ot 91)), oq 93 (.fieldAddr 1 (ot 92)), oq 94 (.load1 (ot 93)), oq 95 (.fieldAddr 6 (ot 5)), oq 96 (.fieldAddr 3 (ot 95)), oq 97 (.load1 (ot 96)), oa 98 (.bslice 1 [(.int .i64 0)] 10 [(0, 1, (ot 67)), (1, 1, (ot 69)), (2, 1, (ot 72)), (3, 1, (ot 76)), (4, 1, (ot 80)), (5, 1, (ot 83)), (6, 1, (ot 86)), (7, 1, (ot 90)), (8, 1, (ot 94)), (9, 1, (ot 97))]), oe 99 (.call 28 [(.val (.str [111, 114, 100, 101, 114])), (ot 98)]), oq 2 (.mov (ot 99))]) .ret))) (retK f27.res Q)))
set_option maxRecDepth 20000 in
theorem f27.p0_of {C : CW} {Q : AVal → S → Prop} {E : En} {σ : S} (h : f27.p0 C Q  E σ) : f27.J0 C Q E σ := Eq.mp (f27.p0_eq C Q  E σ) h
noncomputable def f27.body (R0 : PC) : PC := (.seq (.ops [oa 1 (.box (ot 0)), oq 2 (.mov (.val (.str [])))]) (.seq (.seq (.ops [oq 6 (.loadN 19 (ot 1)), oe 7 (.call 44 [(ot 6)]), oq 8 (.un .not (ot 7))]) (.cond (ot 8) (.seq (.ops [oq 2 (.mov (.val (.str [])))]) .ret) .skip)) (.seq (.seq (.ops [oq 9 (.fieldAddr 0 (ot 1)), oq 10 (.load1 (ot 9))]) (.block 0 (.seq (.ops [oq 12 (.bin .eql .num (ot 10) (.val (.int .i64 7))), oq 11 (.mov (ot 12))]) (.cond (ot 11) (.seq (.ops [oq 13 (.fieldAddr 17 (ot 1)), oq 14 (.load1 (ot 13)), oa 15 (.bslice 1 [(.int .i64 0)] 1 [(0, 1, (ot 14))]), oe 16 (.call 28 [(.val (.str [113, 117, 101, 114, 121])), (ot 15)]), oq 2 (.mov (ot 16))]) .ret) (.seq (.ops [oq 18 (.bin .eql .num (ot 10) (.val (.int .i64 2))), oq 17 (.mov (ot 18))]) (.cond (ot 17) (.seq (.ops [oq 19 (.fieldAddr 17 (ot 1)), oq 20 (.load1 (ot 19)), oa 21 (.bslice 1 [(.int .i64 0)] 1 [(0, 1, (ot 20))]), oe 22 (.call 28 [(.val (.str [99, 97, 110, 99, 101, 108])), (ot 21)]), oq 2 (.mov (ot 22))]) .ret) (.seq (.ops [oq 24 (.bin .eql .num (ot 10) (.val (.int .i64 4))), oq 23 (.mov (ot 24))]) (.cond (ot 23) (.seq (.ops [oq 25 (.fieldAddr 17 (ot 1)), oq 26 (.load1 (ot 25)), oa 27 (.bslice 1 [(.int .i64 0)] 1 [(0, 1, (ot 26))]), oe 28 (.call 28 [(.val (.str [114, 101, 116, 105, 114, 101])), (ot 27)]), oq 2 (.mov (ot 28))]) .ret) (.seq (.ops [oq 30 (.bin .eql .num (ot 10) (.val (.int .i64 6))), oq 29 (.mov (ot 30))]) (.cond (ot 29) (.seq (.ops [oq 31 (.fieldAddr 18 (ot 1)), oq 32 (.load1 (ot 31)), oa 33 (.bslice 1 [(.int .i64 0)] 1 [(0, 1, (ot 32))]), oe 34 (.call 28 [(.val (.str [114, 101, 112, 108, 97, 110])), (ot 33)]), oq 2 (.mov (ot 34))]) .ret) (.seq (.ops [oq 36 (.bin .eql .num (ot 10) (.val (.int .i64 5))), oq 35 (.mov (ot 36))]) (.cond (ot 35) (.seq (.ops [oq 37 (.fieldAddr 17 (ot 1)), oq 38 (.load1 (ot 37)), oq 39 (.fieldAddr 18 (ot 1)), oq 40 (.load1 (ot 39)), oa 41 (.bslice 1 [(.int .i64 0)] 2 [(0, 1, (ot 38)), (1, 1, (ot 40))]), oe 42 (.call 28 [(.val (.str [112, 114, 111, 103, 114, 101, 115, 115])), (ot 41)]), oq 2 (.mov (ot 42))]) .ret) (.seq (.ops [oq 44 (.bin .eql .num (ot 10) (.val (.int .i64 3))), oq 43 (.mov (ot 44))]) (.cond (ot 43) (.seq (.ops [oq 45 (.fieldAddr 11 (ot 1)), oq 46 (.loadN 6 (ot 45)), oa 3 (.alloc [(.int .i64 0), (.int .i64 0), (.int .i64 0), (.int .i64 0), (.int .i64 0), (.bool false)]), ⟨none, none, (.e (.store 6 (ot 3) (ot 46)))⟩]) (.seq (.ops [oq 4 (.mov (.val (.int .i64 0)))]) (.seq (.seq (.ops [oq 47 (.fieldAddr 5 (ot 3)), oq 48 (.load1 (ot 47))]) (.cond (ot 48) (.ops [oq 4 (.mov (.val (.int .i64 1)))]) .skip)) R0))) .skip)))))))))))))) (.seq (.ops [oq 64 (.fieldAddr 1 (ot 1)), oq 65 (.loadN 10 (ot 64)), oa 5 (.alloc [(.int .i64 0), (.int .i64 0), (.int .i64 0), (.int .i64 0), (.int .i64 0), (.int .i64 0), (.int .i64 0), (.int .i64 0), (.int .i64 0), (.int .i64 0)]), ⟨none, none, (.e (.store 10 (ot 5) (ot 65)))⟩]) (.seq (.ops [oq 66 (.fieldAddr 0 (ot 5)), oq 67 (.load1 (ot 66)), oq 68 (.fieldAddr 1 (ot 5)), oq 69 (.load1 (ot 68)), oq 70 (.fieldAddr 2 (ot 5)), oq 71 (.fieldAddr 0 (ot 70)), oq 72 (.load1 (ot 71)), oq 73 (.fieldAddr 2 (ot 5)), oq 74 (.fieldAddr 1 (ot 73)), oq 75 (.fieldAddr 0 (ot 74)), oq 76 (.load1 (ot 75)), oq 77 (.fieldAddr 2 (ot 5)), oq 78 (.fieldAddr 1 (ot 77)), oq 79 (.fieldAddr 1 (ot 78)), oq 80 (.load1 (ot 79)), oq 81 (.fieldAddr 2 (ot 5)), oq 82 (.fieldAddr 3 (ot 81)), oq 83 (.load1 (ot 82)), oq 84 (.fieldAddr 6 (ot 5)), oq 85 (.fieldAddr 0 (ot 84)), oq 86 (.load1 (ot 85)), oq 87 (.fieldAddr 6 (ot 5)), oq 88 (.fieldAddr 1 (ot 87)), oq 89 (.fieldAddr 0 (ot 88)), oq 90 (.load1 (ot 89)), oq 91 (.fieldAddr 6 (ot 5)), oq 92 (.fieldAddr 1 (ot 91)), oq 93 (.fieldAddr 1 (ot 92)), oq 94 (.load1 (ot 93)), oq 95 (.fieldAddr 6 (ot 5)), oq 96 (.fieldAddr 3 (ot 95)), oq 97 (.load1 (ot 96)), oa 98 (.bslice 1 [(.int .i64 0)] 10 [(0, 1, (ot 67)), (1, 1, (ot 69)), (2, 1, (ot 72)), (3, 1, (ot 76)), (4, 1, (ot 80)), (5, 1, (ot 83)), (6, 1, (ot 86)), (7, 1, (ot 90)), (8, 1, (ot 94)), (9, 1, (ot 97))]), oe 99 (.call 28 [(.val (.str [111, 114, 100, 101, 114])), (ot 98)]), oq 2 (.mov (ot 99))]) .ret)))))
noncomputable def f27.fn : PFn := .code (slotsN 100) (f27.body f27.c0) f27.res
noncomputable def f27 (C : CW) (R0 : PC) (a0 : AVal) (σ : S) (Q : AVal → S → Prop) : Prop :=
Ala (aBoxV a0) σ fun t1 σ1 =>
Som (vLoadN 19 t1 σ1) fun t6 =>
C 44 [t6] σ1 fun t7 σ2 =>
Som (unA .not t7) fun t8 =>
WIf t8 (
Ret [some (.str [])] σ2 Q) (
Som (vFieldAddr 0 t1) fun t9 =>
Som (vLoad1 t9 σ2) fun t10 =>
Som (binA .eql .num t10 (.int .i64 7)) fun t12 =>
WIf t12 (
Som (vFieldAddr 17 t1) fun t13 =>
Som (vLoad1 t13 σ2) fun t14 =>
Ala (aSliceV 1 [(.int .i64 0)] 1 [(0, 1, t14)]) σ2 fun t15 σ3 =>
C 28 [(.str [113, 117, 101, 114, 121]), t15] σ3 fun t16 σ4 =>
Ret [some t16] σ4 Q) (
Som (binA .eql .num t10 (.int .i64 2)) fun t18 =>
WIf t18 (
Som (vFieldAddr 17 t1) fun t19 =>
Som (vLoad1 t19 σ2) fun t20 =>
Ala (aSliceV 1 [(.int .i64 0)] 1 [(0, 1, t20)]) σ2 fun t21 σ3 =>
C 28 [(.str [99, 97, 110, 99, 101, 108]), t21] σ3 fun t22 σ4 =>
Ret [some t22] σ4 Q) (
Som (binA .eql .num t10 (.int .i64 4)) fun t24 =>
WIf t24 (
Som (vFieldAddr 17 t1) fun t25 =>
Som (vLoad1 t25 σ2) fun t26 =>
Ala (aSliceV 1 [(.int .i64 0)] 1 [(0, 1, t26)]) σ2 fun t27 σ3 =>
C 28 [(.str [114, 101, 116, 105, 114, 101]), t27] σ3 fun t28 σ4 =>
Ret [some t28] σ4 Q) (
Som (binA .eql .num t10 (.int .i64 6)) fun t30 =>
WIf t30 (
Som (vFieldAddr 18 t1) fun t31 =>
Som (vLoad1 t31 σ2) fun t32 =>
Ala (aSliceV 1 [(.int .i64 0)] 1 [(0, 1, t32)]) σ2 fun t33 σ3 =>
C 28 [(.str [114, 101, 112, 108, 97, 110]), t33] σ3 fun t34 σ4 =>
Ret [some t34] σ4 Q) (
Som (binA .eql .num t10 (.int .i64 5)) fun t36 =>
WIf t36 (
Som (vFieldAddr 17 t1) fun t37 =>
Som (vLoad1 t37 σ2) fun t38 =>
Som (vFieldAddr 18 t1) fun t39 =>
Som (vLoad1 t39 σ2) fun t40 =>
Ala (aSliceV 1 [(.int .i64 0)] 2 [(0, 1, t38), (1, 1, t40)]) σ2 fun t41 σ3 =>
C 28 [(.str [112, 114, 111, 103, 114, 101, 115, 115]), t41] σ3 fun t42 σ4 =>
Ret [some t42] σ4 Q) (
Som (binA .eql .num t10 (.int .i64 3)) fun t44 =>
WIf t44 (
Som (vFieldAddr 11 t1) fun t45 =>
Som (vLoadN 6 t45 σ2) fun t46 =>
Ala (aAllocV [(.int .i64 0), (.int .i64 0), (.int .i64 0), (.int .i64 0), (.int .i64 0), (.bool false)]) σ2 fun t3 σ3 =>
Eff (storeW 6 t3 t46 σ3) fun _ σ4 =>
Som (vFieldAddr 5 t3) fun t47 =>
Som (vLoad1 t47 σ4) fun t48 =>
WIf t48 (
wC C R0 (((((((((((((((((((((((((((E0.set 0 a0).set 1 t1).set 2 (.str [])).set 6 t6).set 7 t7).set 8 t8).set 9 t9).set 10 t10).set 12 t12).set 11 t12).set 18 t18).set 17 t18).set 24 t24).set 23 t24).set 30 t30).set 29 t30).set 36 t36).set 35 t36).set 44 t44).set 43 t44).set 45 t45).set 46 t46).set 3 t3).set 4 (.int .i64 0)).set 47 t47).set 48 t48).set 4 (.int .i64 1)) σ4 (blockK 0 (seqK (wC C (.seq (.ops [oq 64 (.fieldAddr 1 (ot 1)), oq 65 (.loadN 10 (ot 64)), oa 5 (.alloc [(.int .i64 0), (.int .i64 0), (.int .i64 0), (.int .i64 0), (.int .i64 0), (.int .i64 0), (.int .i64 0), (.int .i64 0), (.int .i64 0), (.int .i64 0)]), ⟨none, none, (.e (.store 10 (ot 5) (ot 65)))⟩]) (.seq (.ops [oq 66 (.fieldAddr 0 (ot 5)), oq 67 (.load1 (ot 66)), oq 68 (.fieldAddr 1 (ot 5)), oq 69 (.load1 (ot 68)), oq 70 (.fieldAddr 2 (ot 5)), oq 71 (.fieldAddr 0 (ot 70)), oq 72 (.load1 (ot 71)), oq 73 (.fieldAddr 2 (ot 5)), oq 74 (.fieldAddr 1 (ot 73)), oq 75 (.fieldAddr 0 (ot 74)), oq 76 (.load1 (ot 75)), oq 77 (.fieldAddr 2 (ot 5)), oq 78 (.fieldAddr 1 (ot 77)), oq 79 (.fieldAddr 1 (ot 78)), oq 80 (.load1 (ot 79)), oq 81 (.fieldAddr 2 (ot 5)), oq 82 (.fieldAddr 3 (ot 81)), oq 83 (.load1 (ot 82)), oq 84 (.fieldAddr 6 (ot 5)), oq 85 (.fieldAddr 0 (ot 84)), oq 86 (.load1 (ot 85)), oq 87 (.fieldAddr 6 (ot 5)), oq 88 (.fieldAddr 1 (ot 87)), oq 89 (.fieldAddr 0 (ot 88)), oq 90 (.load1 (ot 89)), oq 91 (.fieldAddr 6 (ot 5)), oq 92 (.fieldAddr 1 (ot 91)), oq 93 (.fieldAddr 1 (ot 92)), oq 94 (.load1 (ot 93)), oq 95 (.fieldAddr 6 (ot 5)), oq 96 (.fieldAddr 3 (ot 95)), oq 97 (.load1 (ot 96)), oa 98 (.bslice 1 [(.int .i64 0)] 10 [(0, 1, (ot 67)), (1, 1, (ot 69)), (2, 1, (ot 72)), (3, 1, (ot 76)), (4, 1, (ot 80)), (5, 1, (ot 83)), (6, 1, (ot 86)), (7, 1, (ot 90)), (8, 1, (ot 94)), (9, 1, (ot 97))]), oe 99 (.call 28 [(.val (.str [111, 114, 100, 101, 114])), (ot 98)]), oq 2 (.mov (ot 99))]) .ret))) (retK f27.res Q)))) (
wC C R0 ((((((((((((((((((((((((((E0.set 0 a0).set 1 t1).set 2 (.str [])).set 6 t6).set 7 t7).set 8 t8).set 9 t9).set 10 t10).set 12 t12).set 11 t12).set 18 t18).set 17 t18).set 24 t24).set 23 t24).set 30 t30).set 29 t30).set 36 t36).set 35 t36).set 44 t44).set 43 t44).set 45 t45).set 46 t46).set 3 t3).set 4 (.int .i64 0)).set 47 t47).set 48 t48) σ4 (blockK 0 (seqK (wC C (.seq (.ops [oq 64 (.fieldAddr 1 (ot 1)), oq 65 (.loadN 10 (ot 64)), oa 5 (.alloc [(.int .i64 0), (.int .i64 0), (.int .i64 0), (.int .i64 0), (.int .i64 0), (.int .i64 0), (.int .i64 0), (.int .i64 0), (.int .i64 0), (.int .i64 0)]), ⟨none, none, (.e (.store 10 (ot 5) (ot 65)))⟩]) (.seq (.ops [oq 66 (.fieldAddr 0 (ot 5)), oq 67 (.load1 (ot 66)), oq 68 (.fieldAddr 1 (ot 5)), oq 69 (.load1 (ot 68)), oq 70 (.fieldAddr 2 (ot 5)), oq 71 (.fieldAddr 0 (ot 70)), oq 72 (.load1 (ot 71)), oq 73 (.fieldAddr 2 (ot 5)), oq 74 (.fieldAddr 1 (ot 73)), oq 75 (.fieldAddr 0 (ot 74)), oq 76 (.load1 (ot 75)), oq 77 (.fieldAddr 2 (ot 5)), oq 78 (.fieldAddr 1 (ot 77)), oq 79 (.fieldAddr 1 (ot 78)), oq 80 (.load1 (ot 79)), oq 81 (.fieldAddr 2 (ot 5)), oq 82 (.fieldAddr 3 (ot 81)), oq 83 (.load1 (ot 82)), oq 84 (.fieldAddr 6 (ot 5)), oq 85 (.fieldAddr 0 (ot 84)), oq 86 (.load1 (ot 85)), oq 87 (.fieldAddr 6 (ot 5)), oq 88 (.fieldAddr 1 (ot 87)), oq 89 (.fieldAddr 0 (ot 88)), oq 90 (.load1 (ot 89)), oq 91 (.fieldAddr 6 (ot 5)), oq 92 (.fieldAddr 1 (ot 91)), oq 93 (.fieldAddr 1 (ot 92)), oq 94 (.load1 (ot 93)), oq 95 (.fieldAddr 6 (ot 5)), oq 96 (.fieldAddr 3 (ot 95)), oq 97 (.load1 (ot 96)), oa 98 (.bslice 1 [(.int .i64 0)] 10 [(0, 1, (ot 67)), (1, 1, (ot 69)), (2, 1, (ot 72)), (3, 1, (ot 76)), (4, 1, (ot 80)), (5, 1, (ot 83)), (6, 1, (ot 86)), (7, 1, (ot 90)), (8, 1, (ot 94)), (9, 1, (ot 97))]), oe 99 (.call 28 [(.val (.str [111, 114, 100, 101, 114])), (ot 98)]), oq 2 (.mov (ot 99))]) .ret))) (retK f27.res Q))))) (
Som (vFieldAddr 1 t1) fun t64 =>
Som (vLoadN 10 t64 σ2) fun t65 =>
Ala (aAllocV [(.int .i64 0), (.int .i64 0), (.int .i64 0), (.int .i64 0), (.int .i64 0), (.int .i64 0), (.int .i64 0), (.int .i64 0), (.int .i64 0), (.int .i64 0)]) σ2 fun t5 σ3 =>
Eff (storeW 10 t5 t65 σ3) fun _ σ4 =>
Som (vFieldAddr 0 t5) fun t66 =>
Som (vLoad1 t66 σ4) fun t67 =>
Som (vFieldAddr 1 t5) fun t68 =>
Som (vLoad1 t68 σ4) fun t69 =>
Som (vFieldAddr 2 t5) fun t70 =>
Som (vFieldAddr 0 t70) fun t71 =>
Som (vLoad1 t71 σ4) fun t72 =>
Som (vFieldAddr 2 t5) fun t73 =>
Som (vFieldAddr 1 t73) fun t74 =>
Som (vFieldAddr 0 t74) fun t75 =>
Som (vLoad1 t75 σ4) fun t76 =>
Som (vFieldAddr 2 t5) fun t77 =>
Som (vFieldAddr 1 t77) fun t78 =>
Som (vFieldAddr 1 t78) fun t79 =>
Som (vLoad1 t79 σ4) fun t80 =>
Som (vFieldAddr 2 t5) fun t81 =>
Som (vFieldAddr 3 t81) fun t82 =>
Som (vLoad1 t82 σ4) fun t83 =>
Som (vFieldAddr 6 t5) fun t84 =>
Som (vFieldAddr 0 t84) fun t85 =>
Som (vLoad1 t85 σ4) fun t86 =>
Som (vFieldAddr 6 t5) fun t87 =>
Som (vFieldAddr 1 t87) fun t88 =>
Som (vFieldAddr 0 t88) fun t89 =>
Som (vLoad1 t89 σ4) fun t90 =>
Som (vFieldAddr 6 t5) fun t91 =>
Som (vFieldAddr 1 t91) fun t92 =>
Som (vFieldAddr 1 t92) fun t93 =>
Som (vLoad1 t93 σ4) fun t94 =>
Som (vFieldAddr 6 t5) fun t95 =>
Som (vFieldAddr 3 t95) fun t96 =>
Som (vLoad1 t96 σ4) fun t97 =>
Ala (aSliceV 1 [(.int .i64 0)] 10 [(0, 1, t67), (1, 1, t69), (2, 1, t72), (3, 1, t76), (4, 1, t80), (5, 1, t83), (6, 1, t86), (7, 1, t90), (8, 1, t94), (9, 1, t97)]) σ4 fun t98 σ5 =>
C 28 [(.str [111, 114, 100, 101, 114]), t98] σ5 fun t99 σ6 =>
Ret [some t99] σ6 Q)))))))
theorem f27_eq (C : CW) (R0 : PC) (a0 : AVal) (σ : S) (Q : AVal → S → Prop) : f27 C R0  a0 σ Q = wC C (f27.body R0) (E0.set 0 a0) σ (retK f27.res Q) := by kernel_rfl
theorem f27_ent (a0 : AVal) : enterE [a0] (slotsN 100) E0 = some (E0.set 0 a0) := by kernel_rfl
set_option maxRecDepth 20000 in
theorem f27_wf {tab : Nat → Option PFn} (ht : tab 27 = some f27.fn) {a0 : AVal} {σ : S} {Q : AVal → S → Prop} (h : f27 (WF tab) f27.c0  a0 σ Q) : WF tab 27 [a0] σ Q := wFn_sound ht (wFn_code (f27_ent a0) (Eq.mp (f27_eq (WF tab) f27.c0  a0 σ Q) h))
end Go.Am
