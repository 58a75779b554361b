/-
  Functions of the program as conditions. Conditions: none.
-/
import Derived.Test.YtkgjghlklniaeaaF1
import Derived.KernelRfl
namespace Go.Am
/-! dray/wal.next -/
noncomputable def f73.res : List PRes := [.cellN 5 (sn 4), .tmp (sn 5), .tmp (sn 6)]
noncomputable def f73.body : PC := (.seq (.ops [oa 4 (.alloc [(.int .i64 0), (.int .i64 0), (.int .i64 0), (.int .i64 0), (.str [])]), oq 5 (.mov (.val (.int .i64 0))), oq 6 (.mov (.val (.bool false)))]) (.seq (.ops [oq 13 (.mov (ot 0)), oq 14 (.mov (ot 1)), oe 15 (.call 83 [(ot 13), (ot 14)]), oq 12 (.mov (ot 15)), oq 16 (.extract 0 (ot 12)), oq 17 (.extract 1 (ot 12)), oq 18 (.extract 2 (ot 12)), oq 7 (.mov (ot 16)), oq 8 (.mov (ot 17)), oq 9 (.mov (ot 18))]) (.seq (.seq (.ops [oq 19 (.mov (ot 9)), oq 20 (.bin .neq .num (ot 19) (.val (.int .i64 0)))]) (.cond (ot 20) (.seq (.ops [oq 21 (.build [(.int .i64 0), (.int .i64 0), (.int .i64 0), (.int .i64 0), (.str [])] []), ⟨none, none, (.e (.store 5 (ot 4) (ot 21)))⟩, oq 5 (.mov (.val (.int .i64 0))), oq 6 (.mov (.val (.bool false)))]) .ret) .skip)) (.seq (.ops [oq 22 (.mov (ot 7)), oe 23 (.call 84 [(ot 22)]), oq 10 (.mov (ot 23))]) (.seq (.ops [oa 11 (.alloc [(.int .i64 0), (.int .i64 0), (.int .i64 0), (.int .i64 0), (.str [])])]) (.seq (.ops [oq 24 (.mov (ot 10)), oe 25 (.call 85 [(ot 24)]), oq 26 (.fieldAddr 0 (ot 11)), ⟨none, none, (.e (.store 1 (ot 26) (ot 25)))⟩]) (.seq (.ops [oq 27 (.mov (ot 10)), oe 28 (.call 85 [(ot 27)]), oq 29 (.fieldAddr 1 (ot 11)), ⟨none, none, (.e (.store 1 (ot 29) (ot 28)))⟩]) (.seq (.ops [oq 30 (.mov (ot 10)), oe 31 (.call 85 [(ot 30)]), oq 32 (.fieldAddr 2 (ot 11)), ⟨none, none, (.e (.store 1 (ot 32) (ot 31)))⟩]) (.seq (.ops [oq 33 (.mov (ot 10)), oe 34 (.call 85 [(ot 33)]), oq 35 (.fieldAddr 3 (ot 11)), ⟨none, none, (.e (.store 1 (ot 35) (ot 34)))⟩]) (.seq (.seq (.ops [oq 36 (.mov (ot 10)), oq 37 (.nilck (ot 36)), oq 38 (.fieldAddr 0 (ot 37)), oq 39 (.loadN 2 (ot 38)), oe 40 (.call 97 [(ot 39)]), oq 41 (.un .not (ot 40))]) (.cond (ot 41) (.seq (.ops [oq 42 (.build [(.int .i64 0), (.int .i64 0), (.int .i64 0), (.int .i64 0), (.str [])] []), ⟨none, none, (.e (.store 5 (ot 4) (ot 42)))⟩, oq 5 (.mov (.val (.int .i64 0))), oq 6 (.mov (.val (.bool false)))]) .ret) .skip)) (.seq (.ops [oq 43 (.mov (ot 7)), oq 44 (.mov (ot 10)), oe 45 (.call 98 [(ot 44)]), oq 46 (.slSl 1 (ot 43) (some (ot 45)) none none), oq 47 (.bytesStr (ot 46)), oq 48 (.fieldAddr 4 (ot 11)), ⟨none, none, (.e (.store 1 (ot 48) (ot 47)))⟩]) (.seq (.ops [oq 49 (.loadN 5 (ot 11)), oq 50 (.mov (ot 8)), ⟨none, none, (.e (.store 5 (ot 4) (ot 49)))⟩, oq 5 (.mov (ot 50)), oq 6 (.mov (.val (.bool true)))]) .ret))))))))))))
noncomputable def f73.fn : PFn := .code (slotsN 51) f73.body f73.res
noncomputable def f73 (C : CW) (a0 a1 : AVal) (σ : S) (Q : AVal → S → Prop) : Prop :=
Ala (aAllocV [(.int .i64 0), (.int .i64 0), (.int .i64 0), (.int .i64 0), (.str [])]) σ fun t4 σ1 =>
C 83 [a0, a1] σ1 fun t15 σ2 =>
Som (vExtract 0 t15) fun t16 =>
Som (vExtract 1 t15) fun t17 =>
Som (vExtract 2 t15) fun t18 =>
Som (binA .neq .num t18 (.int .i64 0)) fun t20 =>
WIf t20 (
Som (vBuild [(.int .i64 0), (.int .i64 0), (.int .i64 0), (.int .i64 0), (.str [])] []) fun t21 =>
Eff (storeW 5 t4 t21 σ2) fun _ σ3 =>
Ret [vLoadN 5 t4 σ3, some (.int .i64 0), some (.bool false)] σ3 Q) (
C 84 [t16] σ2 fun t23 σ3 =>
Ala (aAllocV [(.int .i64 0), (.int .i64 0), (.int .i64 0), (.int .i64 0), (.str [])]) σ3 fun t11 σ4 =>
C 85 [t23] σ4 fun t25 σ5 =>
Som (vFieldAddr 0 t11) fun t26 =>
Eff (storeW 1 t26 t25 σ5) fun _ σ6 =>
C 85 [t23] σ6 fun t28 σ7 =>
Som (vFieldAddr 1 t11) fun t29 =>
Eff (storeW 1 t29 t28 σ7) fun _ σ8 =>
C 85 [t23] σ8 fun t31 σ9 =>
Som (vFieldAddr 2 t11) fun t32 =>
Eff (storeW 1 t32 t31 σ9) fun _ σ10 =>
C 85 [t23] σ10 fun t34 σ11 =>
Som (vFieldAddr 3 t11) fun t35 =>
Eff (storeW 1 t35 t34 σ11) fun _ σ12 =>
Som (vNilck t23) fun t37 =>
Som (vFieldAddr 0 t37) fun t38 =>
Som (vLoadN 2 t38 σ12) fun t39 =>
C 97 [t39] σ12 fun t40 σ13 =>
Som (unA .not t40) fun t41 =>
WIf t41 (
Som (vBuild [(.int .i64 0), (.int .i64 0), (.int .i64 0), (.int .i64 0), (.str [])] []) fun t42 =>
Eff (storeW 5 t4 t42 σ13) fun _ σ14 =>
Ret [vLoadN 5 t4 σ14, some (.int .i64 0), some (.bool false)] σ14 Q) (
C 98 [t23] σ13 fun t45 σ14 =>
Som (vSlSl 1 t16 (some t45) none none) fun t46 =>
Som (vBytesStr t46 σ14) fun t47 =>
Som (vFieldAddr 4 t11) fun t48 =>
Eff (storeW 1 t48 t47 σ14) fun _ σ15 =>
Som (vLoadN 5 t11 σ15) fun t49 =>
Eff (storeW 5 t4 t49 σ15) fun _ σ16 =>
Ret [vLoadN 5 t4 σ16, some t17, some (.bool true)] σ16 Q))
theorem f73_eq (C : CW) (a0 a1 : AVal) (σ : S) (Q : AVal → S → Prop) : f73 C   a0 a1 σ Q = wC C (.seq (.ops [oa 4 (.alloc [(.int .i64 0), (.int .i64 0), (.int .i64 0), (.int .i64 0), (.str [])]), oq 5 (.mov (.val (.int .i64 0))), oq 6 (.mov (.val (.bool false)))]) (.seq (.ops [oq 13 (.mov (ot 0)), oq 14 (.mov (ot 1)), oe 15 (.call 83 [(ot 13), (ot 14)]), oq 12 (.mov (ot 15)), oq 16 (.extract 0 (ot 12)), oq 17 (.extract 1 (ot 12)), oq 18 (.extract 2 (ot 12)), oq 7 (.mov (ot 16)), oq 8 (.mov (ot 17)), oq 9 (.mov (ot 18))]) (.seq (.seq (.ops [oq 19 (.mov (ot 9)), oq 20 (.bin .neq .num (ot 19) (.val (.int .i64 0)))]) (.cond (ot 20) (.seq (.ops [oq 21 (.build [(.int .i64 0), (.int .i64 0), (.int .i64 0), (.int .i64 0), (.str [])] []), ⟨none, none, (.e (.store 5 (ot 4) (ot 21)))⟩, oq 5 (.mov (.val (.int .i64 0))), oq 6 (.mov (.val (.bool false)))]) .ret) .skip)) (.seq (.ops [oq 22 (.mov (ot 7)), oe 23 (.call 84 [(ot 22)]), oq 10 (.mov (ot 23))]) (.seq (.ops [oa 11 (.alloc [(.int .i64 0), (.int .i64 0), (.int .i64 0), (.int .i64 0), (.str [])])]) (.seq (.ops [oq 24 (.mov (ot 10)), oe 25 (.call 85 [(ot 24)]), oq 26 (.fieldAddr 0 (ot 11)), ⟨none, none, (.e (.store 1 (ot 26) (ot 25)))⟩]) (.seq (.ops [oq 27 (.mov (ot 10)), oe 28 (.call 85 [(ot 27)]), oq 29 (.fieldAddr 1 (ot 11)), ⟨none, none, (.e (.store 1 (ot 29) (ot 28)))⟩]) (.seq (.ops [oq 30 (.mov (ot 10)), oe 31 (.call 85 [(ot 30)]), oq 32 (.fieldAddr 2 (ot 11)), ⟨none, none, (.e (.store 1 (ot 32) (ot 31)))⟩]) (.seq (.ops [oq 33 (.mov (ot 10)), oe 34 (.call 85 [(ot 33)]), oq 35 (.fieldAddr 3 (ot 11)), ⟨none, none, (.e (.store 1 (ot 35) (ot 34)))⟩]) (.seq (.seq (.ops [oq 36 (.mov (ot 10)), oq 37 (.nilck (ot 36)), oq 38 (.fieldAddr 0 (ot 37)), oq 39 (.loadN 2 (ot 38)), oe 40 (.call 97 [(ot 39)]), oq 41 (.un .not (ot 40))]) (.cond (ot 41) (.seq (.ops [oq 42 (.build [(.int .i64 0), (.int .i64 0), (.int .i64 0), (.int .i64 0), (.str [])] []), ⟨none, none, (.e (.store 5 (ot 4) (ot 42)))⟩, oq 5 (.mov (.val (.int .i64 0))), oq 6 (.mov (.val (.bool false)))]) .ret) .skip)) (.seq (.ops [oq 43 (.mov (ot 7)), oq 44 (.mov (ot 10)), oe 45 (.call 98 [(ot 44)]), oq 46 (.slSl 1 (ot 43) (some (ot 45)) none none), oq 47 (.bytesStr (ot 46)), oq 48 (.fieldAddr 4 (ot 11)), ⟨none, none, (.e (.store 1 (ot 48) (ot 47)))⟩]) (.seq (.ops [oq 49 (.loadN 5 (ot 11)), oq 50 (.mov (ot 8)), ⟨none, none, (.e (.store 5 (ot 4) (ot 49)))⟩, oq 5 (.mov (ot 50)), oq 6 (.mov (.val (.bool true)))]) .ret)))))))))))) ((E0.set 0 a0).set 1 a1) σ (retK f73.res Q) := by kernel_rfl
theorem f73_ent (a0 a1 : AVal) : enterE [a0, a1] (slotsN 51) E0 = some ((E0.set 0 a0).set 1 a1) := by kernel_rfl
set_option maxRecDepth 20000 in
theorem f73_wf {tab : Nat → Option PFn} (ht : tab 73 = some f73.fn) {a0 a1 : AVal} {σ : S} {Q : AVal → S → Prop} (h : f73 (WF tab)   a0 a1 σ Q) : WF tab 73 [a0, a1] σ Q := wFn_sound ht (wFn_code (f73_ent a0 a1) (Eq.mp (f73_eq (WF tab)   a0 a1 σ Q) h))
/-! *dray/wal.Log.redo -/
noncomputable def f74.res : List PRes := [.tmp (sn 4)]
noncomputable def f74.body : PC := (.seq (.ops [oa 3 (.box (ot 1)), oq 4 (.mov (.val (.bool false)))]) (.seq (.seq (.ops [oq 5 (.fieldAddr 0 (ot 3)), oq 6 (.load1 (ot 5))]) (.block 0 (.seq (.ops [oq 8 (.bin .eql .num (ot 6) (.val (.int .i64 1))), oq 7 (.mov (ot 8))]) (.cond (ot 7) (.seq (.seq (.ops [oq 9 (.mov (ot 0)), oq 10 (.fieldAddr 2 (ot 3)), oq 11 (.load1 (ot 10)), oe 12 (.call 48 [(ot 9), (ot 11), (.val (.int .i64 1))]), oq 13 (.un .not (ot 12))]) (.cond (ot 13) (.seq (.ops [oq 4 (.mov (.val (.bool false)))]) .ret) .skip)) (.ops [oq 14 (.mov (ot 0)), oq 15 (.fieldAddr 2 (ot 3)), oq 16 (.load1 (ot 15)), oq 17 (.fieldAddr 4 (ot 3)), oq 18 (.load1 (ot 17)), oe 19 (.call 52 [(ot 14), (ot 16), (ot 18)])])) (.seq (.ops [oq 21 (.bin .eql .num (ot 6) (.val (.int .i64 2))), oq 20 (.mov (ot 21))]) (.cond (ot 20) (.seq (.seq (.draw 15 [⟨0, oq 22 (.fieldAddr 2 (ot 3)), []⟩, ⟨1, oq 23 (.load1 (ot 22)), []⟩, ⟨2, oq 24 (.mov (ot 0)), []⟩, ⟨3, oq 25 (.nilck (ot 24)), []⟩, ⟨4, oq 26 (.fieldAddr 3 (ot 25)), []⟩, ⟨5, oq 27 (.load1 (ot 26)), []⟩, ⟨6, oq 28 (.bin .lss .num (ot 23) (ot 27)), []⟩, ⟨7, oq 29 (.mov (ot 28)), []⟩, ⟨8, oqg 30 29 false (.fieldAddr 2 (ot 3)), []⟩, ⟨9, oqg 31 29 false (.load1 (ot 30)), []⟩, ⟨10, oqg 32 29 false (.mov (ot 0)), []⟩, ⟨11, oeg 33 29 false (.call 15 [(ot 32)]), [oqg 31 29 false (.load1 (ot 30))]⟩, ⟨12, oqg 34 29 false (.bin .add .num (ot 33) (.val (.int .i64 1))), []⟩, ⟨13, oqg 35 29 false (.bin .gtr .num (ot 31) (ot 34)), []⟩, ⟨14, oq 36 (.pick (ot 29) (.val (.bool true)) (ot 35)), []⟩]) (.cond (ot 36) (.seq (.ops [oq 4 (.mov (.val (.bool false)))]) .ret) .skip)) (.draw 18 [⟨0, oq 37 (.mov (ot 0)), []⟩, ⟨1, oq 38 (.mov (ot 0)), []⟩, ⟨2, oq 39 (.nilck (ot 38)), []⟩, ⟨3, oq 40 (.fieldAddr 3 (ot 39)), []⟩, ⟨4, oq 41 (.load1 (ot 40)), []⟩, ⟨5, oq 42 (.mov (ot 0)), []⟩, ⟨6, oq 43 (.nilck (ot 42)), []⟩, ⟨7, oq 44 (.fieldAddr 4 (ot 43)), []⟩, ⟨8, oq 45 (.load1 (ot 44)), []⟩, ⟨9, oq 46 (.fieldAddr 2 (ot 3)), []⟩, ⟨10, oq 47 (.load1 (ot 46)), []⟩, ⟨11, oq 48 (.mov (ot 0)), []⟩, ⟨12, oq 49 (.nilck (ot 48)), []⟩, ⟨13, oq 50 (.fieldAddr 3 (ot 49)), []⟩, ⟨14, oq 51 (.load1 (ot 50)), []⟩, ⟨15, oq 52 (.bin .sub .num (ot 47) (ot 51)), []⟩, ⟨16, oq 53 (.slSl 1 (ot 45) none (some (ot 52)) none), []⟩, ⟨17, oe 54 (.call 75 [(ot 37), (ot 41), (ot 53)]), []⟩])) (.seq (.ops [oq 56 (.bin .eql .num (ot 6) (.val (.int .i64 3))), oq 55 (.mov (ot 56))]) (.cond (ot 55) (.seq (.seq (.draw 15 [⟨0, oq 57 (.fieldAddr 2 (ot 3)), []⟩, ⟨1, oq 58 (.load1 (ot 57)), []⟩, ⟨2, oq 59 (.mov (ot 0)), []⟩, ⟨3, oq 60 (.nilck (ot 59)), []⟩, ⟨4, oq 61 (.fieldAddr 3 (ot 60)), []⟩, ⟨5, oq 62 (.load1 (ot 61)), []⟩, ⟨6, oq 63 (.bin .lss .num (ot 58) (ot 62)), []⟩, ⟨7, oq 64 (.mov (ot 63)), []⟩, ⟨8, oqg 65 64 false (.fieldAddr 2 (ot 3)), []⟩, ⟨9, oqg 66 64 false (.load1 (ot 65)), []⟩, ⟨10, oqg 67 64 false (.mov (ot 0)), []⟩, ⟨11, oeg 68 64 false (.call 15 [(ot 67)]), [oqg 66 64 false (.load1 (ot 65))]⟩, ⟨12, oqg 69 64 false (.bin .add .num (ot 68) (.val (.int .i64 1))), []⟩, ⟨13, oqg 70 64 false (.bin .gtr .num (ot 66) (ot 69)), []⟩, ⟨14, oq 71 (.pick (ot 64) (.val (.bool true)) (ot 70)), []⟩]) (.cond (ot 71) (.seq (.ops [oq 4 (.mov (.val (.bool false)))]) .ret) .skip)) (.draw 16 [⟨0, oq 72 (.mov (ot 0)), []⟩, ⟨1, oq 73 (.fieldAddr 2 (ot 3)), []⟩, ⟨2, oq 74 (.load1 (ot 73)), []⟩, ⟨3, oq 75 (.mov (ot 0)), []⟩, ⟨4, oq 76 (.nilck (ot 75)), []⟩, ⟨5, oq 77 (.fieldAddr 4 (ot 76)), []⟩, ⟨6, oq 78 (.load1 (ot 77)), []⟩, ⟨7, oq 79 (.fieldAddr 2 (ot 3)), []⟩, ⟨8, oq 80 (.load1 (ot 79)), []⟩, ⟨9, oq 81 (.mov (ot 0)), []⟩, ⟨10, oq 82 (.nilck (ot 81)), []⟩, ⟨11, oq 83 (.fieldAddr 3 (ot 82)), []⟩, ⟨12, oq 84 (.load1 (ot 83)), []⟩, ⟨13, oq 85 (.bin .sub .num (ot 80) (ot 84)), []⟩, ⟨14, oq 86 (.slSl 1 (ot 78) (some (ot 85)) none none), []⟩, ⟨15, oe 87 (.call 75 [(ot 72), (ot 74), (ot 86)]), []⟩])) (.seq (.ops [oq 89 (.bin .eql .num (ot 6) (.val (.int .i64 4))), oq 88 (.mov (ot 89))]) (.cond (ot 88) (.seq (.seq (.ops [oq 90 (.mov (ot 0)), oq 91 (.fieldAddr 2 (ot 3)), oq 92 (.load1 (ot 91)), oe 93 (.call 48 [(ot 90), (ot 92), (.val (.int .i64 0))]), oq 94 (.un .not (ot 93))]) (.cond (ot 94) (.seq (.ops [oq 4 (.mov (.val (.bool false)))]) .ret) .skip)) (.ops [oq 95 (.mov (ot 0)), oq 96 (.fieldAddr 2 (ot 3)), oq 97 (.load1 (ot 96)), oe 98 (.call 79 [(ot 95), (ot 97)])])) (.seq (.ops [oq 4 (.mov (.val (.bool false)))]) .ret))))))))))) (.seq (.ops [oq 4 (.mov (.val (.bool true)))]) .ret)))
noncomputable def f74.fn : PFn := .code (slotsN 99) f74.body f74.res
noncomputable def f74 (C : CW) (a0 a1 : AVal) (σ : S) (Q : AVal → S → Prop) : Prop :=
Ala (aBoxV a1) σ fun t3 σ1 =>
Som (vFieldAddr 0 t3) fun t5 =>
Som (vLoad1 t5 σ1) fun t6 =>
Som (binA .eql .num t6 (.int .i64 1)) fun t8 =>
WIf t8 (
Som (vFieldAddr 2 t3) fun t10 =>
Som (vLoad1 t10 σ1) fun t11 =>
C 48 [a0, t11, (.int .i64 1)] σ1 fun t12 σ2 =>
Som (unA .not t12) fun t13 =>
WIf t13 (
Ret [some (.bool false)] σ2 Q) (
Som (vFieldAddr 2 t3) fun t15 =>
Som (vLoad1 t15 σ2) fun t16 =>
Som (vFieldAddr 4 t3) fun t17 =>
Som (vLoad1 t17 σ2) fun t18 =>
C 52 [a0, t16, t18] σ2 fun t19 σ3 =>
Ret [some (.bool true)] σ3 Q)) (
Som (binA .eql .num t6 (.int .i64 2)) fun t21 =>
WIf t21 (
Som (vFieldAddr 2 t3) fun t22 =>
Som (vLoad1 t22 (σ1.bumpT 15)) fun t23 =>
Som (vNilck a0) fun t25 =>
Som (vFieldAddr 3 t25) fun t26 =>
Som (vLoad1 t26 (σ1.bumpT 15)) fun t27 =>
Som (binA .lss .num t23 t27) fun t28 =>
Som (gq1 (isB t28 false) (vFieldAddr 2 t3)) fun t30 =>
Som (gq1 (isB t28 false) (vLoad1 t30 (σ1.bumpT 15))) fun t31 =>
Som (gq1 (isB t28 false) (some a0)) fun t32 =>
gE1 (isB t28 false) (fun K => C 15 [t32] (σ1.bumpT 15) fun t33 σ2 => Sure ((notB (isB t28 false) || SameO (vLoad1 t30 σ2) t31)) (K t33 σ2)) (σ1.bumpT 15) fun t33 σ2 =>
Som (gq1 (isB t28 false) (binA .add .num t33 (.int .i64 1))) fun t34 =>
Som (gq1 (isB t28 false) (binA .gtr .num t31 t34)) fun t35 =>
Som (vPick t28 (.bool true) t35) fun t36 =>
WIf t36 (
Ret [some (.bool false)] σ2 Q) (
Som (vNilck a0) fun t39 =>
Som (vFieldAddr 3 t39) fun t40 =>
Som (vLoad1 t40 (σ2.bumpT 18)) fun t41 =>
Som (vNilck a0) fun t43 =>
Som (vFieldAddr 4 t43) fun t44 =>
Som (vLoad1 t44 (σ2.bumpT 18)) fun t45 =>
Som (vFieldAddr 2 t3) fun t46 =>
Som (vLoad1 t46 (σ2.bumpT 18)) fun t47 =>
Som (vNilck a0) fun t49 =>
Som (vFieldAddr 3 t49) fun t50 =>
Som (vLoad1 t50 (σ2.bumpT 18)) fun t51 =>
Som (binA .sub .num t47 t51) fun t52 =>
Som (vSlSl 1 t45 none (some t52) none) fun t53 =>
C 75 [a0, t41, t53] (σ2.bumpT 18) fun t54 σ3 =>
Ret [some (.bool true)] σ3 Q)) (
Som (binA .eql .num t6 (.int .i64 3)) fun t56 =>
WIf t56 (
Som (vFieldAddr 2 t3) fun t57 =>
Som (vLoad1 t57 (σ1.bumpT 15)) fun t58 =>
Som (vNilck a0) fun t60 =>
Som (vFieldAddr 3 t60) fun t61 =>
Som (vLoad1 t61 (σ1.bumpT 15)) fun t62 =>
Som (binA .lss .num t58 t62) fun t63 =>
Som (gq1 (isB t63 false) (vFieldAddr 2 t3)) fun t65 =>
Som (gq1 (isB t63 false) (vLoad1 t65 (σ1.bumpT 15))) fun t66 =>
Som (gq1 (isB t63 false) (some a0)) fun t67 =>
gE1 (isB t63 false) (fun K => C 15 [t67] (σ1.bumpT 15) fun t68 σ2 => Sure ((notB (isB t63 false) || SameO (vLoad1 t65 σ2) t66)) (K t68 σ2)) (σ1.bumpT 15) fun t68 σ2 =>
Som (gq1 (isB t63 false) (binA .add .num t68 (.int .i64 1))) fun t69 =>
Som (gq1 (isB t63 false) (binA .gtr .num t66 t69)) fun t70 =>
Som (vPick t63 (.bool true) t70) fun t71 =>
WIf t71 (
Ret [some (.bool false)] σ2 Q) (
Som (vFieldAddr 2 t3) fun t73 =>
Som (vLoad1 t73 (σ2.bumpT 16)) fun t74 =>
Som (vNilck a0) fun t76 =>
Som (vFieldAddr 4 t76) fun t77 =>
Som (vLoad1 t77 (σ2.bumpT 16)) fun t78 =>
Som (vFieldAddr 2 t3) fun t79 =>
Som (vLoad1 t79 (σ2.bumpT 16)) fun t80 =>
Som (vNilck a0) fun t82 =>
Som (vFieldAddr 3 t82) fun t83 =>
Som (vLoad1 t83 (σ2.bumpT 16)) fun t84 =>
Som (binA .sub .num t80 t84) fun t85 =>
Som (vSlSl 1 t78 (some t85) none none) fun t86 =>
C 75 [a0, t74, t86] (σ2.bumpT 16) fun t87 σ3 =>
Ret [some (.bool true)] σ3 Q)) (
Som (binA .eql .num t6 (.int .i64 4)) fun t89 =>
WIf t89 (
Som (vFieldAddr 2 t3) fun t91 =>
Som (vLoad1 t91 σ1) fun t92 =>
C 48 [a0, t92, (.int .i64 0)] σ1 fun t93 σ2 =>
Som (unA .not t93) fun t94 =>
WIf t94 (
Ret [some (.bool false)] σ2 Q) (
Som (vFieldAddr 2 t3) fun t96 =>
Som (vLoad1 t96 σ2) fun t97 =>
C 79 [a0, t97] σ2 fun t98 σ3 =>
Ret [some (.bool true)] σ3 Q)) (
Ret [some (.bool false)] σ1 Q))))
theorem f74_eq (C : CW) (a0 a1 : AVal) (σ : S) (Q : AVal → S → Prop) : f74 C   a0 a1 σ Q = wC C (.seq (.ops [oa 3 (.box (ot 1)), oq 4 (.mov (.val (.bool false)))]) (.seq (.seq (.ops [oq 5 (.fieldAddr 0 (ot 3)), oq 6 (.load1 (ot 5))]) (.block 0 (.seq (.ops [oq 8 (.bin .eql .num (ot 6) (.val (.int .i64 1))), oq 7 (.mov (ot 8))]) (.cond (ot 7) (.seq (.seq (.ops [oq 9 (.mov (ot 0)), oq 10 (.fieldAddr 2 (ot 3)), oq 11 (.load1 (ot 10)), oe 12 (.call 48 [(ot 9), (ot 11), (.val (.int .i64 1))]), oq 13 (.un .not (ot 12))]) (.cond (ot 13) (.seq (.ops [oq 4 (.mov (.val (.bool false)))]) .ret) .skip)) (.ops [oq 14 (.mov (ot 0)), oq 15 (.fieldAddr 2 (ot 3)), oq 16 (.load1 (ot 15)), oq 17 (.fieldAddr 4 (ot 3)), oq 18 (.load1 (ot 17)), oe 19 (.call 52 [(ot 14), (ot 16), (ot 18)])])) (.seq (.ops [oq 21 (.bin .eql .num (ot 6) (.val (.int .i64 2))), oq 20 (.mov (ot 21))]) (.cond (ot 20) (.seq (.seq (.draw 15 [⟨0, oq 22 (.fieldAddr 2 (ot 3)), []⟩, ⟨1, oq 23 (.load1 (ot 22)), []⟩, ⟨2, oq 24 (.mov (ot 0)), []⟩, ⟨3, oq 25 (.nilck (ot 24)), []⟩, ⟨4, oq 26 (.fieldAddr 3 (ot 25)), []⟩, ⟨5, oq 27 (.load1 (ot 26)), []⟩, ⟨6, oq 28 (.bin .lss .num (ot 23) (ot 27)), []⟩, ⟨7, oq 29 (.mov (ot 28)), []⟩, ⟨8, oqg 30 29 false (.fieldAddr 2 (ot 3)), []⟩, ⟨9, oqg 31 29 false (.load1 (ot 30)), []⟩, ⟨10, oqg 32 29 false (.mov (ot 0)), []⟩, ⟨11, oeg 33 29 false (.call 15 [(ot 32)]), [oqg 31 29 false (.load1 (ot 30))]⟩, ⟨12, oqg 34 29 false (.bin .add .num (ot 33) (.val (.int .i64 1))), []⟩, ⟨13, oqg 35 29 false (.bin .gtr .num (ot 31) (ot 34)), []⟩, ⟨14, oq 36 (.pick (ot 29) (.val (.bool true)) (ot 35)), []⟩]) (.cond (ot 36) (.seq (.ops [oq 4 (.mov (.val (.bool false)))]) .ret) .skip)) (.draw 18 [⟨0, oq 37 (.mov (ot 0)), []⟩, ⟨1, oq 38 (.mov (ot 0)), []⟩, ⟨2, oq 39 (.nilck (ot 38)), []⟩, ⟨3, oq 40 (.fieldAddr 3 (ot 39)), []⟩, ⟨4, oq 41 (.load1 (ot 40)), []⟩, ⟨5, oq 42 (.mov (ot 0)), []⟩, ⟨6, oq 43 (.nilck (ot 42)), []⟩, ⟨7, oq 44 (.fieldAddr 4 (ot 43)), []⟩, ⟨8, oq 45 (.load1 (ot 44)), []⟩, ⟨9, oq 46 (.fieldAddr 2 (ot 3)), []⟩, ⟨10, oq 47 (.load1 (ot 46)), []⟩, ⟨11, oq 48 (.mov (ot 0)), []⟩, ⟨12, oq 49 (.nilck (ot 48)), []⟩, ⟨13, oq 50 (.fieldAddr 3 (ot 49)), []⟩, ⟨14, oq 51 (.load1 (ot 50)), []⟩, ⟨15, oq 52 (.bin .sub .num (ot 47) (ot 51)), []⟩, ⟨16, oq 53 (.slSl 1 (ot 45) none (some (ot 52)) none), []⟩, ⟨17, oe 54 (.call 75 [(ot 37), (ot 41), (ot 53)]), []⟩])) (.seq (.ops [oq 56 (.bin .eql .num (ot 6) (.val (.int .i64 3))), oq 55 (.mov (ot 56))]) (.cond (ot 55) (.seq (.seq (.draw 15 [⟨0, oq 57 (.fieldAddr 2 (ot 3)), []⟩, ⟨1, oq 58 (.load1 (ot 57)), []⟩, ⟨2, oq 59 (.mov (ot 0)), []⟩, ⟨3, oq 60 (.nilck (ot 59)), []⟩, ⟨4, oq 61 (.fieldAddr 3 (ot 60)), []⟩, ⟨5, oq 62 (.load1 (ot 61)), []⟩, ⟨6, oq 63 (.bin .lss .num (ot 58) (ot 62)), []⟩, ⟨7, oq 64 (.mov (ot 63)), []⟩, ⟨8, oqg 65 64 false (.fieldAddr 2 (ot 3)), []⟩, ⟨9, oqg 66 64 false (.load1 (ot 65)), []⟩, ⟨10, oqg 67 64 false (.mov (ot 0)), []⟩, ⟨11, oeg 68 64 false (.call 15 [(ot 67)]), [oqg 66 64 false (.load1 (ot 65))]⟩, ⟨12, oqg 69 64 false (.bin .add .num (ot 68) (.val (.int .i64 1))), []⟩, ⟨13, oqg 70 64 false (.bin .gtr .num (ot 66) (ot 69)), []⟩, ⟨14, oq 71 (.pick (ot 64) (.val (.bool true)) (ot 70)), []⟩]) (.cond (ot 71) (.seq (.ops [oq 4 (.mov (.val (.bool false)))]) .ret) .skip)) (.draw 16 [⟨0, oq 72 (.mov (ot 0)), []⟩, ⟨1, oq 73 (.fieldAddr 2 (ot 3)), []⟩, ⟨2, oq 74 (.load1 (ot 73)), []⟩, ⟨3, oq 75 (.mov (ot 0)), []⟩, ⟨4, oq 76 (.nilck (ot 75)), []⟩, ⟨5, oq 77 (.fieldAddr 4 (ot 76)), []⟩, ⟨6, oq 78 (.load1 (ot 77)), []⟩, ⟨7, oq 79 (.fieldAddr 2 (ot 3)), []⟩, ⟨8, oq 80 (.load1 (ot 79)), []⟩, ⟨9, oq 81 (.mov (ot 0)), []⟩, ⟨10, oq 82 (.nilck (ot 81)), []⟩, ⟨11, oq 83 (.fieldAddr 3 (ot 82)), []⟩, ⟨12, oq 84 (.load1 (ot 83)), []⟩, ⟨13, oq 85 (.bin .sub .num (ot 80) (ot 84)), []⟩, ⟨14, oq 86 (.slSl 1 (ot 78) (some (ot 85)) none none), []⟩, ⟨15, oe 87 (.call 75 [(ot 72), (ot 74), (ot 86)]), []⟩])) (.seq (.ops [oq 89 (.bin .eql .num (ot 6) (.val (.int .i64 4))), oq 88 (.mov (ot 89))]) (.cond (ot 88) (.seq (.seq (.ops [oq 90 (.mov (ot 0)), oq 91 (.fieldAddr 2 (ot 3)), oq 92 (.load1 (ot 91)), oe 93 (.call 48 [(ot 90), (ot 92), (.val (.int .i64 0))]), oq 94 (.un .not (ot 93))]) (.cond (ot 94) (.seq (.ops [oq 4 (.mov (.val (.bool false)))]) .ret) .skip)) (.ops [oq 95 (.mov (ot 0)), oq 96 (.fieldAddr 2 (ot 3)), oq 97 (.load1 (ot 96)), oe 98 (.call 79 [(ot 95), (ot 97)])])) (.seq (.ops [oq 4 (.mov (.val (.bool false)))]) .ret))))))))))) (.seq (.ops [oq 4 (.mov (.val (.bool true)))]) .ret))) ((E0.set 0 a0).set 1 a1) σ (retK f74.res Q) := by kernel_rfl
theorem f74_ent (a0 a1 : AVal) : enterE [a0, a1] (slotsN 99) E0 = some ((E0.set 0 a0).set 1 a1) := by kernel_rfl
set_option maxRecDepth 20000 in
theorem f74_wf {tab : Nat → Option PFn} (ht : tab 74 = some f74.fn) {a0 a1 : AVal} {σ : S} {Q : AVal → S → Prop} (h : f74 (WF tab)   a0 a1 σ Q) : WF tab 74 [a0, a1] σ Q := wFn_sound ht (wFn_code (f74_ent a0 a1) (Eq.mp (f74_eq (WF tab)   a0 a1 σ Q) h))
/-! *dray/wal.Log.keep -/
noncomputable def f75.res : List PRes := []
noncomputable def f75.body : PC := (.seq (.ops [oq 6 (.mov (ot 0)), oq 7 (.mov (ot 1)), oq 8 (.nilck (ot 6)), oq 9 (.fieldAddr 3 (ot 8)), ⟨none, none, (.e (.store 1 (ot 9) (ot 7)))⟩]) (.seq (.ops [oq 10 (.mov (ot 0)), oq 11 (.mov (ot 2)), oe 12 (.append 1 16 (.val .nsl) (ot 11)), oq 13 (.nilck (ot 10)), oq 14 (.fieldAddr 4 (ot 13)), ⟨none, none, (.e (.store 1 (ot 14) (ot 12)))⟩]) (.ops [oq 15 (.mov (ot 0)), oq 16 (.mov (ot 0)), oq 17 (.mov (ot 1)), oq 18 (.mov (ot 2)), oe 19 (.call 76 [(ot 16), (ot 17), (ot 18)]), oq 20 (.nilck (ot 15)), oq 21 (.fieldAddr 6 (ot 20)), ⟨none, none, (.e (.store 1 (ot 21) (ot 19)))⟩])))
noncomputable def f75.fn : PFn := .code (slotsN 22) f75.body f75.res
noncomputable def f75 (C : CW) (a0 a1 a2 : AVal) (σ : S) (Q : AVal → S → Prop) : Prop :=
Som (vNilck a0) fun t8 =>
Som (vFieldAddr 3 t8) fun t9 =>
Eff (storeW 1 t9 a1 σ) fun _ σ1 =>
Eff (appendA 1 16 .nsl a2 σ1) fun t12 σ2 =>
Som (vNilck a0) fun t13 =>
Som (vFieldAddr 4 t13) fun t14 =>
Eff (storeW 1 t14 t12 σ2) fun _ σ3 =>
C 76 [a0, a1, a2] σ3 fun t19 σ4 =>
Som (vNilck a0) fun t20 =>
Som (vFieldAddr 6 t20) fun t21 =>
Eff (storeW 1 t21 t19 σ4) fun _ σ5 =>
Ret [] σ5 Q
theorem f75_eq (C : CW) (a0 a1 a2 : AVal) (σ : S) (Q : AVal → S → Prop) : f75 C   a0 a1 a2 σ Q = wC C (.seq (.ops [oq 6 (.mov (ot 0)), oq 7 (.mov (ot 1)), oq 8 (.nilck (ot 6)), oq 9 (.fieldAddr 3 (ot 8)), ⟨none, none, (.e (.store 1 (ot 9) (ot 7)))⟩]) (.seq (.ops [oq 10 (.mov (ot 0)), oq 11 (.mov (ot 2)), oe 12 (.append 1 16 (.val .nsl) (ot 11)), oq 13 (.nilck (ot 10)), oq 14 (.fieldAddr 4 (ot 13)), ⟨none, none, (.e (.store 1 (ot 14) (ot 12)))⟩]) (.ops [oq 15 (.mov (ot 0)), oq 16 (.mov (ot 0)), oq 17 (.mov (ot 1)), oq 18 (.mov (ot 2)), oe 19 (.call 76 [(ot 16), (ot 17), (ot 18)]), oq 20 (.nilck (ot 15)), oq 21 (.fieldAddr 6 (ot 20)), ⟨none, none, (.e (.store 1 (ot 21) (ot 19)))⟩]))) (((E0.set 0 a0).set 1 a1).set 2 a2) σ (retK f75.res Q) := by kernel_rfl
theorem f75_ent (a0 a1 a2 : AVal) : enterE [a0, a1, a2] (slotsN 22) E0 = some (((E0.set 0 a0).set 1 a1).set 2 a2) := by kernel_rfl
set_option maxRecDepth 20000 in
theorem f75_wf {tab : Nat → Option PFn} (ht : tab 75 = some f75.fn) {a0 a1 a2 : AVal} {σ : S} {Q : AVal → S → Prop} (h : f75 (WF tab)   a0 a1 a2 σ Q) : WF tab 75 [a0, a1, a2] σ Q := wFn_sound ht (wFn_code (f75_ent a0 a1 a2) (Eq.mp (f75_eq (WF tab)   a0 a1 a2 σ Q) h))
/-! *dray/wal.Log.bytes -/
noncomputable def f76.c0 : PC := (.seq (.ops [oq 13 (.bin .lss .num (ot 12) (ot 11))]) (.seq (.cond (ot 13) .skip (.exit 0)) (.seq (.block 1 (.seq (.ops [oq 14 (.mov (ot 12)), oq 15 (.ixSl 1 (ot 10) (ot 12)), oq 16 (.load1 (ot 15)), oq 8 (.mov (ot 14)), oq 9 (.mov (ot 16))]) (.ops [oq 17 (.mov (ot 7)), oq 18 (.mov (ot 0)), oq 19 (.nilck (ot 18)), oq 20 (.fieldAddr 2 (ot 19)), oq 21 (.load1 (ot 20)), oq 22 (.mov (ot 1)), oq 23 (.mov (ot 8)), oq 24 (.bin .add .num (ot 22) (ot 23)), oq 25 (.mov (ot 9)), oe 26 (.call 80 [(ot 21), (ot 24), (ot 25)]), oq 27 (.bin .add .num (ot 17) (ot 26)), oq 7 (.mov (ot 27))]))) (.ops [oq 28 (.bin .add .num (ot 12) (.val (.int .i64 1))), oq 12 (.mov (ot 28))]))))
noncomputable def f76.res : List PRes := [.tmp (sn 6)]
noncomputable def f76.p0 (C : CW) (Q : AVal → S → Prop) (R0 : PC) (E : En) (σ : S) : Prop :=
Som (binA .lss .num (E 12) (E 11)) fun t13 =>
WIf t13 (
Som (vIxSl 1 (E 10) (E 12)) fun t15 =>
Som (vLoad1 t15 σ) fun t16 =>
Som (vNilck (E 0)) fun t19 =>
Som (vFieldAddr 2 t19) fun t20 =>
Som (vLoad1 t20 σ) fun t21 =>
Som (binA .add .num (E 1) (E 12)) fun t24 =>
C 80 [t21, t24, t16] σ fun t26 σ1 =>
Som (binA .add .num (E 7) t26) fun t27 =>
Som (binA .add .num (E 12) (.int .i64 1)) fun t28 =>
wC C (.loop R0) ((((((((((((((((((((E.set 13 t13).set 14 (E 12)).set 15 t15).set 16 t16).set 8 (E 12)).set 9 t16).set 17 (E 7)).set 18 (E 0)).set 19 t19).set 20 t20).set 21 t21).set 22 (E 1)).set 23 (E 12)).set 24 t24).set 25 t16).set 26 t26).set 27 t27).set 7 t27).set 28 t28).set 12 t28) σ1 (blockK 0 (seqK (wC C (.seq (.ops [oq 29 (.mov (ot 7)), oq 6 (.mov (ot 29))]) .ret)) (retK f76.res Q)))) (
Ret [some (E 7)] σ Q)
theorem f76.p0_eq (C : CW) (Q : AVal → S → Prop) (R0 : PC) (E : En) (σ : S) : f76.p0 C Q R0 E σ = wC C (.seq (.ops [oq 13 (.bin .lss .num (ot 12) (ot 11))]) (.seq (.cond (ot 13) .skip (.exit 0)) (.seq (.block 1 (.seq (.ops [oq 14 (.mov (ot 12)), oq 15 (.ixSl 1 (ot 10) (ot 12)), oq 16 (.load1 (ot 15)), oq 8 (.mov (ot 14)), oq 9 (.mov (ot 16))]) (.ops [oq 17 (.mov (ot 7)), oq 18 (.mov (ot 0)), oq 19 (.nilck (ot 18)), oq 20 (.fieldAddr 2 (ot 19)), oq 21 (.load1 (ot 20)), oq 22 (.mov (ot 1)), oq 23 (.mov (ot 8)), oq 24 (.bin .add .num (ot 22) (ot 23)), oq 25 (.mov (ot 9)), oe 26 (.call 80 [(ot 21), (ot 24), (ot 25)]), oq 27 (.bin .add .num (ot 17) (ot 26)), oq 7 (.mov (ot 27))]))) (.ops [oq 28 (.bin .add .num (ot 12) (.val (.int .i64 1))), oq 12 (.mov (ot 28))])))) E σ (loopK C R0 (blockK 0 (seqK (wC C (.seq (.ops [oq 29 (.mov (ot 7)), oq 6 (.mov (ot 29))]) .ret)) (retK f76.res Q)))) := by kernel_rfl
abbrev f76.L0 (C : CW) (Q : AVal → S → Prop) (E : En) (σ : S) : Prop := wC C (.loop f76.c0) E σ (blockK 0 (seqK (wC C (.seq (.ops [oq 29 (.mov (ot 7)), oq 6 (.mov (ot 29))]) .ret)) (retK f76.res Q)))
set_option maxRecDepth 20000 in
theorem f76.p0_of {tab : Nat → Option PFn} {Q : AVal → S → Prop} {E : En} {σ : S} (h : f76.p0 (WF tab) Q f76.c0 E σ) : f76.L0 (WF tab) Q E σ := wLoop_step (Eq.mp (f76.p0_eq (WF tab) Q f76.c0 E σ) h)
noncomputable def f76.body : PC := (.seq (.ops [oq 6 (.mov (.val (.int .i64 0)))]) (.seq (.ops [oq 7 (.mov (.val (.int .i64 0)))]) (.seq (.seq (.ops [oq 10 (.mov (ot 2)), oq 11 (.lenSl (ot 10)), oq 12 (.mov (.val (.int .i64 0)))]) (.block 0 (.loop f76.c0))) (.seq (.ops [oq 29 (.mov (ot 7)), oq 6 (.mov (ot 29))]) .ret))))
noncomputable def f76.fn : PFn := .code (slotsN 30) f76.body f76.res
noncomputable def f76 (C : CW) (R0 : PC) (a0 a1 a2 : AVal) (σ : S) (Q : AVal → S → Prop) : Prop :=
Som (vLenSl a2) fun t11 =>
wC C (.loop R0) ((((((((E0.set 0 a0).set 1 a1).set 2 a2).set 6 (.int .i64 0)).set 7 (.int .i64 0)).set 10 a2).set 11 t11).set 12 (.int .i64 0)) σ (blockK 0 (seqK (wC C (.seq (.ops [oq 29 (.mov (ot 7)), oq 6 (.mov (ot 29))]) .ret)) (retK f76.res Q)))
theorem f76_eq (C : CW) (R0 : PC) (a0 a1 a2 : AVal) (σ : S) (Q : AVal → S → Prop) : f76 C R0  a0 a1 a2 σ Q = wC C (.seq (.ops [oq 6 (.mov (.val (.int .i64 0)))]) (.seq (.ops [oq 7 (.mov (.val (.int .i64 0)))]) (.seq (.seq (.ops [oq 10 (.mov (ot 2)), oq 11 (.lenSl (ot 10)), oq 12 (.mov (.val (.int .i64 0)))]) (.block 0 (.loop R0))) (.seq (.ops [oq 29 (.mov (ot 7)), oq 6 (.mov (ot 29))]) .ret)))) (((E0.set 0 a0).set 1 a1).set 2 a2) σ (retK f76.res Q) := by kernel_rfl
theorem f76_ent (a0 a1 a2 : AVal) : enterE [a0, a1, a2] (slotsN 30) E0 = some (((E0.set 0 a0).set 1 a1).set 2 a2) := by kernel_rfl
set_option maxRecDepth 20000 in
theorem f76_wf {tab : Nat → Option PFn} (ht : tab 76 = some f76.fn) {a0 a1 a2 : AVal} {σ : S} {Q : AVal → S → Prop} (h : f76 (WF tab) f76.c0  a0 a1 a2 σ Q) : WF tab 76 [a0, a1, a2] σ Q := wFn_sound ht (wFn_code (f76_ent a0 a1 a2) (Eq.mp (f76_eq (WF tab) f76.c0  a0 a1 a2 σ Q) h))
/-! dray/wire.Num -/
noncomputable def f77.res : List PRes := [.tmp (sn 4)]
noncomputable def f77.body : PC := (.seq (.ops [oq 4 (.mov (.val .nsl))]) (.seq (.ops [oq 5 (.mov (ot 0)), oe 6 (.call 100 [(ot 5), (.val (.int .i64 10))]), oq 7 (.mov (ot 1)), oe 8 (.call 99 [(ot 6), (ot 7)]), oq 4 (.mov (ot 8))]) .ret))
noncomputable def f77.fn : PFn := .code (slotsN 9) f77.body f77.res
noncomputable def f77 (C : CW) (a0 a1 : AVal) (σ : S) (Q : AVal → S → Prop) : Prop :=
C 100 [a0, (.int .i64 10)] σ fun t6 σ1 =>
C 99 [t6, a1] σ1 fun t8 σ2 =>
Ret [some t8] σ2 Q
theorem f77_eq (C : CW) (a0 a1 : AVal) (σ : S) (Q : AVal → S → Prop) : f77 C   a0 a1 σ Q = wC C (.seq (.ops [oq 4 (.mov (.val .nsl))]) (.seq (.ops [oq 5 (.mov (ot 0)), oe 6 (.call 100 [(ot 5), (.val (.int .i64 10))]), oq 7 (.mov (ot 1)), oe 8 (.call 99 [(ot 6), (ot 7)]), oq 4 (.mov (ot 8))]) .ret)) ((E0.set 0 a0).set 1 a1) σ (retK f77.res Q) := by kernel_rfl
theorem f77_ent (a0 a1 : AVal) : enterE [a0, a1] (slotsN 9) E0 = some ((E0.set 0 a0).set 1 a1) := by kernel_rfl
set_option maxRecDepth 20000 in
theorem f77_wf {tab : Nat → Option PFn} (ht : tab 77 = some f77.fn) {a0 a1 : AVal} {σ : S} {Q : AVal → S → Prop} (h : f77 (WF tab)   a0 a1 σ Q) : WF tab 77 [a0, a1] σ Q := wFn_sound ht (wFn_code (f77_ent a0 a1) (Eq.mp (f77_eq (WF tab)   a0 a1 σ Q) h))
/-! dray/frame.Put -/
noncomputable def f78.res : List PRes := [.tmp (sn 4)]
noncomputable def f78.body : PC := (.seq (.ops [oq 4 (.mov (.val .nsl))]) (.seq (.ops [oq 7 (.mov (ot 0)), oq 8 (.lenSl (ot 7)), oq 9 (.bin .add .num (ot 8) (.val (.int .i64 8))), oq 10 (.mov (ot 1)), oq 11 (.lenSl (ot 10)), oq 12 (.bin .add .num (ot 9) (ot 11)), oa 13 (.mkslice 1 1 [(.int .u8 0)] (.val (.int .i64 0)) (ot 12)), oq 5 (.mov (ot 13))]) (.seq (.ops [oq 14 (.mov (ot 5)), oq 15 (.mov (ot 0)), oe 16 (.append 1 1 (ot 14) (ot 15)), oq 5 (.mov (ot 16))]) (.seq (.seq (.ops [oq 17 (.mov (ot 1)), oq 18 (.lenSl (ot 17)), oq 19 (.bin .gtr .num (ot 18) (.val (.int .i64 16384)))]) (.cond (ot 19) (.seq (.ops [oq 20 (.mov (ot 5)), oq 4 (.mov (ot 20))]) .ret) .skip)) (.seq (.ops [oq 21 (.mov (ot 1)), oq 22 (.lenSl (ot 21)), oq 23 (.toInt .u32 (ot 22)), oe 24 (.call 101 [(ot 23)]), oq 6 (.mov (ot 24))]) (.seq (.ops [oq 25 (.mov (ot 5)), oq 26 (.mov (ot 6)), oe 27 (.append 1 1 (ot 25) (ot 26)), oq 5 (.mov (ot 27))]) (.seq (.ops [oq 28 (.mov (ot 5)), oq 29 (.mov (ot 6)), oq 30 (.mov (ot 1)), oa 31 (.bslice 1 [.nsl] 2 [(0, 1, (ot 29)), (1, 1, (ot 30))]), oe 32 (.call 102 [(ot 31)]), oe 33 (.call 101 [(ot 32)]), oe 34 (.append 1 1 (ot 28) (ot 33)), oq 5 (.mov (ot 34))]) (.seq (.ops [oq 35 (.mov (ot 5)), oq 36 (.mov (ot 1)), oe 37 (.append 1 1 (ot 35) (ot 36)), oq 4 (.mov (ot 37))]) .ret))))))))
noncomputable def f78.fn : PFn := .code (slotsN 38) f78.body f78.res
noncomputable def f78 (C : CW) (a0 a1 : AVal) (σ : S) (Q : AVal → S → Prop) : Prop :=
Som (vLenSl a0) fun t8 =>
Som (binA .add .num t8 (.int .i64 8)) fun t9 =>
Som (vLenSl a1) fun t11 =>
Som (binA .add .num t9 t11) fun t12 =>
Ala (aMakeV 1 1 [(.int .u8 0)] (.int .i64 0) t12) σ fun t13 σ1 =>
Eff (appendA 1 1 t13 a0 σ1) fun t16 σ2 =>
Som (vLenSl a1) fun t18 =>
Som (binA .gtr .num t18 (.int .i64 16384)) fun t19 =>
WIf t19 (
Ret [some t16] σ2 Q) (
Som (vLenSl a1) fun t22 =>
Som (vToInt .u32 t22) fun t23 =>
C 101 [t23] σ2 fun t24 σ3 =>
Eff (appendA 1 1 t16 t24 σ3) fun t27 σ4 =>
Ala (aSliceV 1 [.nsl] 2 [(0, 1, t24), (1, 1, a1)]) σ4 fun t31 σ5 =>
C 102 [t31] σ5 fun t32 σ6 =>
C 101 [t32] σ6 fun t33 σ7 =>
Eff (appendA 1 1 t27 t33 σ7) fun t34 σ8 =>
Eff (appendA 1 1 t34 a1 σ8) fun t37 σ9 =>
Ret [some t37] σ9 Q)
theorem f78_eq (C : CW) (a0 a1 : AVal) (σ : S) (Q : AVal → S → Prop) : f78 C   a0 a1 σ Q = wC C (.seq (.ops [oq 4 (.mov (.val .nsl))]) (.seq (.ops [oq 7 (.mov (ot 0)), oq 8 (.lenSl (ot 7)), oq 9 (.bin .add .num (ot 8) (.val (.int .i64 8))), oq 10 (.mov (ot 1)), oq 11 (.lenSl (ot 10)), oq 12 (.bin .add .num (ot 9) (ot 11)), oa 13 (.mkslice 1 1 [(.int .u8 0)] (.val (.int .i64 0)) (ot 12)), oq 5 (.mov (ot 13))]) (.seq (.ops [oq 14 (.mov (ot 5)), oq 15 (.mov (ot 0)), oe 16 (.append 1 1 (ot 14) (ot 15)), oq 5 (.mov (ot 16))]) (.seq (.seq (.ops [oq 17 (.mov (ot 1)), oq 18 (.lenSl (ot 17)), oq 19 (.bin .gtr .num (ot 18) (.val (.int .i64 16384)))]) (.cond (ot 19) (.seq (.ops [oq 20 (.mov (ot 5)), oq 4 (.mov (ot 20))]) .ret) .skip)) (.seq (.ops [oq 21 (.mov (ot 1)), oq 22 (.lenSl (ot 21)), oq 23 (.toInt .u32 (ot 22)), oe 24 (.call 101 [(ot 23)]), oq 6 (.mov (ot 24))]) (.seq (.ops [oq 25 (.mov (ot 5)), oq 26 (.mov (ot 6)), oe 27 (.append 1 1 (ot 25) (ot 26)), oq 5 (.mov (ot 27))]) (.seq (.ops [oq 28 (.mov (ot 5)), oq 29 (.mov (ot 6)), oq 30 (.mov (ot 1)), oa 31 (.bslice 1 [.nsl] 2 [(0, 1, (ot 29)), (1, 1, (ot 30))]), oe 32 (.call 102 [(ot 31)]), oe 33 (.call 101 [(ot 32)]), oe 34 (.append 1 1 (ot 28) (ot 33)), oq 5 (.mov (ot 34))]) (.seq (.ops [oq 35 (.mov (ot 5)), oq 36 (.mov (ot 1)), oe 37 (.append 1 1 (ot 35) (ot 36)), oq 4 (.mov (ot 37))]) .ret)))))))) ((E0.set 0 a0).set 1 a1) σ (retK f78.res Q) := by kernel_rfl
theorem f78_ent (a0 a1 : AVal) : enterE [a0, a1] (slotsN 38) E0 = some ((E0.set 0 a0).set 1 a1) := by kernel_rfl
set_option maxRecDepth 20000 in
theorem f78_wf {tab : Nat → Option PFn} (ht : tab 78 = some f78.fn) {a0 a1 : AVal} {σ : S} {Q : AVal → S → Prop} (h : f78 (WF tab)   a0 a1 σ Q) : WF tab 78 [a0, a1] σ Q := wFn_sound ht (wFn_code (f78_ent a0 a1) (Eq.mp (f78_eq (WF tab)   a0 a1 σ Q) h))
/-! *dray/wal.Log.begin -/
noncomputable def f79.res : List PRes := []
noncomputable def f79.body : PC := (.seq (.ops [oq 4 (.mov (ot 0)), oq 5 (.nilck (ot 4)), oq 6 (.fieldAddr 4 (ot 5)), oq 7 (.load1 (ot 6)), oq 8 (.lenSl (ot 7)), oq 9 (.bin .eql .num (ot 8) (.val (.int .i64 0)))]) (.cond (ot 9) (.ops [oq 10 (.mov (ot 0)), oq 11 (.mov (ot 1)), oq 12 (.nilck (ot 10)), oq 13 (.fieldAddr 3 (ot 12)), ⟨none, none, (.e (.store 1 (ot 13) (ot 11)))⟩]) .skip))
noncomputable def f79.fn : PFn := .code (slotsN 14) f79.body f79.res
noncomputable def f79 (C : CW) (a0 a1 : AVal) (σ : S) (Q : AVal → S → Prop) : Prop :=
Som (vNilck a0) fun t5 =>
Som (vFieldAddr 4 t5) fun t6 =>
Som (vLoad1 t6 σ) fun t7 =>
Som (vLenSl t7) fun t8 =>
Som (binA .eql .num t8 (.int .i64 0)) fun t9 =>
WIf t9 (
Som (vNilck a0) fun t12 =>
Som (vFieldAddr 3 t12) fun t13 =>
Eff (storeW 1 t13 a1 σ) fun _ σ1 =>
Ret [] σ1 Q) (
Ret [] σ Q)
theorem f79_eq (C : CW) (a0 a1 : AVal) (σ : S) (Q : AVal → S → Prop) : f79 C   a0 a1 σ Q = wC C (.seq (.ops [oq 4 (.mov (ot 0)), oq 5 (.nilck (ot 4)), oq 6 (.fieldAddr 4 (ot 5)), oq 7 (.load1 (ot 6)), oq 8 (.lenSl (ot 7)), oq 9 (.bin .eql .num (ot 8) (.val (.int .i64 0)))]) (.cond (ot 9) (.ops [oq 10 (.mov (ot 0)), oq 11 (.mov (ot 1)), oq 12 (.nilck (ot 10)), oq 13 (.fieldAddr 3 (ot 12)), ⟨none, none, (.e (.store 1 (ot 13) (ot 11)))⟩]) .skip)) ((E0.set 0 a0).set 1 a1) σ (retK f79.res Q) := by kernel_rfl
theorem f79_ent (a0 a1 : AVal) : enterE [a0, a1] (slotsN 14) E0 = some ((E0.set 0 a0).set 1 a1) := by kernel_rfl
set_option maxRecDepth 20000 in
theorem f79_wf {tab : Nat → Option PFn} (ht : tab 79 = some f79.fn) {a0 a1 : AVal} {σ : S} {Q : AVal → S → Prop} (h : f79 (WF tab)   a0 a1 σ Q) : WF tab 79 [a0, a1] σ Q := wFn_sound ht (wFn_code (f79_ent a0 a1) (Eq.mp (f79_eq (WF tab)   a0 a1 σ Q) h))
/-! dray/wal.long -/
noncomputable def f80.res : List PRes := [.tmp (sn 6)]
noncomputable def f80.body : PC := (.seq (.ops [oq 6 (.mov (.val (.int .i64 0)))]) (.seq (.ops [oq 7 (.mov (ot 0)), oq 8 (.mov (ot 1)), oe 9 (.call 50 [(.val .nsl), (.val (.int .i64 1)), (ot 7), (ot 8), (.val (.int .i64 0)), (.val (.str []))]), oq 10 (.lenSl (ot 9)), oq 11 (.mov (ot 2)), oq 12 (.lenStr (ot 11)), oq 13 (.bin .add .num (ot 10) (ot 12)), oq 6 (.mov (ot 13))]) .ret))
noncomputable def f80.fn : PFn := .code (slotsN 14) f80.body f80.res
noncomputable def f80 (C : CW) (a0 a1 a2 : AVal) (σ : S) (Q : AVal → S → Prop) : Prop :=
C 50 [.nsl, (.int .i64 1), a0, a1, (.int .i64 0), (.str [])] σ fun t9 σ1 =>
Som (vLenSl t9) fun t10 =>
Som (vLenStr a2) fun t12 =>
Som (binA .add .num t10 t12) fun t13 =>
Ret [some t13] σ1 Q
theorem f80_eq (C : CW) (a0 a1 a2 : AVal) (σ : S) (Q : AVal → S → Prop) : f80 C   a0 a1 a2 σ Q = wC C (.seq (.ops [oq 6 (.mov (.val (.int .i64 0)))]) (.seq (.ops [oq 7 (.mov (ot 0)), oq 8 (.mov (ot 1)), oe 9 (.call 50 [(.val .nsl), (.val (.int .i64 1)), (ot 7), (ot 8), (.val (.int .i64 0)), (.val (.str []))]), oq 10 (.lenSl (ot 9)), oq 11 (.mov (ot 2)), oq 12 (.lenStr (ot 11)), oq 13 (.bin .add .num (ot 10) (ot 12)), oq 6 (.mov (ot 13))]) .ret)) (((E0.set 0 a0).set 1 a1).set 2 a2) σ (retK f80.res Q) := by kernel_rfl
theorem f80_ent (a0 a1 a2 : AVal) : enterE [a0, a1, a2] (slotsN 14) E0 = some (((E0.set 0 a0).set 1 a1).set 2 a2) := by kernel_rfl
set_option maxRecDepth 20000 in
theorem f80_wf {tab : Nat → Option PFn} (ht : tab 80 = some f80.fn) {a0 a1 a2 : AVal} {σ : S} {Q : AVal → S → Prop} (h : f80 (WF tab)   a0 a1 a2 σ Q) : WF tab 80 [a0, a1, a2] σ Q := wFn_sound ht (wFn_code (f80_ent a0 a1 a2) (Eq.mp (f80_eq (WF tab)   a0 a1 a2 σ Q) h))
/-! dray/frame.Next -/
noncomputable def f83.res : List PRes := [.tmp (sn 4), .tmp (sn 5), .tmp (sn 6)]
noncomputable def f83.body : PC := (.seq (.ops [oq 4 (.mov (.val .nsl)), oq 5 (.mov (.val (.int .i64 0))), oq 6 (.mov (.val (.int .i64 0)))]) (.seq (.seq (.ops [oq 10 (.mov (ot 1)), oq 11 (.bin .lss .num (ot 10) (.val (.int .i64 0))), oq 12 (.mov (ot 11)), oqg 13 12 false (.mov (ot 1)), oqg 14 12 false (.mov (ot 0)), oqg 15 12 false (.lenSl (ot 14)), oqg 16 12 false (.bin .gtr .num (ot 13) (ot 15)), oq 17 (.pick (ot 12) (.val (.bool true)) (ot 16))]) (.cond (ot 17) (.seq (.ops [oq 4 (.mov (.val .nsl)), oq 5 (.mov (.val (.int .i64 0))), oq 6 (.mov (.val (.int .i64 1)))]) .ret) .skip)) (.seq (.seq (.ops [oq 18 (.mov (ot 1)), oq 19 (.mov (ot 0)), oq 20 (.lenSl (ot 19)), oq 21 (.bin .eql .num (ot 18) (ot 20))]) (.cond (ot 21) (.seq (.ops [oq 4 (.mov (.val .nsl)), oq 5 (.mov (.val (.int .i64 0))), oq 6 (.mov (.val (.int .i64 8)))]) .ret) .skip)) (.seq (.ops [oq 22 (.mov (ot 0)), oq 23 (.mov (ot 1)), oq 24 (.slSl 1 (ot 22) (some (ot 23)) none none), oq 7 (.mov (ot 24))]) (.seq (.seq (.ops [oq 25 (.mov (ot 7)), oq 26 (.lenSl (ot 25)), oq 27 (.bin .lss .num (ot 26) (.val (.int .i64 8)))]) (.cond (ot 27) (.seq (.ops [oq 4 (.mov (.val .nsl)), oq 5 (.mov (.val (.int .i64 0))), oq 6 (.mov (.val (.int .i64 3)))]) .ret) .skip)) (.seq (.ops [oq 28 (.mov (ot 7)), oe 29 (.call 103 [(ot 28)]), oq 8 (.mov (ot 29))]) (.seq (.seq (.ops [oq 30 (.mov (ot 8)), oq 31 (.bin .gtr .num (ot 30) (.val (.int .u32 16384)))]) (.cond (ot 31) (.seq (.ops [oq 4 (.mov (.val .nsl)), oq 5 (.mov (.val (.int .i64 0))), oq 6 (.mov (.val (.int .i64 2)))]) .ret) .skip)) (.seq (.seq (.ops [oq 32 (.mov (ot 7)), oq 33 (.lenSl (ot 32)), oq 34 (.bin .sub .num (ot 33) (.val (.int .i64 8))), oq 35 (.mov (ot 8)), oq 36 (.toInt .i64 (ot 35)), oq 37 (.bin .lss .num (ot 34) (ot 36))]) (.cond (ot 37) (.seq (.ops [oq 4 (.mov (.val .nsl)), oq 5 (.mov (.val (.int .i64 0))), oq 6 (.mov (.val (.int .i64 3)))]) .ret) .skip)) (.seq (.ops [oq 38 (.mov (ot 7)), oq 39 (.mov (ot 8)), oq 40 (.toInt .i64 (ot 39)), oq 41 (.bin .add .num (.val (.int .i64 8)) (ot 40)), oq 42 (.slSl 1 (ot 38) (some (.val (.int .i64 8))) (some (ot 41)) none), oq 9 (.mov (ot 42))]) (.seq (.seq (.draw 9 [⟨0, oq 43 (.mov (ot 7)), []⟩, ⟨1, oq 44 (.slSl 1 (ot 43) none (some (.val (.int .i64 4))) none), []⟩, ⟨2, oq 45 (.mov (ot 9)), []⟩, ⟨5, oq 48 (.mov (ot 7)), []⟩, ⟨6, oq 49 (.slSl 1 (ot 48) (some (.val (.int .i64 4))) none none), []⟩, ⟨3, oa 46 (.bslice 1 [.nsl] 2 [(0, 1, (ot 44)), (1, 1, (ot 45))]), []⟩, ⟨4, oe 47 (.call 102 [(ot 46)]), []⟩, ⟨7, oe 50 (.call 103 [(ot 49)]), []⟩, ⟨8, oq 51 (.bin .neq .num (ot 47) (ot 50)), []⟩]) (.cond (ot 51) (.seq (.ops [oq 4 (.mov (.val .nsl)), oq 5 (.mov (.val (.int .i64 0))), oq 6 (.mov (.val (.int .i64 6)))]) .ret) .skip)) (.seq (.ops [oq 52 (.mov (ot 9)), oe 53 (.append 1 1 (.val .nsl) (ot 52)), oq 54 (.mov (ot 1)), oq 55 (.bin .add .num (ot 54) (.val (.int .i64 8))), oq 56 (.mov (ot 8)), oq 57 (.toInt .i64 (ot 56)), oq 58 (.bin .add .num (ot 55) (ot 57)), oq 4 (.mov (ot 53)), oq 5 (.mov (ot 58)), oq 6 (.mov (.val (.int .i64 0)))]) .ret)))))))))))
noncomputable def f83.fn : PFn := .code (slotsN 59) f83.body f83.res
noncomputable def f83 (C : CW) (a0 a1 : AVal) (σ : S) (Q : AVal → S → Prop) : Prop :=
Som (binA .lss .num a1 (.int .i64 0)) fun t11 =>
Som (gq1 (isB t11 false) (some a1)) fun t13 =>
Som (gq1 (isB t11 false) (some a0)) fun t14 =>
Som (gq1 (isB t11 false) (vLenSl t14)) fun t15 =>
Som (gq1 (isB t11 false) (binA .gtr .num t13 t15)) fun t16 =>
Som (vPick t11 (.bool true) t16) fun t17 =>
WIf t17 (
Ret [some .nsl, some (.int .i64 0), some (.int .i64 1)] σ Q) (
Som (vLenSl a0) fun t20 =>
Som (binA .eql .num a1 t20) fun t21 =>
WIf t21 (
Ret [some .nsl, some (.int .i64 0), some (.int .i64 8)] σ Q) (
Som (vSlSl 1 a0 (some a1) none none) fun t24 =>
Som (vLenSl t24) fun t26 =>
Som (binA .lss .num t26 (.int .i64 8)) fun t27 =>
WIf t27 (
Ret [some .nsl, some (.int .i64 0), some (.int .i64 3)] σ Q) (
C 103 [t24] σ fun t29 σ1 =>
Som (binA .gtr .num t29 (.int .u32 16384)) fun t31 =>
WIf t31 (
Ret [some .nsl, some (.int .i64 0), some (.int .i64 2)] σ1 Q) (
Som (vLenSl t24) fun t33 =>
Som (binA .sub .num t33 (.int .i64 8)) fun t34 =>
Som (vToInt .i64 t29) fun t36 =>
Som (binA .lss .num t34 t36) fun t37 =>
WIf t37 (
Ret [some .nsl, some (.int .i64 0), some (.int .i64 3)] σ1 Q) (
Som (vToInt .i64 t29) fun t40 =>
Som (binA .add .num (.int .i64 8) t40) fun t41 =>
Som (vSlSl 1 t24 (some (.int .i64 8)) (some t41) none) fun t42 =>
Som (vSlSl 1 t24 none (some (.int .i64 4)) none) fun t44 =>
Som (vSlSl 1 t24 (some (.int .i64 4)) none none) fun t49 =>
Alb (aSliceV 1 [.nsl] 2 [(0, 1, t44), (1, 1, t42)]) (Pos.plusT 3 σ1.next) (σ1.bumpT 9) fun t46 σ2 =>
C 102 [t46] σ2 fun t47 σ3 =>
C 103 [t49] σ3 fun t50 σ4 =>
Som (binA .neq .num t47 t50) fun t51 =>
WIf t51 (
Ret [some .nsl, some (.int .i64 0), some (.int .i64 6)] σ4 Q) (
Eff (appendA 1 1 .nsl t42 σ4) fun t53 σ5 =>
Som (binA .add .num a1 (.int .i64 8)) fun t55 =>
Som (vToInt .i64 t29) fun t57 =>
Som (binA .add .num t55 t57) fun t58 =>
Ret [some t53, some t58, some (.int .i64 0)] σ5 Q))))))
theorem f83_eq (C : CW) (a0 a1 : AVal) (σ : S) (Q : AVal → S → Prop) : f83 C   a0 a1 σ Q = wC C (.seq (.ops [oq 4 (.mov (.val .nsl)), oq 5 (.mov (.val (.int .i64 0))), oq 6 (.mov (.val (.int .i64 0)))]) (.seq (.seq (.ops [oq 10 (.mov (ot 1)), oq 11 (.bin .lss .num (ot 10) (.val (.int .i64 0))), oq 12 (.mov (ot 11)), oqg 13 12 false (.mov (ot 1)), oqg 14 12 false (.mov (ot 0)), oqg 15 12 false (.lenSl (ot 14)), oqg 16 12 false (.bin .gtr .num (ot 13) (ot 15)), oq 17 (.pick (ot 12) (.val (.bool true)) (ot 16))]) (.cond (ot 17) (.seq (.ops [oq 4 (.mov (.val .nsl)), oq 5 (.mov (.val (.int .i64 0))), oq 6 (.mov (.val (.int .i64 1)))]) .ret) .skip)) (.seq (.seq (.ops [oq 18 (.mov (ot 1)), oq 19 (.mov (ot 0)), oq 20 (.lenSl (ot 19)), oq 21 (.bin .eql .num (ot 18) (ot 20))]) (.cond (ot 21) (.seq (.ops [oq 4 (.mov (.val .nsl)), oq 5 (.mov (.val (.int .i64 0))), oq 6 (.mov (.val (.int .i64 8)))]) .ret) .skip)) (.seq (.ops [oq 22 (.mov (ot 0)), oq 23 (.mov (ot 1)), oq 24 (.slSl 1 (ot 22) (some (ot 23)) none none), oq 7 (.mov (ot 24))]) (.seq (.seq (.ops [oq 25 (.mov (ot 7)), oq 26 (.lenSl (ot 25)), oq 27 (.bin .lss .num (ot 26) (.val (.int .i64 8)))]) (.cond (ot 27) (.seq (.ops [oq 4 (.mov (.val .nsl)), oq 5 (.mov (.val (.int .i64 0))), oq 6 (.mov (.val (.int .i64 3)))]) .ret) .skip)) (.seq (.ops [oq 28 (.mov (ot 7)), oe 29 (.call 103 [(ot 28)]), oq 8 (.mov (ot 29))]) (.seq (.seq (.ops [oq 30 (.mov (ot 8)), oq 31 (.bin .gtr .num (ot 30) (.val (.int .u32 16384)))]) (.cond (ot 31) (.seq (.ops [oq 4 (.mov (.val .nsl)), oq 5 (.mov (.val (.int .i64 0))), oq 6 (.mov (.val (.int .i64 2)))]) .ret) .skip)) (.seq (.seq (.ops [oq 32 (.mov (ot 7)), oq 33 (.lenSl (ot 32)), oq 34 (.bin .sub .num (ot 33) (.val (.int .i64 8))), oq 35 (.mov (ot 8)), oq 36 (.toInt .i64 (ot 35)), oq 37 (.bin .lss .num (ot 34) (ot 36))]) (.cond (ot 37) (.seq (.ops [oq 4 (.mov (.val .nsl)), oq 5 (.mov (.val (.int .i64 0))), oq 6 (.mov (.val (.int .i64 3)))]) .ret) .skip)) (.seq (.ops [oq 38 (.mov (ot 7)), oq 39 (.mov (ot 8)), oq 40 (.toInt .i64 (ot 39)), oq 41 (.bin .add .num (.val (.int .i64 8)) (ot 40)), oq 42 (.slSl 1 (ot 38) (some (.val (.int .i64 8))) (some (ot 41)) none), oq 9 (.mov (ot 42))]) (.seq (.seq (.draw 9 [⟨0, oq 43 (.mov (ot 7)), []⟩, ⟨1, oq 44 (.slSl 1 (ot 43) none (some (.val (.int .i64 4))) none), []⟩, ⟨2, oq 45 (.mov (ot 9)), []⟩, ⟨5, oq 48 (.mov (ot 7)), []⟩, ⟨6, oq 49 (.slSl 1 (ot 48) (some (.val (.int .i64 4))) none none), []⟩, ⟨3, oa 46 (.bslice 1 [.nsl] 2 [(0, 1, (ot 44)), (1, 1, (ot 45))]), []⟩, ⟨4, oe 47 (.call 102 [(ot 46)]), []⟩, ⟨7, oe 50 (.call 103 [(ot 49)]), []⟩, ⟨8, oq 51 (.bin .neq .num (ot 47) (ot 50)), []⟩]) (.cond (ot 51) (.seq (.ops [oq 4 (.mov (.val .nsl)), oq 5 (.mov (.val (.int .i64 0))), oq 6 (.mov (.val (.int .i64 6)))]) .ret) .skip)) (.seq (.ops [oq 52 (.mov (ot 9)), oe 53 (.append 1 1 (.val .nsl) (ot 52)), oq 54 (.mov (ot 1)), oq 55 (.bin .add .num (ot 54) (.val (.int .i64 8))), oq 56 (.mov (ot 8)), oq 57 (.toInt .i64 (ot 56)), oq 58 (.bin .add .num (ot 55) (ot 57)), oq 4 (.mov (ot 53)), oq 5 (.mov (ot 58)), oq 6 (.mov (.val (.int .i64 0)))]) .ret))))))))))) ((E0.set 0 a0).set 1 a1) σ (retK f83.res Q) := by kernel_rfl
theorem f83_ent (a0 a1 : AVal) : enterE [a0, a1] (slotsN 59) E0 = some ((E0.set 0 a0).set 1 a1) := by kernel_rfl
set_option maxRecDepth 20000 in
theorem f83_wf {tab : Nat → Option PFn} (ht : tab 83 = some f83.fn) {a0 a1 : AVal} {σ : S} {Q : AVal → S → Prop} (h : f83 (WF tab)   a0 a1 σ Q) : WF tab 83 [a0, a1] σ Q := wFn_sound ht (wFn_code (f83_ent a0 a1) (Eq.mp (f83_eq (WF tab)   a0 a1 σ Q) h))
/-! dray/wire.Read -/
noncomputable def f84.res : List PRes := [.tmp (sn 2)]
noncomputable def f84.body : PC := (.seq (.ops [oq 2 (.mov (.val .nptr))]) (.seq (.ops [oq 3 (.mov (ot 0)), oe 4 (.call 100 [(ot 3), (.val (.int .i64 0))]), oq 5 (.build [(.int .i64 0), (.int .i64 0), .nsl, (.int .i64 0)] [(2, 1, (ot 4))]), oa 6 (.box (ot 5)), oq 2 (.mov (ot 6))]) .ret))
noncomputable def f84.fn : PFn := .code (slotsN 7) f84.body f84.res
noncomputable def f84 (C : CW) (a0 : AVal) (σ : S) (Q : AVal → S → Prop) : Prop :=
C 100 [a0, (.int .i64 0)] σ fun t4 σ1 =>
Som (vBuild [(.int .i64 0), (.int .i64 0), .nsl, (.int .i64 0)] [(2, 1, t4)]) fun t5 =>
Ala (aBoxV t5) σ1 fun t6 σ2 =>
Ret [some t6] σ2 Q
theorem f84_eq (C : CW) (a0 : AVal) (σ : S) (Q : AVal → S → Prop) : f84 C   a0 σ Q = wC C (.seq (.ops [oq 2 (.mov (.val .nptr))]) (.seq (.ops [oq 3 (.mov (ot 0)), oe 4 (.call 100 [(ot 3), (.val (.int .i64 0))]), oq 5 (.build [(.int .i64 0), (.int .i64 0), .nsl, (.int .i64 0)] [(2, 1, (ot 4))]), oa 6 (.box (ot 5)), oq 2 (.mov (ot 6))]) .ret)) (E0.set 0 a0) σ (retK f84.res Q) := by kernel_rfl
theorem f84_ent (a0 : AVal) : enterE [a0] (slotsN 7) E0 = some (E0.set 0 a0) := by kernel_rfl
set_option maxRecDepth 20000 in
theorem f84_wf {tab : Nat → Option PFn} (ht : tab 84 = some f84.fn) {a0 : AVal} {σ : S} {Q : AVal → S → Prop} (h : f84 (WF tab)   a0 σ Q) : WF tab 84 [a0] σ Q := wFn_sound ht (wFn_code (f84_ent a0) (Eq.mp (f84_eq (WF tab)   a0 σ Q) h))
/-! *dray/wire.Reader.Num -/
noncomputable def f85.res : List PRes := [.tmp (sn 2)]
noncomputable def f85.body : PC := (.seq (.ops [oq 2 (.mov (.val (.int .i64 0)))]) (.seq (.seq (.ops [oq 3 (.mov (ot 0)), oq 4 (.bin .eql .ptr (ot 3) (.val .nptr)), oq 5 (.mov (ot 4)), oqg 6 5 false (.mov (ot 0)), oqg 7 5 false (.nilck (ot 6)), oqg 8 5 false (.fieldAddr 0 (ot 7)), oqg 9 5 false (.loadN 2 (ot 8)), oeg 10 5 false (.call 97 [(ot 9)]), oqg 11 5 false (.un .not (ot 10)), oq 12 (.pick (ot 5) (.val (.bool true)) (ot 11))]) (.cond (ot 12) (.seq (.ops [oq 2 (.mov (.val (.int .i64 0)))]) .ret) .skip)) (.seq (.ops [oq 13 (.mov (ot 0)), oq 14 (.mov (ot 0)), oq 15 (.nilck (ot 14)), oq 16 (.fieldAddr 3 (ot 15)), oq 17 (.load1 (ot 16)), oe 18 (.call 104 [(ot 13), (ot 17)]), oq 2 (.mov (ot 18))]) .ret)))
noncomputable def f85.fn : PFn := .code (slotsN 19) f85.body f85.res
noncomputable def f85 (C : CW) (a0 : AVal) (σ : S) (Q : AVal → S → Prop) : Prop :=
Som (binA .eql .ptr a0 .nptr) fun t4 =>
Som (gq1 (isB t4 false) (some a0)) fun t6 =>
Som (gq1 (isB t4 false) (vNilck t6)) fun t7 =>
Som (gq1 (isB t4 false) (vFieldAddr 0 t7)) fun t8 =>
Som (gq1 (isB t4 false) (vLoadN 2 t8 σ)) fun t9 =>
gE1 (isB t4 false) (fun K => C 97 [t9] σ K) σ fun t10 σ1 =>
Som (gq1 (isB t4 false) (unA .not t10)) fun t11 =>
Som (vPick t4 (.bool true) t11) fun t12 =>
WIf t12 (
Ret [some (.int .i64 0)] σ1 Q) (
Som (vNilck a0) fun t15 =>
Som (vFieldAddr 3 t15) fun t16 =>
Som (vLoad1 t16 σ1) fun t17 =>
C 104 [a0, t17] σ1 fun t18 σ2 =>
Ret [some t18] σ2 Q)
theorem f85_eq (C : CW) (a0 : AVal) (σ : S) (Q : AVal → S → Prop) : f85 C   a0 σ Q = wC C (.seq (.ops [oq 2 (.mov (.val (.int .i64 0)))]) (.seq (.seq (.ops [oq 3 (.mov (ot 0)), oq 4 (.bin .eql .ptr (ot 3) (.val .nptr)), oq 5 (.mov (ot 4)), oqg 6 5 false (.mov (ot 0)), oqg 7 5 false (.nilck (ot 6)), oqg 8 5 false (.fieldAddr 0 (ot 7)), oqg 9 5 false (.loadN 2 (ot 8)), oeg 10 5 false (.call 97 [(ot 9)]), oqg 11 5 false (.un .not (ot 10)), oq 12 (.pick (ot 5) (.val (.bool true)) (ot 11))]) (.cond (ot 12) (.seq (.ops [oq 2 (.mov (.val (.int .i64 0)))]) .ret) .skip)) (.seq (.ops [oq 13 (.mov (ot 0)), oq 14 (.mov (ot 0)), oq 15 (.nilck (ot 14)), oq 16 (.fieldAddr 3 (ot 15)), oq 17 (.load1 (ot 16)), oe 18 (.call 104 [(ot 13), (ot 17)]), oq 2 (.mov (ot 18))]) .ret))) (E0.set 0 a0) σ (retK f85.res Q) := by kernel_rfl
theorem f85_ent (a0 : AVal) : enterE [a0] (slotsN 19) E0 = some (E0.set 0 a0) := by kernel_rfl
set_option maxRecDepth 20000 in
theorem f85_wf {tab : Nat → Option PFn} (ht : tab 85 = some f85.fn) {a0 : AVal} {σ : S} {Q : AVal → S → Prop} (h : f85 (WF tab)   a0 σ Q) : WF tab 85 [a0] σ Q := wFn_sound ht (wFn_code (f85_ent a0) (Eq.mp (f85_eq (WF tab)   a0 σ Q) h))
/-! dray/api.Fault.Good -/
noncomputable def f97.res : List PRes := [.tmp (sn 2)]
noncomputable def f97.body : PC := (.seq (.ops [oa 1 (.box (ot 0)), oq 2 (.mov (.val (.bool false)))]) (.seq (.ops [oq 3 (.fieldAddr 1 (ot 1)), oq 4 (.load1 (ot 3)), oq 5 (.bin .eql .num (ot 4) (.val (.int .i64 0))), oq 2 (.mov (ot 5))]) .ret))
noncomputable def f97.fn : PFn := .code (slotsN 6) f97.body f97.res
noncomputable def f97 (C : CW) (a0 : AVal) (σ : S) (Q : AVal → S → Prop) : Prop :=
Ala (aBoxV a0) σ fun t1 σ1 =>
Som (vFieldAddr 1 t1) fun t3 =>
Som (vLoad1 t3 σ1) fun t4 =>
Som (binA .eql .num t4 (.int .i64 0)) fun t5 =>
Ret [some t5] σ1 Q
theorem f97_eq (C : CW) (a0 : AVal) (σ : S) (Q : AVal → S → Prop) : f97 C   a0 σ Q = wC C (.seq (.ops [oa 1 (.box (ot 0)), oq 2 (.mov (.val (.bool false)))]) (.seq (.ops [oq 3 (.fieldAddr 1 (ot 1)), oq 4 (.load1 (ot 3)), oq 5 (.bin .eql .num (ot 4) (.val (.int .i64 0))), oq 2 (.mov (ot 5))]) .ret)) (E0.set 0 a0) σ (retK f97.res Q) := by kernel_rfl
theorem f97_ent (a0 : AVal) : enterE [a0] (slotsN 6) E0 = some (E0.set 0 a0) := by kernel_rfl
set_option maxRecDepth 20000 in
theorem f97_wf {tab : Nat → Option PFn} (ht : tab 97 = some f97.fn) {a0 : AVal} {σ : S} {Q : AVal → S → Prop} (h : f97 (WF tab)   a0 σ Q) : WF tab 97 [a0] σ Q := wFn_sound ht (wFn_code (f97_ent a0) (Eq.mp (f97_eq (WF tab)   a0 σ Q) h))
/-! *dray/wire.Reader.Next -/
noncomputable def f98.res : List PRes := [.tmp (sn 2)]
noncomputable def f98.body : PC := (.seq (.ops [oq 2 (.mov (.val (.int .i64 0)))]) (.seq (.seq (.ops [oq 3 (.mov (ot 0)), oq 4 (.bin .eql .ptr (ot 3) (.val .nptr))]) (.cond (ot 4) (.seq (.ops [oq 2 (.mov (.val (.int .i64 0)))]) .ret) .skip)) (.seq (.ops [oq 5 (.mov (ot 0)), oq 6 (.nilck (ot 5)), oq 7 (.fieldAddr 3 (ot 6)), oq 8 (.load1 (ot 7)), oq 2 (.mov (ot 8))]) .ret)))
noncomputable def f98.fn : PFn := .code (slotsN 9) f98.body f98.res
noncomputable def f98 (C : CW) (a0 : AVal) (σ : S) (Q : AVal → S → Prop) : Prop :=
Som (binA .eql .ptr a0 .nptr) fun t4 =>
WIf t4 (
Ret [some (.int .i64 0)] σ Q) (
Som (vNilck a0) fun t6 =>
Som (vFieldAddr 3 t6) fun t7 =>
Som (vLoad1 t7 σ) fun t8 =>
Ret [some t8] σ Q)
theorem f98_eq (C : CW) (a0 : AVal) (σ : S) (Q : AVal → S → Prop) : f98 C   a0 σ Q = wC C (.seq (.ops [oq 2 (.mov (.val (.int .i64 0)))]) (.seq (.seq (.ops [oq 3 (.mov (ot 0)), oq 4 (.bin .eql .ptr (ot 3) (.val .nptr))]) (.cond (ot 4) (.seq (.ops [oq 2 (.mov (.val (.int .i64 0)))]) .ret) .skip)) (.seq (.ops [oq 5 (.mov (ot 0)), oq 6 (.nilck (ot 5)), oq 7 (.fieldAddr 3 (ot 6)), oq 8 (.load1 (ot 7)), oq 2 (.mov (ot 8))]) .ret))) (E0.set 0 a0) σ (retK f98.res Q) := by kernel_rfl
theorem f98_ent (a0 : AVal) : enterE [a0] (slotsN 9) E0 = some (E0.set 0 a0) := by kernel_rfl
set_option maxRecDepth 20000 in
theorem f98_wf {tab : Nat → Option PFn} (ht : tab 98 = some f98.fn) {a0 : AVal} {σ : S} {Q : AVal → S → Prop} (h : f98 (WF tab)   a0 σ Q) : WF tab 98 [a0] σ Q := wFn_sound ht (wFn_code (f98_ent a0) (Eq.mp (f98_eq (WF tab)   a0 σ Q) h))
/-! dray/wire.put -/
noncomputable def f99.c1 : PC := (.seq (.ops [oq 18 (.mov (ot 0)), oq 19 (.mov (ot 5)), oq 20 (.toInt .u8 (ot 19)), oa 21 (.bslice 1 [(.int .u8 0)] 1 [(0, 1, (ot 20))]), oe 22 (.append 1 1 (ot 18) (ot 21)), oq 4 (.mov (ot 22))]) .ret)
noncomputable def f99.c0 : PC := (.seq (.seq (.ops [oq 8 (.mov (ot 5)), oq 9 (.bin .geq .num (ot 8) (.val (.int .u64 128)))]) (.cond (ot 9) .skip (.exit 0))) (.block 1 (.seq (.ops [oq 10 (.mov (ot 0)), oq 11 (.mov (ot 5)), oq 12 (.toInt .u8 (ot 11)), oq 13 (.bin .or .num (ot 12) (.val (.int .u8 128))), oa 14 (.bslice 1 [(.int .u8 0)] 1 [(0, 1, (ot 13))]), oe 15 (.append 1 1 (ot 10) (ot 14)), oq 0 (.mov (ot 15))]) (.ops [oq 16 (.mov (ot 5)), oq 17 (.bin .shr .num (ot 16) (.val (.int .u64 7))), oq 5 (.mov (ot 17))]))))
noncomputable def f99.res : List PRes := [.tmp (sn 4)]
noncomputable def f99.p1 (C : CW) (Q : AVal → S → Prop) (E : En) (σ : S) : Prop :=
Som (vToInt .u8 (E 5)) fun t20 =>
Ala (aSliceV 1 [(.int .u8 0)] 1 [(0, 1, t20)]) σ fun t21 σ1 =>
Eff (appendA 1 1 (E 0) t21 σ1) fun t22 σ2 =>
Ret [some t22] σ2 Q
theorem f99.p1_eq (C : CW) (Q : AVal → S → Prop) (E : En) (σ : S) : f99.p1 C Q  E σ = wC C (.seq (.ops [oq 18 (.mov (ot 0)), oq 19 (.mov (ot 5)), oq 20 (.toInt .u8 (ot 19)), oa 21 (.bslice 1 [(.int .u8 0)] 1 [(0, 1, (ot 20))]), oe 22 (.append 1 1 (ot 18) (ot 21)), oq 4 (.mov (ot 22))]) .ret) E σ (retK f99.res Q) := by kernel_rfl
abbrev f99.J1 (C : CW) (Q : AVal → S → Prop) (E : En) (σ : S) : Prop := wC C f99.c1 E σ (retK f99.res Q)
set_option maxRecDepth 20000 in
theorem f99.p1_of {C : CW} {Q : AVal → S → Prop} {E : En} {σ : S} (h : f99.p1 C Q  E σ) : f99.J1 C Q E σ := Eq.mp (f99.p1_eq C Q  E σ) h
noncomputable def f99.p0 (C : CW) (Q : AVal → S → Prop) (R0 R1 : PC) (E : En) (σ : S) : Prop :=
Som (binA .geq .num (E 5) (.int .u64 128)) fun t9 =>
WIf t9 (
Som (vToInt .u8 (E 5)) fun t12 =>
Som (binA .or .num t12 (.int .u8 128)) fun t13 =>
Ala (aSliceV 1 [(.int .u8 0)] 1 [(0, 1, t13)]) σ fun t14 σ1 =>
Eff (appendA 1 1 (E 0) t14 σ1) fun t15 σ2 =>
Som (binA .shr .num (E 5) (.int .u64 7)) fun t17 =>
wC C (.loop R0) ((((((((((((E.set 8 (E 5)).set 9 t9).set 10 (E 0)).set 11 (E 5)).set 12 t12).set 13 t13).set 14 t14).set 15 t15).set 0 t15).set 16 (E 5)).set 17 t17).set 5 t17) σ2 (blockK 0 (seqK (wC C R1) (retK f99.res Q)))) (
wC C R1 ((E.set 8 (E 5)).set 9 t9) σ (retK f99.res Q))
theorem f99.p0_eq (C : CW) (Q : AVal → S → Prop) (R0 R1 : PC) (E : En) (σ : S) : f99.p0 C Q R0 R1 E σ = wC C (.seq (.seq (.ops [oq 8 (.mov (ot 5)), oq 9 (.bin .geq .num (ot 8) (.val (.int .u64 128)))]) (.cond (ot 9) .skip (.exit 0))) (.block 1 (.seq (.ops [oq 10 (.mov (ot 0)), oq 11 (.mov (ot 5)), oq 12 (.toInt .u8 (ot 11)), oq 13 (.bin .or .num (ot 12) (.val (.int .u8 128))), oa 14 (.bslice 1 [(.int .u8 0)] 1 [(0, 1, (ot 13))]), oe 15 (.append 1 1 (ot 10) (ot 14)), oq 0 (.mov (ot 15))]) (.ops [oq 16 (.mov (ot 5)), oq 17 (.bin .shr .num (ot 16) (.val (.int .u64 7))), oq 5 (.mov (ot 17))])))) E σ (loopK C R0 (blockK 0 (seqK (wC C R1) (retK f99.res Q)))) := by kernel_rfl
abbrev f99.L0 (C : CW) (Q : AVal → S → Prop) (E : En) (σ : S) : Prop := wC C (.loop f99.c0) E σ (blockK 0 (seqK (wC C f99.c1) (retK f99.res Q)))
set_option maxRecDepth 20000 in
theorem f99.p0_of {tab : Nat → Option PFn} {Q : AVal → S → Prop} {E : En} {σ : S} (h : f99.p0 (WF tab) Q f99.c0 f99.c1 E σ) : f99.L0 (WF tab) Q E σ := wLoop_step (Eq.mp (f99.p0_eq (WF tab) Q f99.c0 f99.c1 E σ) h)
noncomputable def f99.body : PC := (.seq (.ops [oq 4 (.mov (.val .nsl))]) (.seq (.ops [oq 6 (.mov (ot 1)), oe 7 (.call 110 [(ot 6)]), oq 5 (.mov (ot 7))]) (.seq (.block 0 (.loop f99.c0)) f99.c1)))
noncomputable def f99.fn : PFn := .code (slotsN 23) f99.body f99.res
noncomputable def f99 (C : CW) (R0 R1 : PC) (a0 a1 : AVal) (σ : S) (Q : AVal → S → Prop) : Prop :=
C 110 [a1] σ fun t7 σ1 =>
wC C (.loop R0) ((((((E0.set 0 a0).set 1 a1).set 4 .nsl).set 6 a1).set 7 t7).set 5 t7) σ1 (blockK 0 (seqK (wC C R1) (retK f99.res Q)))
theorem f99_eq (C : CW) (R0 R1 : PC) (a0 a1 : AVal) (σ : S) (Q : AVal → S → Prop) : f99 C R0 R1  a0 a1 σ Q = wC C (.seq (.ops [oq 4 (.mov (.val .nsl))]) (.seq (.ops [oq 6 (.mov (ot 1)), oe 7 (.call 110 [(ot 6)]), oq 5 (.mov (ot 7))]) (.seq (.block 0 (.loop R0)) R1))) ((E0.set 0 a0).set 1 a1) σ (retK f99.res Q) := by kernel_rfl
theorem f99_ent (a0 a1 : AVal) : enterE [a0, a1] (slotsN 23) E0 = some ((E0.set 0 a0).set 1 a1) := by kernel_rfl
set_option maxRecDepth 20000 in
theorem f99_wf {tab : Nat → Option PFn} (ht : tab 99 = some f99.fn) {a0 a1 : AVal} {σ : S} {Q : AVal → S → Prop} (h : f99 (WF tab) f99.c0 f99.c1  a0 a1 σ Q) : WF tab 99 [a0, a1] σ Q := wFn_sound ht (wFn_code (f99_ent a0 a1) (Eq.mp (f99_eq (WF tab) f99.c0 f99.c1  a0 a1 σ Q) h))
/-! dray/wire.again -/
noncomputable def f100.res : List PRes := [.tmp (sn 4)]
noncomputable def f100.body : PC := (.seq (.ops [oq 4 (.mov (.val .nsl))]) (.seq (.ops [oq 6 (.mov (ot 0)), oq 7 (.lenSl (ot 6)), oq 8 (.mov (ot 1)), oq 9 (.bin .add .num (ot 7) (ot 8)), oa 10 (.mkslice 1 1 [(.int .u8 0)] (.val (.int .i64 0)) (ot 9)), oq 5 (.mov (ot 10))]) (.seq (.ops [oq 11 (.mov (ot 5)), oq 12 (.mov (ot 0)), oe 13 (.append 1 1 (ot 11) (ot 12)), oq 4 (.mov (ot 13))]) .ret)))
noncomputable def f100.fn : PFn := .code (slotsN 14) f100.body f100.res
noncomputable def f100 (C : CW) (a0 a1 : AVal) (σ : S) (Q : AVal → S → Prop) : Prop :=
Som (vLenSl a0) fun t7 =>
Som (binA .add .num t7 a1) fun t9 =>
Ala (aMakeV 1 1 [(.int .u8 0)] (.int .i64 0) t9) σ fun t10 σ1 =>
Eff (appendA 1 1 t10 a0 σ1) fun t13 σ2 =>
Ret [some t13] σ2 Q
theorem f100_eq (C : CW) (a0 a1 : AVal) (σ : S) (Q : AVal → S → Prop) : f100 C   a0 a1 σ Q = wC C (.seq (.ops [oq 4 (.mov (.val .nsl))]) (.seq (.ops [oq 6 (.mov (ot 0)), oq 7 (.lenSl (ot 6)), oq 8 (.mov (ot 1)), oq 9 (.bin .add .num (ot 7) (ot 8)), oa 10 (.mkslice 1 1 [(.int .u8 0)] (.val (.int .i64 0)) (ot 9)), oq 5 (.mov (ot 10))]) (.seq (.ops [oq 11 (.mov (ot 5)), oq 12 (.mov (ot 0)), oe 13 (.append 1 1 (ot 11) (ot 12)), oq 4 (.mov (ot 13))]) .ret))) ((E0.set 0 a0).set 1 a1) σ (retK f100.res Q) := by kernel_rfl
theorem f100_ent (a0 a1 : AVal) : enterE [a0, a1] (slotsN 14) E0 = some ((E0.set 0 a0).set 1 a1) := by kernel_rfl
set_option maxRecDepth 20000 in
theorem f100_wf {tab : Nat → Option PFn} (ht : tab 100 = some f100.fn) {a0 a1 : AVal} {σ : S} {Q : AVal → S → Prop} (h : f100 (WF tab)   a0 a1 σ Q) : WF tab 100 [a0, a1] σ Q := wFn_sound ht (wFn_code (f100_ent a0 a1) (Eq.mp (f100_eq (WF tab)   a0 a1 σ Q) h))
/-! dray/frame.four -/
noncomputable def f101.res : List PRes := [.tmp (sn 2)]
noncomputable def f101.body : PC := (.seq (.ops [oq 2 (.mov (.val .nsl))]) (.seq (.ops [oq 3 (.mov (ot 0)), oq 4 (.toInt .u8 (ot 3)), oq 5 (.mov (ot 0)), oq 6 (.bin .shr .num (ot 5) (.val (.int .u64 8))), oq 7 (.toInt .u8 (ot 6)), oq 8 (.mov (ot 0)), oq 9 (.bin .shr .num (ot 8) (.val (.int .u64 16))), oq 10 (.toInt .u8 (ot 9)), oq 11 (.mov (ot 0)), oq 12 (.bin .shr .num (ot 11) (.val (.int .u64 24))), oq 13 (.toInt .u8 (ot 12)), oa 14 (.bslice 1 [(.int .u8 0)] 4 [(0, 1, (ot 4)), (1, 1, (ot 7)), (2, 1, (ot 10)), (3, 1, (ot 13))]), oq 2 (.mov (ot 14))]) .ret))
noncomputable def f101.fn : PFn := .code (slotsN 15) f101.body f101.res
noncomputable def f101 (C : CW) (a0 : AVal) (σ : S) (Q : AVal → S → Prop) : Prop :=
Som (vToInt .u8 a0) fun t4 =>
Som (binA .shr .num a0 (.int .u64 8)) fun t6 =>
Som (vToInt .u8 t6) fun t7 =>
Som (binA .shr .num a0 (.int .u64 16)) fun t9 =>
Som (vToInt .u8 t9) fun t10 =>
Som (binA .shr .num a0 (.int .u64 24)) fun t12 =>
Som (vToInt .u8 t12) fun t13 =>
Ala (aSliceV 1 [(.int .u8 0)] 4 [(0, 1, t4), (1, 1, t7), (2, 1, t10), (3, 1, t13)]) σ fun t14 σ1 =>
Ret [some t14] σ1 Q
theorem f101_eq (C : CW) (a0 : AVal) (σ : S) (Q : AVal → S → Prop) : f101 C   a0 σ Q = wC C (.seq (.ops [oq 2 (.mov (.val .nsl))]) (.seq (.ops [oq 3 (.mov (ot 0)), oq 4 (.toInt .u8 (ot 3)), oq 5 (.mov (ot 0)), oq 6 (.bin .shr .num (ot 5) (.val (.int .u64 8))), oq 7 (.toInt .u8 (ot 6)), oq 8 (.mov (ot 0)), oq 9 (.bin .shr .num (ot 8) (.val (.int .u64 16))), oq 10 (.toInt .u8 (ot 9)), oq 11 (.mov (ot 0)), oq 12 (.bin .shr .num (ot 11) (.val (.int .u64 24))), oq 13 (.toInt .u8 (ot 12)), oa 14 (.bslice 1 [(.int .u8 0)] 4 [(0, 1, (ot 4)), (1, 1, (ot 7)), (2, 1, (ot 10)), (3, 1, (ot 13))]), oq 2 (.mov (ot 14))]) .ret)) (E0.set 0 a0) σ (retK f101.res Q) := by kernel_rfl
theorem f101_ent (a0 : AVal) : enterE [a0] (slotsN 15) E0 = some (E0.set 0 a0) := by kernel_rfl
set_option maxRecDepth 20000 in
theorem f101_wf {tab : Nat → Option PFn} (ht : tab 101 = some f101.fn) {a0 : AVal} {σ : S} {Q : AVal → S → Prop} (h : f101 (WF tab)   a0 σ Q) : WF tab 101 [a0] σ Q := wFn_sound ht (wFn_code (f101_ent a0) (Eq.mp (f101_eq (WF tab)   a0 σ Q) h))
/-! dray/sum.Of -/
noncomputable def f102.c0 : PC := (.seq (.ops [oq 9 (.bin .lss .num (ot 8) (ot 7))]) (.seq (.cond (ot 9) .skip (.exit 0)) (.seq (.block 1 (.seq (.ops [oq 10 (.ixSl 1 (ot 6) (ot 8)), oq 11 (.load1 (ot 10)), oq 5 (.mov (ot 11))]) (.ops [oq 12 (.mov (ot 3)), oq 13 (.mov (ot 5)), oe 14 (.call 111 [(ot 12), (ot 13)]), oq 3 (.mov (ot 14))]))) (.ops [oq 15 (.bin .add .num (ot 8) (.val (.int .i64 1))), oq 8 (.mov (ot 15))]))))
noncomputable def f102.res : List PRes := [.tmp (sn 2)]
noncomputable def f102.p0 (C : CW) (Q : AVal → S → Prop) (R0 : PC) (E : En) (σ : S) : Prop :=
Som (binA .lss .num (E 8) (E 7)) fun t9 =>
WIf t9 (
Som (vIxSl 1 (E 6) (E 8)) fun t10 =>
Som (vLoad1 t10 σ) fun t11 =>
C 111 [(E 3), t11] σ fun t14 σ1 =>
Som (binA .add .num (E 8) (.int .i64 1)) fun t15 =>
wC C (.loop R0) ((((((((((E.set 9 t9).set 10 t10).set 11 t11).set 5 t11).set 12 (E 3)).set 13 t11).set 14 t14).set 3 t14).set 15 t15).set 8 t15) σ1 (blockK 0 (seqK (wC C (.seq (.ops [oq 16 (.mov (ot 3)), oq 2 (.mov (ot 16))]) .ret)) (retK f102.res Q)))) (
Ret [some (E 3)] σ Q)
theorem f102.p0_eq (C : CW) (Q : AVal → S → Prop) (R0 : PC) (E : En) (σ : S) : f102.p0 C Q R0 E σ = wC C (.seq (.ops [oq 9 (.bin .lss .num (ot 8) (ot 7))]) (.seq (.cond (ot 9) .skip (.exit 0)) (.seq (.block 1 (.seq (.ops [oq 10 (.ixSl 1 (ot 6) (ot 8)), oq 11 (.load1 (ot 10)), oq 5 (.mov (ot 11))]) (.ops [oq 12 (.mov (ot 3)), oq 13 (.mov (ot 5)), oe 14 (.call 111 [(ot 12), (ot 13)]), oq 3 (.mov (ot 14))]))) (.ops [oq 15 (.bin .add .num (ot 8) (.val (.int .i64 1))), oq 8 (.mov (ot 15))])))) E σ (loopK C R0 (blockK 0 (seqK (wC C (.seq (.ops [oq 16 (.mov (ot 3)), oq 2 (.mov (ot 16))]) .ret)) (retK f102.res Q)))) := by kernel_rfl
abbrev f102.L0 (C : CW) (Q : AVal → S → Prop) (E : En) (σ : S) : Prop := wC C (.loop f102.c0) E σ (blockK 0 (seqK (wC C (.seq (.ops [oq 16 (.mov (ot 3)), oq 2 (.mov (ot 16))]) .ret)) (retK f102.res Q)))
set_option maxRecDepth 20000 in
theorem f102.p0_of {tab : Nat → Option PFn} {Q : AVal → S → Prop} {E : En} {σ : S} (h : f102.p0 (WF tab) Q f102.c0 E σ) : f102.L0 (WF tab) Q E σ := wLoop_step (Eq.mp (f102.p0_eq (WF tab) Q f102.c0 E σ) h)
noncomputable def f102.body : PC := (.seq (.ops [oq 2 (.mov (.val (.int .u32 0)))]) (.seq (.ops [oq 3 (.mov (.val (.int .u32 0)))]) (.seq (.seq (.ops [oq 6 (.mov (ot 0)), oq 7 (.lenSl (ot 6)), oq 8 (.mov (.val (.int .i64 0)))]) (.block 0 (.loop f102.c0))) (.seq (.ops [oq 16 (.mov (ot 3)), oq 2 (.mov (ot 16))]) .ret))))
noncomputable def f102.fn : PFn := .code (slotsN 17) f102.body f102.res
noncomputable def f102 (C : CW) (R0 : PC) (a0 : AVal) (σ : S) (Q : AVal → S → Prop) : Prop :=
Som (vLenSl a0) fun t7 =>
wC C (.loop R0) ((((((E0.set 0 a0).set 2 (.int .u32 0)).set 3 (.int .u32 0)).set 6 a0).set 7 t7).set 8 (.int .i64 0)) σ (blockK 0 (seqK (wC C (.seq (.ops [oq 16 (.mov (ot 3)), oq 2 (.mov (ot 16))]) .ret)) (retK f102.res Q)))
theorem f102_eq (C : CW) (R0 : PC) (a0 : AVal) (σ : S) (Q : AVal → S → Prop) : f102 C R0  a0 σ Q = wC C (.seq (.ops [oq 2 (.mov (.val (.int .u32 0)))]) (.seq (.ops [oq 3 (.mov (.val (.int .u32 0)))]) (.seq (.seq (.ops [oq 6 (.mov (ot 0)), oq 7 (.lenSl (ot 6)), oq 8 (.mov (.val (.int .i64 0)))]) (.block 0 (.loop R0))) (.seq (.ops [oq 16 (.mov (ot 3)), oq 2 (.mov (ot 16))]) .ret)))) (E0.set 0 a0) σ (retK f102.res Q) := by kernel_rfl
theorem f102_ent (a0 : AVal) : enterE [a0] (slotsN 17) E0 = some (E0.set 0 a0) := by kernel_rfl
set_option maxRecDepth 20000 in
theorem f102_wf {tab : Nat → Option PFn} (ht : tab 102 = some f102.fn) {a0 : AVal} {σ : S} {Q : AVal → S → Prop} (h : f102 (WF tab) f102.c0  a0 σ Q) : WF tab 102 [a0] σ Q := wFn_sound ht (wFn_code (f102_ent a0) (Eq.mp (f102_eq (WF tab) f102.c0  a0 σ Q) h))
/-! dray/frame.number -/
noncomputable def f103.res : List PRes := [.tmp (sn 2)]
noncomputable def f103.body : PC := (.seq (.ops [oq 2 (.mov (.val (.int .u32 0)))]) (.seq (.draw 23 [⟨0, oq 3 (.mov (ot 0)), []⟩, ⟨1, oq 4 (.ixSl 1 (ot 3) (.val (.int .i64 0))), []⟩, ⟨2, oq 5 (.load1 (ot 4)), []⟩, ⟨3, oq 6 (.toInt .u32 (ot 5)), []⟩, ⟨4, oq 7 (.mov (ot 0)), []⟩, ⟨5, oq 8 (.ixSl 1 (ot 7) (.val (.int .i64 1))), []⟩, ⟨6, oq 9 (.load1 (ot 8)), []⟩, ⟨7, oq 10 (.toInt .u32 (ot 9)), []⟩, ⟨8, oq 11 (.bin .shl .num (ot 10) (.val (.int .u64 8))), []⟩, ⟨9, oq 12 (.bin .or .num (ot 6) (ot 11)), []⟩, ⟨10, oq 13 (.mov (ot 0)), []⟩, ⟨11, oq 14 (.ixSl 1 (ot 13) (.val (.int .i64 2))), []⟩, ⟨12, oq 15 (.load1 (ot 14)), []⟩, ⟨13, oq 16 (.toInt .u32 (ot 15)), []⟩, ⟨14, oq 17 (.bin .shl .num (ot 16) (.val (.int .u64 16))), []⟩, ⟨15, oq 18 (.bin .or .num (ot 12) (ot 17)), []⟩, ⟨16, oq 19 (.mov (ot 0)), []⟩, ⟨17, oq 20 (.ixSl 1 (ot 19) (.val (.int .i64 3))), []⟩, ⟨18, oq 21 (.load1 (ot 20)), []⟩, ⟨19, oq 22 (.toInt .u32 (ot 21)), []⟩, ⟨20, oq 23 (.bin .shl .num (ot 22) (.val (.int .u64 24))), []⟩, ⟨21, oq 24 (.bin .or .num (ot 18) (ot 23)), []⟩, ⟨22, oq 2 (.mov (ot 24)), []⟩]) .ret))
noncomputable def f103.fn : PFn := .code (slotsN 25) f103.body f103.res
noncomputable def f103 (C : CW) (a0 : AVal) (σ : S) (Q : AVal → S → Prop) : Prop :=
Som (vIxSl 1 a0 (.int .i64 0)) fun t4 =>
Som (vLoad1 t4 (σ.bumpT 23)) fun t5 =>
Som (vToInt .u32 t5) fun t6 =>
Som (vIxSl 1 a0 (.int .i64 1)) fun t8 =>
Som (vLoad1 t8 (σ.bumpT 23)) fun t9 =>
Som (vToInt .u32 t9) fun t10 =>
Som (binA .shl .num t10 (.int .u64 8)) fun t11 =>
Som (binA .or .num t6 t11) fun t12 =>
Som (vIxSl 1 a0 (.int .i64 2)) fun t14 =>
Som (vLoad1 t14 (σ.bumpT 23)) fun t15 =>
Som (vToInt .u32 t15) fun t16 =>
Som (binA .shl .num t16 (.int .u64 16)) fun t17 =>
Som (binA .or .num t12 t17) fun t18 =>
Som (vIxSl 1 a0 (.int .i64 3)) fun t20 =>
Som (vLoad1 t20 (σ.bumpT 23)) fun t21 =>
Som (vToInt .u32 t21) fun t22 =>
Som (binA .shl .num t22 (.int .u64 24)) fun t23 =>
Som (binA .or .num t18 t23) fun t24 =>
Ret [some t24] (σ.bumpT 23) Q
theorem f103_eq (C : CW) (a0 : AVal) (σ : S) (Q : AVal → S → Prop) : f103 C   a0 σ Q = wC C (.seq (.ops [oq 2 (.mov (.val (.int .u32 0)))]) (.seq (.draw 23 [⟨0, oq 3 (.mov (ot 0)), []⟩, ⟨1, oq 4 (.ixSl 1 (ot 3) (.val (.int .i64 0))), []⟩, ⟨2, oq 5 (.load1 (ot 4)), []⟩, ⟨3, oq 6 (.toInt .u32 (ot 5)), []⟩, ⟨4, oq 7 (.mov (ot 0)), []⟩, ⟨5, oq 8 (.ixSl 1 (ot 7) (.val (.int .i64 1))), []⟩, ⟨6, oq 9 (.load1 (ot 8)), []⟩, ⟨7, oq 10 (.toInt .u32 (ot 9)), []⟩, ⟨8, oq 11 (.bin .shl .num (ot 10) (.val (.int .u64 8))), []⟩, ⟨9, oq 12 (.bin .or .num (ot 6) (ot 11)), []⟩, ⟨10, oq 13 (.mov (ot 0)), []⟩, ⟨11, oq 14 (.ixSl 1 (ot 13) (.val (.int .i64 2))), []⟩, ⟨12, oq 15 (.load1 (ot 14)), []⟩, ⟨13, oq 16 (.toInt .u32 (ot 15)), []⟩, ⟨14, oq 17 (.bin .shl .num (ot 16) (.val (.int .u64 16))), []⟩, ⟨15, oq 18 (.bin .or .num (ot 12) (ot 17)), []⟩, ⟨16, oq 19 (.mov (ot 0)), []⟩, ⟨17, oq 20 (.ixSl 1 (ot 19) (.val (.int .i64 3))), []⟩, ⟨18, oq 21 (.load1 (ot 20)), []⟩, ⟨19, oq 22 (.toInt .u32 (ot 21)), []⟩, ⟨20, oq 23 (.bin .shl .num (ot 22) (.val (.int .u64 24))), []⟩, ⟨21, oq 24 (.bin .or .num (ot 18) (ot 23)), []⟩, ⟨22, oq 2 (.mov (ot 24)), []⟩]) .ret)) (E0.set 0 a0) σ (retK f103.res Q) := by kernel_rfl
theorem f103_ent (a0 : AVal) : enterE [a0] (slotsN 25) E0 = some (E0.set 0 a0) := by kernel_rfl
set_option maxRecDepth 20000 in
theorem f103_wf {tab : Nat → Option PFn} (ht : tab 103 = some f103.fn) {a0 : AVal} {σ : S} {Q : AVal → S → Prop} (h : f103 (WF tab)   a0 σ Q) : WF tab 103 [a0] σ Q := wFn_sound ht (wFn_code (f103_ent a0) (Eq.mp (f103_eq (WF tab)   a0 σ Q) h))
/-! *dray/wire.Reader.num -/
noncomputable def f104.c0 : PC := (.seq (.block 1 (.seq (.seq (.draw 10 [⟨0, oq 10 (.mov (ot 0)), []⟩, ⟨1, oq 11 (.nilck (ot 10)), []⟩, ⟨2, oq 12 (.fieldAddr 3 (ot 11)), []⟩, ⟨3, oq 13 (.load1 (ot 12)), []⟩, ⟨4, oq 14 (.mov (ot 0)), []⟩, ⟨5, oq 15 (.nilck (ot 14)), []⟩, ⟨6, oq 16 (.fieldAddr 2 (ot 15)), []⟩, ⟨7, oq 17 (.load1 (ot 16)), []⟩, ⟨8, oq 18 (.lenSl (ot 17)), []⟩, ⟨9, oq 19 (.bin .geq .num (ot 13) (ot 18)), []⟩]) (.cond (ot 19) (.seq (.ops [oq 20 (.mov (ot 0)), oq 21 (.mov (ot 1)), oe 22 (.call 106 [(ot 20), (ot 21), (.val (.int .i64 3))])]) (.seq (.ops [oq 4 (.mov (.val (.int .i64 0)))]) .ret)) .skip)) (.seq (.draw 11 [⟨0, oq 23 (.mov (ot 0)), []⟩, ⟨1, oq 24 (.nilck (ot 23)), []⟩, ⟨2, oq 25 (.fieldAddr 2 (ot 24)), []⟩, ⟨3, oq 26 (.load1 (ot 25)), []⟩, ⟨4, oq 27 (.mov (ot 0)), []⟩, ⟨5, oq 28 (.nilck (ot 27)), []⟩, ⟨6, oq 29 (.fieldAddr 3 (ot 28)), []⟩, ⟨7, oq 30 (.load1 (ot 29)), []⟩, ⟨8, oq 31 (.ixSl 1 (ot 26) (ot 30)), []⟩, ⟨9, oq 32 (.load1 (ot 31)), []⟩, ⟨10, oq 7 (.mov (ot 32)), []⟩]) (.seq (.seq (.ops [oq 33 (.mov (ot 6)), oq 34 (.bin .eql .num (ot 33) (.val (.int .i64 9))), oq 35 (.mov (ot 34)), oqg 36 35 true (.mov (ot 7)), oqg 37 35 true (.bin .gtr .num (ot 36) (.val (.int .u8 1))), oq 38 (.pick (ot 35) (ot 37) (.val (.bool false)))]) (.cond (ot 38) (.seq (.ops [oq 39 (.mov (ot 0)), oq 40 (.mov (ot 1)), oe 41 (.call 106 [(ot 39), (ot 40), (.val (.int .i64 4))])]) (.seq (.ops [oq 4 (.mov (.val (.int .i64 0)))]) .ret)) .skip)) (.seq (.ops [oq 42 (.mov (ot 0)), oq 43 (.nilck (ot 42)), oq 44 (.fieldAddr 3 (ot 43)), oq 45 (.load1 (ot 44)), oq 46 (.bin .add .num (ot 45) (.val (.int .i64 1))), oq 47 (.nilck (ot 42)), oq 48 (.fieldAddr 3 (ot 47)), ⟨none, none, (.e (.store 1 (ot 48) (ot 46)))⟩]) (.seq (.ops [oq 49 (.mov (ot 5)), oq 50 (.mov (ot 7)), oq 51 (.bin .and .num (ot 50) (.val (.int .u8 127))), oq 52 (.toInt .u64 (ot 51)), oq 53 (.mov (ot 6)), oq 54 (.bin .mul .num (.val (.int .i64 7)) (ot 53)), oq 55 (.toInt .u64 (ot 54)), oq 56 (.bin .shl .num (ot 52) (ot 55)), oq 57 (.bin .or .num (ot 49) (ot 56)), oq 5 (.mov (ot 57))]) (.seq (.seq (.ops [oq 58 (.mov (ot 7)), oq 59 (.bin .geq .num (ot 58) (.val (.int .u8 128)))]) (.cond (ot 59) (.exit 1) .skip)) (.seq (.seq (.ops [oq 60 (.mov (ot 7)), oq 61 (.bin .eql .num (ot 60) (.val (.int .u8 0))), oq 62 (.mov (ot 61)), oqg 63 62 true (.mov (ot 6)), oqg 64 62 true (.bin .gtr .num (ot 63) (.val (.int .i64 0))), oq 65 (.pick (ot 62) (ot 64) (.val (.bool false)))]) (.cond (ot 65) (.seq (.ops [oq 66 (.mov (ot 0)), oq 67 (.mov (ot 1)), oe 68 (.call 106 [(ot 66), (ot 67), (.val (.int .i64 4))])]) (.seq (.ops [oq 4 (.mov (.val (.int .i64 0)))]) .ret)) .skip)) (.seq (.ops [oq 69 (.mov (ot 5)), oe 70 (.call 112 [(ot 69)]), oq 4 (.mov (ot 70))]) .ret))))))))) (.ops [oq 8 (.mov (ot 6)), oq 9 (.bin .add .num (ot 8) (.val (.int .i64 1))), oq 6 (.mov (ot 9))]))
noncomputable def f104.res : List PRes := [.tmp (sn 4)]
noncomputable def f104.p0 (C : CW) (Q : AVal → S → Prop) (R0 : PC) (E : En) (σ : S) : Prop :=
Som (vNilck (E 0)) fun t11 =>
Som (vFieldAddr 3 t11) fun t12 =>
Som (vLoad1 t12 (σ.bumpT 10)) fun t13 =>
Som (vNilck (E 0)) fun t15 =>
Som (vFieldAddr 2 t15) fun t16 =>
Som (vLoad1 t16 (σ.bumpT 10)) fun t17 =>
Som (vLenSl t17) fun t18 =>
Som (binA .geq .num t13 t18) fun t19 =>
WIf t19 (
C 106 [(E 0), (E 1), (.int .i64 3)] (σ.bumpT 10) fun t22 σ1 =>
Ret [some (.int .i64 0)] σ1 Q) (
Som (vNilck (E 0)) fun t24 =>
Som (vFieldAddr 2 t24) fun t25 =>
Som (vLoad1 t25 ((σ.bumpT 10).bumpT 11)) fun t26 =>
Som (vNilck (E 0)) fun t28 =>
Som (vFieldAddr 3 t28) fun t29 =>
Som (vLoad1 t29 ((σ.bumpT 10).bumpT 11)) fun t30 =>
Som (vIxSl 1 t26 t30) fun t31 =>
Som (vLoad1 t31 ((σ.bumpT 10).bumpT 11)) fun t32 =>
Som (binA .eql .num (E 6) (.int .i64 9)) fun t34 =>
Som (gq1 (isB t34 true) (some t32)) fun t36 =>
Som (gq1 (isB t34 true) (binA .gtr .num t36 (.int .u8 1))) fun t37 =>
Som (vPick t34 t37 (.bool false)) fun t38 =>
WIf t38 (
C 106 [(E 0), (E 1), (.int .i64 4)] ((σ.bumpT 10).bumpT 11) fun t41 σ1 =>
Ret [some (.int .i64 0)] σ1 Q) (
Som (vNilck (E 0)) fun t43 =>
Som (vFieldAddr 3 t43) fun t44 =>
Som (vLoad1 t44 ((σ.bumpT 10).bumpT 11)) fun t45 =>
Som (binA .add .num t45 (.int .i64 1)) fun t46 =>
Som (vNilck (E 0)) fun t47 =>
Som (vFieldAddr 3 t47) fun t48 =>
Eff (storeW 1 t48 t46 ((σ.bumpT 10).bumpT 11)) fun _ σ1 =>
Som (binA .and .num t32 (.int .u8 127)) fun t51 =>
Som (vToInt .u64 t51) fun t52 =>
Som (binA .mul .num (.int .i64 7) (E 6)) fun t54 =>
Som (vToInt .u64 t54) fun t55 =>
Som (binA .shl .num t52 t55) fun t56 =>
Som (binA .or .num (E 5) t56) fun t57 =>
Som (binA .geq .num t32 (.int .u8 128)) fun t59 =>
WIf t59 (
Som (binA .add .num (E 6) (.int .i64 1)) fun t9 =>
wC C (.loop R0) (((((((((((((((((((((((((((((((((((((((((((((((((E.set 10 (E 0)).set 11 t11).set 12 t12).set 13 t13).set 14 (E 0)).set 15 t15).set 16 t16).set 17 t17).set 18 t18).set 19 t19).set 23 (E 0)).set 24 t24).set 25 t25).set 26 t26).set 27 (E 0)).set 28 t28).set 29 t29).set 30 t30).set 31 t31).set 32 t32).set 7 t32).set 33 (E 6)).set 34 t34).set 35 t34).set 36 t36).set 37 t37).set 38 t38).set 42 (E 0)).set 43 t43).set 44 t44).set 45 t45).set 46 t46).set 47 t47).set 48 t48).set 49 (E 5)).set 50 t32).set 51 t51).set 52 t52).set 53 (E 6)).set 54 t54).set 55 t55).set 56 t56).set 57 t57).set 5 t57).set 58 t32).set 59 t59).set 8 (E 6)).set 9 t9).set 6 t9) σ1 (blockK 0 (retK f104.res Q))) (
Som (binA .eql .num t32 (.int .u8 0)) fun t61 =>
Som (gq1 (isB t61 true) (some (E 6))) fun t63 =>
Som (gq1 (isB t61 true) (binA .gtr .num t63 (.int .i64 0))) fun t64 =>
Som (vPick t61 t64 (.bool false)) fun t65 =>
WIf t65 (
C 106 [(E 0), (E 1), (.int .i64 4)] σ1 fun t68 σ2 =>
Ret [some (.int .i64 0)] σ2 Q) (
C 112 [t57] σ1 fun t70 σ2 =>
Ret [some t70] σ2 Q))))
theorem f104.p0_eq (C : CW) (Q : AVal → S → Prop) (R0 : PC) (E : En) (σ : S) : f104.p0 C Q R0 E σ = wC C (.seq (.block 1 (.seq (.seq (.draw 10 [⟨0, oq 10 (.mov (ot 0)), []⟩, ⟨1, oq 11 (.nilck (ot 10)), []⟩, ⟨2, oq 12 (.fieldAddr 3 (ot 11)), []⟩, ⟨3, oq 13 (.load1 (ot 12)), []⟩, ⟨4, oq 14 (.mov (ot 0)), []⟩, ⟨5, oq 15 (.nilck (ot 14)), []⟩, ⟨6, oq 16 (.fieldAddr 2 (ot 15)), []⟩, ⟨7, oq 17 (.load1 (ot 16)), []⟩, ⟨8, oq 18 (.lenSl (ot 17)), []⟩, ⟨9, oq 19 (.bin .geq .num (ot 13) (ot 18)), []⟩]) (.cond (ot 19) (.seq (.ops [oq 20 (.mov (ot 0)), oq 21 (.mov (ot 1)), oe 22 (.call 106 [(ot 20), (ot 21), (.val (.int .i64 3))])]) (.seq (.ops [oq 4 (.mov (.val (.int .i64 0)))]) .ret)) .skip)) (.seq (.draw 11 [⟨0, oq 23 (.mov (ot 0)), []⟩, ⟨1, oq 24 (.nilck (ot 23)), []⟩, ⟨2, oq 25 (.fieldAddr 2 (ot 24)), []⟩, ⟨3, oq 26 (.load1 (ot 25)), []⟩, ⟨4, oq 27 (.mov (ot 0)), []⟩, ⟨5, oq 28 (.nilck (ot 27)), []⟩, ⟨6, oq 29 (.fieldAddr 3 (ot 28)), []⟩, ⟨7, oq 30 (.load1 (ot 29)), []⟩, ⟨8, oq 31 (.ixSl 1 (ot 26) (ot 30)), []⟩, ⟨9, oq 32 (.load1 (ot 31)), []⟩, ⟨10, oq 7 (.mov (ot 32)), []⟩]) (.seq (.seq (.ops [oq 33 (.mov (ot 6)), oq 34 (.bin .eql .num (ot 33) (.val (.int .i64 9))), oq 35 (.mov (ot 34)), oqg 36 35 true (.mov (ot 7)), oqg 37 35 true (.bin .gtr .num (ot 36) (.val (.int .u8 1))), oq 38 (.pick (ot 35) (ot 37) (.val (.bool false)))]) (.cond (ot 38) (.seq (.ops [oq 39 (.mov (ot 0)), oq 40 (.mov (ot 1)), oe 41 (.call 106 [(ot 39), (ot 40), (.val (.int .i64 4))])]) (.seq (.ops [oq 4 (.mov (.val (.int .i64 0)))]) .ret)) .skip)) (.seq (.ops [oq 42 (.mov (ot 0)), oq 43 (.nilck (ot 42)), oq 44 (.fieldAddr 3 (ot 43)), oq 45 (.load1 (ot 44)), oq 46 (.bin .add .num (ot 45) (.val (.int .i64 1))), oq 47 (.nilck (ot 42)), oq 48 (.fieldAddr 3 (ot 47)), ⟨none, none, (.e (.store 1 (ot 48) (ot 46)))⟩]) (.seq (.ops [oq 49 (.mov (ot 5)), oq 50 (.mov (ot 7)), oq 51 (.bin .and .num (ot 50) (.val (.int .u8 127))), oq 52 (.toInt .u64 (ot 51)), oq 53 (.mov (ot 6)), oq 54 (.bin .mul .num (.val (.int .i64 7)) (ot 53)), oq 55 (.toInt .u64 (ot 54)), oq 56 (.bin .shl .num (ot 52) (ot 55)), oq 57 (.bin .or .num (ot 49) (ot 56)), oq 5 (.mov (ot 57))]) (.seq (.seq (.ops [oq 58 (.mov (ot 7)), oq 59 (.bin .geq .num (ot 58) (.val (.int .u8 128)))]) (.cond (ot 59) (.exit 1) .skip)) (.seq (.seq (.ops [oq 60 (.mov (ot 7)), oq 61 (.bin .eql .num (ot 60) (.val (.int .u8 0))), oq 62 (.mov (ot 61)), oqg 63 62 true (.mov (ot 6)), oqg 64 62 true (.bin .gtr .num (ot 63) (.val (.int .i64 0))), oq 65 (.pick (ot 62) (ot 64) (.val (.bool false)))]) (.cond (ot 65) (.seq (.ops [oq 66 (.mov (ot 0)), oq 67 (.mov (ot 1)), oe 68 (.call 106 [(ot 66), (ot 67), (.val (.int .i64 4))])]) (.seq (.ops [oq 4 (.mov (.val (.int .i64 0)))]) .ret)) .skip)) (.seq (.ops [oq 69 (.mov (ot 5)), oe 70 (.call 112 [(ot 69)]), oq 4 (.mov (ot 70))]) .ret))))))))) (.ops [oq 8 (.mov (ot 6)), oq 9 (.bin .add .num (ot 8) (.val (.int .i64 1))), oq 6 (.mov (ot 9))])) E σ (loopK C R0 (blockK 0 (retK f104.res Q))) := by kernel_rfl
abbrev f104.L0 (C : CW) (Q : AVal → S → Prop) (E : En) (σ : S) : Prop := wC C (.loop f104.c0) E σ (blockK 0 (retK f104.res Q))
set_option maxRecDepth 20000 in
theorem f104.p0_of {tab : Nat → Option PFn} {Q : AVal → S → Prop} {E : En} {σ : S} (h : f104.p0 (WF tab) Q f104.c0 E σ) : f104.L0 (WF tab) Q E σ := wLoop_step (Eq.mp (f104.p0_eq (WF tab) Q f104.c0 E σ) h)
noncomputable def f104.body : PC := (.seq (.ops [oq 4 (.mov (.val (.int .i64 0)))]) (.seq (.ops [oq 5 (.mov (.val (.int .u64 0)))]) (.seq (.ops [oq 6 (.mov (.val (.int .i64 0)))]) (.block 0 (.loop f104.c0)))))
noncomputable def f104.fn : PFn := .code (slotsN 71) f104.body f104.res
noncomputable def f104 (C : CW) (R0 : PC) (a0 a1 : AVal) (σ : S) (Q : AVal → S → Prop) : Prop :=
wC C (.loop R0) (((((E0.set 0 a0).set 1 a1).set 4 (.int .i64 0)).set 5 (.int .u64 0)).set 6 (.int .i64 0)) σ (blockK 0 (retK f104.res Q))
theorem f104_eq (C : CW) (R0 : PC) (a0 a1 : AVal) (σ : S) (Q : AVal → S → Prop) : f104 C R0  a0 a1 σ Q = wC C (.seq (.ops [oq 4 (.mov (.val (.int .i64 0)))]) (.seq (.ops [oq 5 (.mov (.val (.int .u64 0)))]) (.seq (.ops [oq 6 (.mov (.val (.int .i64 0)))]) (.block 0 (.loop R0))))) ((E0.set 0 a0).set 1 a1) σ (retK f104.res Q) := by kernel_rfl
theorem f104_ent (a0 a1 : AVal) : enterE [a0, a1] (slotsN 71) E0 = some ((E0.set 0 a0).set 1 a1) := by kernel_rfl
set_option maxRecDepth 20000 in
theorem f104_wf {tab : Nat → Option PFn} (ht : tab 104 = some f104.fn) {a0 a1 : AVal} {σ : S} {Q : AVal → S → Prop} (h : f104 (WF tab) f104.c0  a0 a1 σ Q) : WF tab 104 [a0, a1] σ Q := wFn_sound ht (wFn_code (f104_ent a0 a1) (Eq.mp (f104_eq (WF tab) f104.c0  a0 a1 σ Q) h))
/-! *dray/wire.Reader.fail -/
noncomputable def f106.res : List PRes := []
noncomputable def f106.body : PC := (.seq (.ops [oq 6 (.mov (ot 0)), oq 7 (.mov (ot 1)), oq 8 (.mov (ot 2)), oq 9 (.build [(.int .i64 0), (.int .i64 0)] [(0, 1, (ot 7)), (1, 1, (ot 8))]), oq 10 (.nilck (ot 6)), oq 11 (.fieldAddr 0 (ot 10)), ⟨none, none, (.e (.store 2 (ot 11) (ot 9)))⟩]) (.ops [oq 12 (.mov (ot 0)), oq 13 (.mov (ot 1)), oq 14 (.nilck (ot 12)), oq 15 (.fieldAddr 3 (ot 14)), ⟨none, none, (.e (.store 1 (ot 15) (ot 13)))⟩]))
noncomputable def f106.fn : PFn := .code (slotsN 16) f106.body f106.res
noncomputable def f106 (C : CW) (a0 a1 a2 : AVal) (σ : S) (Q : AVal → S → Prop) : Prop :=
Som (vBuild [(.int .i64 0), (.int .i64 0)] [(0, 1, a1), (1, 1, a2)]) fun t9 =>
Som (vNilck a0) fun t10 =>
Som (vFieldAddr 0 t10) fun t11 =>
Eff (storeW 2 t11 t9 σ) fun _ σ1 =>
Som (vNilck a0) fun t14 =>
Som (vFieldAddr 3 t14) fun t15 =>
Eff (storeW 1 t15 a1 σ1) fun _ σ2 =>
Ret [] σ2 Q
theorem f106_eq (C : CW) (a0 a1 a2 : AVal) (σ : S) (Q : AVal → S → Prop) : f106 C   a0 a1 a2 σ Q = wC C (.seq (.ops [oq 6 (.mov (ot 0)), oq 7 (.mov (ot 1)), oq 8 (.mov (ot 2)), oq 9 (.build [(.int .i64 0), (.int .i64 0)] [(0, 1, (ot 7)), (1, 1, (ot 8))]), oq 10 (.nilck (ot 6)), oq 11 (.fieldAddr 0 (ot 10)), ⟨none, none, (.e (.store 2 (ot 11) (ot 9)))⟩]) (.ops [oq 12 (.mov (ot 0)), oq 13 (.mov (ot 1)), oq 14 (.nilck (ot 12)), oq 15 (.fieldAddr 3 (ot 14)), ⟨none, none, (.e (.store 1 (ot 15) (ot 13)))⟩])) (((E0.set 0 a0).set 1 a1).set 2 a2) σ (retK f106.res Q) := by kernel_rfl
theorem f106_ent (a0 a1 a2 : AVal) : enterE [a0, a1, a2] (slotsN 16) E0 = some (((E0.set 0 a0).set 1 a1).set 2 a2) := by kernel_rfl
set_option maxRecDepth 20000 in
theorem f106_wf {tab : Nat → Option PFn} (ht : tab 106 = some f106.fn) {a0 a1 a2 : AVal} {σ : S} {Q : AVal → S → Prop} (h : f106 (WF tab)   a0 a1 a2 σ Q) : WF tab 106 [a0, a1, a2] σ Q := wFn_sound ht (wFn_code (f106_ent a0 a1 a2) (Eq.mp (f106_eq (WF tab)   a0 a1 a2 σ Q) h))
/-! dray/wire.zig -/
noncomputable def f110.res : List PRes := [.tmp (sn 2)]
noncomputable def f110.body : PC := (.seq (.ops [oq 2 (.mov (.val (.int .u64 0)))]) (.seq (.ops [oq 3 (.mov (ot 0)), oq 4 (.toInt .u64 (ot 3)), oq 5 (.bin .shl .num (ot 4) (.val (.int .u64 1))), oq 6 (.mov (ot 0)), oq 7 (.bin .shr .num (ot 6) (.val (.int .u64 63))), oq 8 (.toInt .u64 (ot 7)), oq 9 (.bin .xor .num (ot 5) (ot 8)), oq 2 (.mov (ot 9))]) .ret))
noncomputable def f110.fn : PFn := .code (slotsN 10) f110.body f110.res
noncomputable def f110 (C : CW) (a0 : AVal) (σ : S) (Q : AVal → S → Prop) : Prop :=
Som (vToInt .u64 a0) fun t4 =>
Som (binA .shl .num t4 (.int .u64 1)) fun t5 =>
Som (binA .shr .num a0 (.int .u64 63)) fun t7 =>
Som (vToInt .u64 t7) fun t8 =>
Som (binA .xor .num t5 t8) fun t9 =>
Ret [some t9] σ Q
theorem f110_eq (C : CW) (a0 : AVal) (σ : S) (Q : AVal → S → Prop) : f110 C   a0 σ Q = wC C (.seq (.ops [oq 2 (.mov (.val (.int .u64 0)))]) (.seq (.ops [oq 3 (.mov (ot 0)), oq 4 (.toInt .u64 (ot 3)), oq 5 (.bin .shl .num (ot 4) (.val (.int .u64 1))), oq 6 (.mov (ot 0)), oq 7 (.bin .shr .num (ot 6) (.val (.int .u64 63))), oq 8 (.toInt .u64 (ot 7)), oq 9 (.bin .xor .num (ot 5) (ot 8)), oq 2 (.mov (ot 9))]) .ret)) (E0.set 0 a0) σ (retK f110.res Q) := by kernel_rfl
theorem f110_ent (a0 : AVal) : enterE [a0] (slotsN 10) E0 = some (E0.set 0 a0) := by kernel_rfl
set_option maxRecDepth 20000 in
theorem f110_wf {tab : Nat → Option PFn} (ht : tab 110 = some f110.fn) {a0 : AVal} {σ : S} {Q : AVal → S → Prop} (h : f110 (WF tab)   a0 σ Q) : WF tab 110 [a0] σ Q := wFn_sound ht (wFn_code (f110_ent a0) (Eq.mp (f110_eq (WF tab)   a0 σ Q) h))
end Go.Am
