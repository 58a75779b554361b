/-
  Functions of the program as conditions. Conditions: none.
-/
import Derived.Test.YtdolmkdbpnlegaaGreatDoorK33
import Derived.KernelRfl
namespace Go.Am
noncomputable def f3.res : List PRes := [.tmp (sn 2)]
noncomputable def f3.body : PC := (.seq (.ops [oq 2 (.mov (.val (.bool false)))]) (.seq (.ops [oq 8 (.mov (ot 0)), oe 9 (.call 6 [(ot 8)]), oq 7 (.mov (ot 9)), oq 10 (.extract 0 (ot 7)), oq 11 (.extract 1 (ot 7)), oa 3 (.alloc [(.int .i64 0), (.int .i64 0), (.int .i64 0), (.int .i64 0), (.int .i64 0), (.int .i64 0), (.int .i64 0), (.int .i64 0), (.int .i64 0), (.int .i64 0), (.int .i64 0), (.int .i64 0), (.int .i64 0), (.int .i64 0), (.int .i64 0), (.int .i64 0), (.int .i64 0), (.int .i64 0), (.int .i64 0), (.int .i64 0), (.int .i64 0), (.int .i64 0), (.bool false), (.int .i64 0), (.int .i64 0)]), ⟨none, none, (.e (.store 25 (ot 3) (ot 10)))⟩, oq 4 (.mov (ot 11))]) (.seq (.ops [oq 13 (.mov (ot 0)), oe 14 (.call 7 [(ot 13)]), oq 12 (.mov (ot 14)), oq 15 (.extract 0 (ot 12)), oq 16 (.extract 1 (ot 12)), oa 5 (.alloc [(.int .i64 0), (.int .i64 0), (.int .i64 0), (.int .i64 0), (.int .i64 0), (.int .i64 0), (.int .i64 0), (.int .i64 0), (.int .i64 0), (.int .i64 0), (.int .i64 0), (.int .i64 0), (.int .i64 0), (.int .i64 0), (.int .i64 0), (.int .i64 0), (.int .i64 0), (.int .i64 0), (.int .i64 0), (.int .i64 0), (.int .i64 0), (.int .i64 0), (.bool false), (.int .i64 0), (.int .i64 0)]), ⟨none, none, (.e (.store 25 (ot 5) (ot 15)))⟩, oq 6 (.mov (ot 16))]) (.seq (.ops [oq 17 (.loadN 25 (ot 3)), oq 18 (.loadN 25 (ot 5)), oq 19 (.eqAgg [.i, .i, .i, .i, .i, .i, .i, .i, .i, .i, .i, .i, .i, .i, .i, .i, .i, .i, .i, .i, .i, .i, .b, .i, .i] false (ot 17) (ot 18)), oq 20 (.mov (ot 19)), oqg 21 20 true (.mov (ot 4)), oqg 22 20 true (.mov (ot 6)), oqg 23 20 true (.bin .eql .num (ot 21) (ot 22)), oq 24 (.pick (ot 20) (ot 23) (.val (.bool false))), oq 25 (.mov (ot 24)), oeg 26 25 true (.call 8 []), oq 27 (.pick (ot 25) (ot 26) (.val (.bool false))), oq 2 (.mov (ot 27))]) .ret))))
noncomputable def f3.fn : PFn := .code (slotsN 28) f3.body f3.res
noncomputable def f3 (C : CW) (a0 : AVal) (σ : S) (Q : AVal → S → Prop) : Prop :=
C 6 [a0] σ fun t9 σ1 =>
Som (vExtract 0 t9) fun t10 =>
Som (vExtract 1 t9) fun t11 =>
Ala (aAllocV [(.int .i64 0), (.int .i64 0), (.int .i64 0), (.int .i64 0), (.int .i64 0), (.int .i64 0), (.int .i64 0), (.int .i64 0), (.int .i64 0), (.int .i64 0), (.int .i64 0), (.int .i64 0), (.int .i64 0), (.int .i64 0), (.int .i64 0), (.int .i64 0), (.int .i64 0), (.int .i64 0), (.int .i64 0), (.int .i64 0), (.int .i64 0), (.int .i64 0), (.bool false), (.int .i64 0), (.int .i64 0)]) σ1 fun t3 σ2 =>
Eff (storeW 25 t3 t10 σ2) fun _ σ3 =>
C 7 [a0] σ3 fun t14 σ4 =>
Som (vExtract 0 t14) fun t15 =>
Som (vExtract 1 t14) fun t16 =>
Ala (aAllocV [(.int .i64 0), (.int .i64 0), (.int .i64 0), (.int .i64 0), (.int .i64 0), (.int .i64 0), (.int .i64 0), (.int .i64 0), (.int .i64 0), (.int .i64 0), (.int .i64 0), (.int .i64 0), (.int .i64 0), (.int .i64 0), (.int .i64 0), (.int .i64 0), (.int .i64 0), (.int .i64 0), (.int .i64 0), (.int .i64 0), (.int .i64 0), (.int .i64 0), (.bool false), (.int .i64 0), (.int .i64 0)]) σ4 fun t5 σ5 =>
Eff (storeW 25 t5 t15 σ5) fun _ σ6 =>
Som (vLoadN 25 t3 σ6) fun t17 =>
Som (vLoadN 25 t5 σ6) fun t18 =>
Som (vEqAgg [.i, .i, .i, .i, .i, .i, .i, .i, .i, .i, .i, .i, .i, .i, .i, .i, .i, .i, .i, .i, .i, .i, .b, .i, .i] false t17 t18) fun t19 =>
Som (gq1 (isB t19 true) (some t11)) fun t21 =>
Som (gq1 (isB t19 true) (some t16)) fun t22 =>
Som (gq1 (isB t19 true) (binA .eql .num t21 t22)) fun t23 =>
Som (vPick t19 t23 (.bool false)) fun t24 =>
gE1 (isB t24 true) (fun K => C 8 [] σ6 K) σ6 fun t26 σ7 =>
Som (vPick t24 t26 (.bool false)) fun t27 =>
Ret [some t27] σ7 Q
theorem f3_eq (C : CW) (a0 : AVal) (σ : S) (Q : AVal → S → Prop) : f3 C   a0 σ Q = wC C f3.body (E0.set 0 a0) σ (retK f3.res Q) := by kernel_rfl
theorem f3_ent (a0 : AVal) : enterE [a0] (slotsN 28) E0 = some (E0.set 0 a0) := by kernel_rfl
set_option maxRecDepth 20000 in
theorem f3_wf {tab : Nat → Option PFn} (ht : tab 3 = some f3.fn) {a0 : AVal} {σ : S} {Q : AVal → S → Prop} (h : f3 (WF tab)   a0 σ Q) : WF tab 3 [a0] σ Q := wFn_sound ht (wFn_code (f3_ent a0) (Eq.mp (f3_eq (WF tab)   a0 σ Q) h))
noncomputable def f4.res : List PRes := [.tmp (sn 4)]
noncomputable def f4.body : PC := (.seq (.ops [oa 2 (.box (ot 0)), oa 3 (.box (ot 1)), oq 4 (.mov (.val (.bool false)))]) (.seq (.draw 16 [⟨0, oq 5 (.loadN 25 (ot 2)), []⟩, ⟨2, oq 7 (.loadN 25 (ot 2)), []⟩, ⟨1, oe 6 (.call 9 [(ot 5)]), [oq 7 (.loadN 25 (ot 2))]⟩, ⟨3, oe 8 (.call 10 [(ot 7)]), []⟩, ⟨4, oq 9 (.bin .eql .num (ot 6) (ot 8)), []⟩, ⟨5, oq 10 (.mov (ot 9)), []⟩, ⟨6, oqg 11 10 true (.loadN 27 (ot 3)), []⟩, ⟨8, oqg 13 10 true (.loadN 27 (ot 3)), []⟩, ⟨7, oeg 12 10 true (.call 11 [(ot 11)]), [oqg 13 10 true (.loadN 27 (ot 3))]⟩, ⟨9, oeg 14 10 true (.call 12 [(ot 13)]), []⟩, ⟨10, oqg 15 10 true (.bin .eql .num (ot 12) (ot 14)), []⟩, ⟨11, oq 16 (.pick (ot 10) (ot 15) (.val (.bool false))), []⟩, ⟨12, oq 17 (.mov (ot 16)), []⟩, ⟨13, oeg 18 17 true (.call 8 []), []⟩, ⟨14, oq 19 (.pick (ot 17) (ot 18) (.val (.bool false))), []⟩, ⟨15, oq 4 (.mov (ot 19)), []⟩]) .ret))
noncomputable def f4.fn : PFn := .code (slotsN 20) f4.body f4.res
noncomputable def f4 (C : CW) (a0 a1 : AVal) (σ : S) (Q : AVal → S → Prop) : Prop :=
Ala (aBoxV a0) σ fun t2 σ1 =>
Ala (aBoxV a1) σ1 fun t3 σ2 =>
Som (vLoadN 25 t2 (σ2.bumpT 16)) fun t5 =>
Som (vLoadN 25 t2 (σ2.bumpT 16)) fun t7 =>
C 9 [t5] (σ2.bumpT 16) fun t6 σ3 =>
Sure (SameO (vLoadN 25 t2 σ3) t7) <|
C 10 [t7] σ3 fun t8 σ4 =>
Som (binA .eql .num t6 t8) fun t9 =>
Som (gq1 (isB t9 true) (vLoadN 27 t3 σ4)) fun t11 =>
Som (gq1 (isB t9 true) (vLoadN 27 t3 σ4)) fun t13 =>
gE1 (isB t9 true) (fun K => C 11 [t11] σ4 fun t12 σ5 => Sure ((notB (isB t9 true) || SameO (vLoadN 27 t3 σ5) t13)) (K t12 σ5)) σ4 fun t12 σ5 =>
gE1 (isB t9 true) (fun K => C 12 [t13] σ5 K) σ5 fun t14 σ6 =>
Som (gq1 (isB t9 true) (binA .eql .num t12 t14)) fun t15 =>
Som (vPick t9 t15 (.bool false)) fun t16 =>
gE1 (isB t16 true) (fun K => C 8 [] σ6 K) σ6 fun t18 σ7 =>
Som (vPick t16 t18 (.bool false)) fun t19 =>
Ret [some t19] σ7 Q
theorem f4_eq (C : CW) (a0 a1 : AVal) (σ : S) (Q : AVal → S → Prop) : f4 C   a0 a1 σ Q = wC C f4.body ((E0.set 0 a0).set 1 a1) σ (retK f4.res Q) := by kernel_rfl
theorem f4_ent (a0 a1 : AVal) : enterE [a0, a1] (slotsN 20) E0 = some ((E0.set 0 a0).set 1 a1) := by kernel_rfl
set_option maxRecDepth 20000 in
theorem f4_wf {tab : Nat → Option PFn} (ht : tab 4 = some f4.fn) {a0 a1 : AVal} {σ : S} {Q : AVal → S → Prop} (h : f4 (WF tab)   a0 a1 σ Q) : WF tab 4 [a0, a1] σ Q := wFn_sound ht (wFn_code (f4_ent a0 a1) (Eq.mp (f4_eq (WF tab)   a0 a1 σ Q) h))
noncomputable def f5.c0 : PC := (.seq (.ops [oq 27 (.mov (ot 1)), oe 28 (.call 6 [(ot 27)]), oq 26 (.mov (ot 28)), oq 29 (.extract 0 (ot 26)), oq 30 (.extract 1 (ot 26)), oa 8 (.alloc [(.int .i64 0), (.int .i64 0), (.int .i64 0), (.int .i64 0), (.int .i64 0), (.int .i64 0), (.int .i64 0), (.int .i64 0), (.int .i64 0), (.int .i64 0), (.int .i64 0), (.int .i64 0), (.int .i64 0), (.int .i64 0), (.int .i64 0), (.int .i64 0), (.int .i64 0), (.int .i64 0), (.int .i64 0), (.int .i64 0), (.int .i64 0), (.int .i64 0), (.bool false), (.int .i64 0), (.int .i64 0)]), ⟨none, none, (.e (.store 25 (ot 8) (ot 29)))⟩, oq 9 (.mov (ot 30))]) (.seq (.seq (.ops [oq 31 (.mov (ot 9)), oq 32 (.bin .neq .num (ot 31) (.val (.int .i64 0)))]) (.cond (ot 32) (.seq (.ops [oq 33 (.loadN 25 (ot 8)), oq 34 (.build [(.int .i64 0), (.int .i64 0), (.int .i64 0), (.int .i64 0), (.int .i64 0), (.int .i64 0), (.int .i64 0), (.int .i64 0), (.int .i64 0), (.int .i64 0), (.int .i64 0), (.int .i64 0), (.int .i64 0), (.int .i64 0), (.int .i64 0), (.int .i64 0), (.int .i64 0), (.int .i64 0), (.int .i64 0), (.int .i64 0), (.int .i64 0), (.int .i64 0), (.bool false), (.int .i64 0), (.int .i64 0)] []), oq 35 (.eqAgg [.i, .i, .i, .i, .i, .i, .i, .i, .i, .i, .i, .i, .i, .i, .i, .i, .i, .i, .i, .i, .i, .i, .b, .i, .i] false (ot 33) (ot 34)), oq 36 (.mov (ot 35)), oeg 37 36 true (.call 8 []), oq 38 (.pick (ot 36) (ot 37) (.val (.bool false))), oq 4 (.mov (ot 38))]) .ret) .skip)) (.seq (.ops [oq 39 (.loadN 25 (ot 8)), oe 40 (.call 9 [(ot 39)]), oq 41 (.mov (ot 1)), oq 42 (.bin .eql .num (ot 40) (ot 41)), oq 43 (.mov (ot 42)), oeg 44 43 true (.call 8 []), oq 45 (.pick (ot 43) (ot 44) (.val (.bool false))), oq 4 (.mov (ot 45))]) .ret)))
noncomputable def f5.res : List PRes := [.tmp (sn 4)]
noncomputable def f5.p0 (C : CW) (Q : AVal → S → Prop) (E : En) (σ : S) : Prop :=
C 6 [(E 1)] σ fun t28 σ1 =>
Som (vExtract 0 t28) fun t29 =>
Som (vExtract 1 t28) fun t30 =>
Ala (aAllocV [(.int .i64 0), (.int .i64 0), (.int .i64 0), (.int .i64 0), (.int .i64 0), (.int .i64 0), (.int .i64 0), (.int .i64 0), (.int .i64 0), (.int .i64 0), (.int .i64 0), (.int .i64 0), (.int .i64 0), (.int .i64 0), (.int .i64 0), (.int .i64 0), (.int .i64 0), (.int .i64 0), (.int .i64 0), (.int .i64 0), (.int .i64 0), (.int .i64 0), (.bool false), (.int .i64 0), (.int .i64 0)]) σ1 fun t8 σ2 =>
Eff (storeW 25 t8 t29 σ2) fun _ σ3 =>
Som (binA .neq .num t30 (.int .i64 0)) fun t32 =>
WIf t32 (
Som (vLoadN 25 t8 σ3) fun t33 =>
Som (vBuild [(.int .i64 0), (.int .i64 0), (.int .i64 0), (.int .i64 0), (.int .i64 0), (.int .i64 0), (.int .i64 0), (.int .i64 0), (.int .i64 0), (.int .i64 0), (.int .i64 0), (.int .i64 0), (.int .i64 0), (.int .i64 0), (.int .i64 0), (.int .i64 0), (.int .i64 0), (.int .i64 0), (.int .i64 0), (.int .i64 0), (.int .i64 0), (.int .i64 0), (.bool false), (.int .i64 0), (.int .i64 0)] []) fun t34 =>
Som (vEqAgg [.i, .i, .i, .i, .i, .i, .i, .i, .i, .i, .i, .i, .i, .i, .i, .i, .i, .i, .i, .i, .i, .i, .b, .i, .i] false t33 t34) fun t35 =>
gE1 (isB t35 true) (fun K => C 8 [] σ3 K) σ3 fun t37 σ4 =>
Som (vPick t35 t37 (.bool false)) fun t38 =>
Ret [some t38] σ4 Q) (
Som (vLoadN 25 t8 σ3) fun t39 =>
C 9 [t39] σ3 fun t40 σ4 =>
Som (binA .eql .num t40 (E 1)) fun t42 =>
gE1 (isB t42 true) (fun K => C 8 [] σ4 K) σ4 fun t44 σ5 =>
Som (vPick t42 t44 (.bool false)) fun t45 =>
Ret [some t45] σ5 Q)
theorem f5.p0_eq (C : CW) (Q : AVal → S → Prop) (E : En) (σ : S) : f5.p0 C Q  E σ = wC C f5.c0 E σ (retK f5.res Q) := by kernel_rfl
abbrev f5.J0 (C : CW) (Q : AVal → S → Prop) (E : En) (σ : S) : Prop := wC C f5.c0 E σ (retK f5.res Q)
set_option maxRecDepth 20000 in
theorem f5.p0_of {C : CW} {Q : AVal → S → Prop} {E : En} {σ : S} (h : f5.p0 C Q  E σ) : f5.J0 C Q E σ := Eq.mp (f5.p0_eq C Q  E σ) h
noncomputable def f5.body (R0 : PC) : PC := (.seq (.ops [oa 2 (.box (ot 0)), oq 4 (.mov (.val (.bool false)))]) (.seq (.seq (.ops [oq 10 (.loadN 25 (ot 2)), oe 11 (.call 9 [(ot 10)]), oq 5 (.mov (ot 11))]) (.seq (.ops [oq 12 (.mov (ot 5)), oq 13 (.bin .neq .num (ot 12) (.val (.str [])))]) (.cond (ot 13) (.seq (.ops [oq 15 (.mov (ot 5)), oe 16 (.call 6 [(ot 15)]), oq 14 (.mov (ot 16)), oq 17 (.extract 0 (ot 14)), oq 18 (.extract 1 (ot 14)), oa 6 (.alloc [(.int .i64 0), (.int .i64 0), (.int .i64 0), (.int .i64 0), (.int .i64 0), (.int .i64 0), (.int .i64 0), (.int .i64 0), (.int .i64 0), (.int .i64 0), (.int .i64 0), (.int .i64 0), (.int .i64 0), (.int .i64 0), (.int .i64 0), (.int .i64 0), (.int .i64 0), (.int .i64 0), (.int .i64 0), (.int .i64 0), (.int .i64 0), (.int .i64 0), (.bool false), (.int .i64 0), (.int .i64 0)]), ⟨none, none, (.e (.store 25 (ot 6) (ot 17)))⟩, oq 7 (.mov (ot 18))]) (.seq (.ops [oq 19 (.loadN 25 (ot 6)), oq 20 (.loadN 25 (ot 2)), oq 21 (.eqAgg [.i, .i, .i, .i, .i, .i, .i, .i, .i, .i, .i, .i, .i, .i, .i, .i, .i, .i, .i, .i, .i, .i, .b, .i, .i] true (ot 19) (ot 20)), oq 22 (.mov (ot 21)), oqg 23 22 false (.mov (ot 7)), oqg 24 22 false (.bin .neq .num (ot 23) (.val (.int .i64 0))), oq 25 (.pick (ot 22) (.val (.bool true)) (ot 24))]) (.cond (ot 25) (.seq (.ops [oq 4 (.mov (.val (.bool false)))]) .ret) .skip))) .skip))) R0))
noncomputable def f5.fn : PFn := .code (slotsN 46) (f5.body f5.c0) f5.res
noncomputable def f5 (C : CW) (R0 : PC) (a0 a1 : AVal) (σ : S) (Q : AVal → S → Prop) : Prop :=
Ala (aBoxV a0) σ fun t2 σ1 =>
Som (vLoadN 25 t2 σ1) fun t10 =>
C 9 [t10] σ1 fun t11 σ2 =>
Som (binA .neq .num t11 (.str [])) fun t13 =>
WIf t13 (
C 6 [t11] σ2 fun t16 σ3 =>
Som (vExtract 0 t16) fun t17 =>
Som (vExtract 1 t16) fun t18 =>
Ala (aAllocV [(.int .i64 0), (.int .i64 0), (.int .i64 0), (.int .i64 0), (.int .i64 0), (.int .i64 0), (.int .i64 0), (.int .i64 0), (.int .i64 0), (.int .i64 0), (.int .i64 0), (.int .i64 0), (.int .i64 0), (.int .i64 0), (.int .i64 0), (.int .i64 0), (.int .i64 0), (.int .i64 0), (.int .i64 0), (.int .i64 0), (.int .i64 0), (.int .i64 0), (.bool false), (.int .i64 0), (.int .i64 0)]) σ3 fun t6 σ4 =>
Eff (storeW 25 t6 t17 σ4) fun _ σ5 =>
Som (vLoadN 25 t6 σ5) fun t19 =>
Som (vLoadN 25 t2 σ5) fun t20 =>
Som (vEqAgg [.i, .i, .i, .i, .i, .i, .i, .i, .i, .i, .i, .i, .i, .i, .i, .i, .i, .i, .i, .i, .i, .i, .b, .i, .i] true t19 t20) fun t21 =>
Som (gq1 (isB t21 false) (some t18)) fun t23 =>
Som (gq1 (isB t21 false) (binA .neq .num t23 (.int .i64 0))) fun t24 =>
Som (vPick t21 (.bool true) t24) fun t25 =>
WIf t25 (
Ret [some (.bool false)] σ5 Q) (
wC C R0 (((((((((((((((((((((((E0.set 0 a0).set 1 a1).set 2 t2).set 4 (.bool false)).set 10 t10).set 11 t11).set 5 t11).set 12 t11).set 13 t13).set 15 t11).set 16 t16).set 14 t16).set 17 t17).set 18 t18).set 6 t6).set 7 t18).set 19 t19).set 20 t20).set 21 t21).set 22 t21).set 23 t23).set 24 t24).set 25 t25) σ5 (retK f5.res Q))) (
wC C R0 (((((((((E0.set 0 a0).set 1 a1).set 2 t2).set 4 (.bool false)).set 10 t10).set 11 t11).set 5 t11).set 12 t11).set 13 t13) σ2 (retK f5.res Q))
theorem f5_eq (C : CW) (R0 : PC) (a0 a1 : AVal) (σ : S) (Q : AVal → S → Prop) : f5 C R0  a0 a1 σ Q = wC C (f5.body R0) ((E0.set 0 a0).set 1 a1) σ (retK f5.res Q) := by kernel_rfl
theorem f5_ent (a0 a1 : AVal) : enterE [a0, a1] (slotsN 46) E0 = some ((E0.set 0 a0).set 1 a1) := by kernel_rfl
set_option maxRecDepth 20000 in
theorem f5_wf {tab : Nat → Option PFn} (ht : tab 5 = some f5.fn) {a0 a1 : AVal} {σ : S} {Q : AVal → S → Prop} (h : f5 (WF tab) f5.c0  a0 a1 σ Q) : WF tab 5 [a0, a1] σ Q := wFn_sound ht (wFn_code (f5_ent a0 a1) (Eq.mp (f5_eq (WF tab) f5.c0  a0 a1 σ Q) h))
noncomputable def f6.c1 : PC := (.seq (.ops [oq 54 (.build [(.int .i64 0), (.int .i64 0), (.int .i64 0), (.int .i64 0), (.int .i64 0), (.int .i64 0), (.int .i64 0), (.int .i64 0), (.int .i64 0), (.int .i64 0), (.int .i64 0), (.int .i64 0), (.int .i64 0), (.int .i64 0), (.int .i64 0), (.int .i64 0), (.int .i64 0), (.int .i64 0), (.int .i64 0), (.int .i64 0), (.int .i64 0), (.int .i64 0), (.bool false), (.int .i64 0), (.int .i64 0)] []), ⟨none, none, (.e (.store 25 (ot 2) (ot 54)))⟩, oq 3 (.mov (.val (.int .i64 4)))]) .ret)
noncomputable def f6.c0 : PC := (.seq (.seq (.ops [oq 30 (.mov (ot 7)), oq 31 (.bin .leq .num (ot 30) (.val (.int .i64 12)))]) (.cond (ot 31) .skip (.exit 0))) (.seq (.block 1 (.seq (.ops [oq 34 (.mov (ot 7)), oq 35 (.build [(.int .i64 0), (.int .i64 0), (.int .i64 0), (.int .i64 0), (.int .i64 0), (.int .i64 0), (.int .i64 0), (.int .i64 0), (.int .i64 0), (.int .i64 0), (.int .i64 0), (.int .i64 0), (.int .i64 0), (.int .i64 0), (.int .i64 0), (.int .i64 0), (.int .i64 0), (.int .i64 0), (.int .i64 0), (.int .i64 0), (.int .i64 0), (.int .i64 0), (.bool false), (.int .i64 0), (.int .i64 0)] [(0, 1, (ot 34))]), oa 8 (.alloc [(.int .i64 0), (.int .i64 0), (.int .i64 0), (.int .i64 0), (.int .i64 0), (.int .i64 0), (.int .i64 0), (.int .i64 0), (.int .i64 0), (.int .i64 0), (.int .i64 0), (.int .i64 0), (.int .i64 0), (.int .i64 0), (.int .i64 0), (.int .i64 0), (.int .i64 0), (.int .i64 0), (.int .i64 0), (.int .i64 0), (.int .i64 0), (.int .i64 0), (.bool false), (.int .i64 0), (.int .i64 0)]), ⟨none, none, (.e (.store 25 (ot 8) (ot 35)))⟩]) (.seq (.ops [oq 36 (.mov (ot 7)), oe 37 (.call 15 [(ot 36)]), oq 9 (.mov (ot 37))]) (.seq (.draw 15 [⟨0, oq 38 (.mov (ot 9)), []⟩, ⟨1, oq 39 (.bin .neq .num (ot 38) (.val (.str []))), []⟩, ⟨2, oq 40 (.mov (ot 39)), []⟩, ⟨3, oqg 41 40 true (.mov (ot 9)), []⟩, ⟨4, oqg 42 40 true (.mov (ot 4)), []⟩, ⟨5, oqg 43 40 true (.ixSl 1 (ot 42) (.val (.int .i64 0))), []⟩, ⟨6, oqg 44 40 true (.load1 (ot 43)), []⟩, ⟨7, oqg 45 40 true (.bin .eql .num (ot 41) (ot 44)), []⟩, ⟨8, oq 46 (.pick (ot 40) (ot 45) (.val (.bool false))), []⟩, ⟨9, oq 47 (.mov (ot 46)), []⟩, ⟨10, oqg 48 47 true (.mov (ot 4)), []⟩, ⟨11, oqg 49 47 true (.slSl 1 (ot 48) (some (.val (.int .i64 1))) none none), []⟩, ⟨12, oeg 50 47 true (.call 17 [(ot 8)]), []⟩, ⟨13, oeg 51 47 true (.call 16 [(ot 49), (ot 50)]), []⟩, ⟨14, oq 52 (.pick (ot 47) (ot 51) (.val (.bool false))), []⟩]) (.cond (ot 52) (.seq (.ops [oq 53 (.loadN 25 (ot 8)), ⟨none, none, (.e (.store 25 (ot 2) (ot 53)))⟩, oq 3 (.mov (.val (.int .i64 0)))]) .ret) .skip))))) (.ops [oq 32 (.mov (ot 7)), oq 33 (.bin .add .num (ot 32) (.val (.int .i64 1))), oq 7 (.mov (ot 33))])))
noncomputable def f6.res : List PRes := [.cellN 25 (sn 2), .tmp (sn 3)]
noncomputable def f6.p1 (C : CW) (Q : AVal → S → Prop) (E : En) (σ : S) : Prop :=
Som (vBuild [(.int .i64 0), (.int .i64 0), (.int .i64 0), (.int .i64 0), (.int .i64 0), (.int .i64 0), (.int .i64 0), (.int .i64 0), (.int .i64 0), (.int .i64 0), (.int .i64 0), (.int .i64 0), (.int .i64 0), (.int .i64 0), (.int .i64 0), (.int .i64 0), (.int .i64 0), (.int .i64 0), (.int .i64 0), (.int .i64 0), (.int .i64 0), (.int .i64 0), (.bool false), (.int .i64 0), (.int .i64 0)] []) fun t54 =>
Eff (storeW 25 (E 2) t54 σ) fun _ σ1 =>
Ret [vLoadN 25 (E 2) σ1, some (.int .i64 4)] σ1 Q
theorem f6.p1_eq (C : CW) (Q : AVal → S → Prop) (E : En) (σ : S) : f6.p1 C Q  E σ = wC C f6.c1 E σ (retK f6.res Q) := by kernel_rfl
abbrev f6.J1 (C : CW) (Q : AVal → S → Prop) (E : En) (σ : S) : Prop := wC C f6.c1 E σ (retK f6.res Q)
set_option maxRecDepth 20000 in
theorem f6.p1_of {C : CW} {Q : AVal → S → Prop} {E : En} {σ : S} (h : f6.p1 C Q  E σ) : f6.J1 C Q E σ := Eq.mp (f6.p1_eq C Q  E σ) h
noncomputable def f6.p0 (C : CW) (Q : AVal → S → Prop) (R0 R1 : PC) (E : En) (σ : S) : Prop :=
Som (binA .leq .num (E 7) (.int .i64 12)) fun t31 =>
WIf t31 (
Som (vBuild [(.int .i64 0), (.int .i64 0), (.int .i64 0), (.int .i64 0), (.int .i64 0), (.int .i64 0), (.int .i64 0), (.int .i64 0), (.int .i64 0), (.int .i64 0), (.int .i64 0), (.int .i64 0), (.int .i64 0), (.int .i64 0), (.int .i64 0), (.int .i64 0), (.int .i64 0), (.int .i64 0), (.int .i64 0), (.int .i64 0), (.int .i64 0), (.int .i64 0), (.bool false), (.int .i64 0), (.int .i64 0)] [(0, 1, (E 7))]) fun t35 =>
Ala (aAllocV [(.int .i64 0), (.int .i64 0), (.int .i64 0), (.int .i64 0), (.int .i64 0), (.int .i64 0), (.int .i64 0), (.int .i64 0), (.int .i64 0), (.int .i64 0), (.int .i64 0), (.int .i64 0), (.int .i64 0), (.int .i64 0), (.int .i64 0), (.int .i64 0), (.int .i64 0), (.int .i64 0), (.int .i64 0), (.int .i64 0), (.int .i64 0), (.int .i64 0), (.bool false), (.int .i64 0), (.int .i64 0)]) σ fun t8 σ1 =>
Eff (storeW 25 t8 t35 σ1) fun _ σ2 =>
C 15 [(E 7)] σ2 fun t37 σ3 =>
Som (binA .neq .num t37 (.str [])) fun t39 =>
Som (gq1 (isB t39 true) (some t37)) fun t41 =>
Som (gq1 (isB t39 true) (some (E 4))) fun t42 =>
Som (gq1 (isB t39 true) (vIxSl 1 t42 (.int .i64 0))) fun t43 =>
Som (gq1 (isB t39 true) (vLoad1 t43 (σ3.bumpT 15))) fun t44 =>
Som (gq1 (isB t39 true) (binA .eql .num t41 t44)) fun t45 =>
Som (vPick t39 t45 (.bool false)) fun t46 =>
Som (gq1 (isB t46 true) (some (E 4))) fun t48 =>
Som (gq1 (isB t46 true) (vSlSl 1 t48 (some (.int .i64 1)) none none)) fun t49 =>
gE1 (isB t46 true) (fun K => C 17 [t8] (σ3.bumpT 15) K) (σ3.bumpT 15) fun t50 σ4 =>
gE1 (isB t46 true) (fun K => C 16 [t49, t50] σ4 K) σ4 fun t51 σ5 =>
Som (vPick t46 t51 (.bool false)) fun t52 =>
WIf t52 (
Som (vLoadN 25 t8 σ5) fun t53 =>
Eff (storeW 25 (E 2) t53 σ5) fun _ σ6 =>
Ret [vLoadN 25 (E 2) σ6, some (.int .i64 0)] σ6 Q) (
Som (binA .add .num (E 7) (.int .i64 1)) fun t33 =>
wC C (.loop R0) ((((((((((((((((((((((((((E.set 30 (E 7)).set 31 t31).set 34 (E 7)).set 35 t35).set 8 t8).set 36 (E 7)).set 37 t37).set 9 t37).set 38 t37).set 39 t39).set 40 t39).set 41 t41).set 42 t42).set 43 t43).set 44 t44).set 45 t45).set 46 t46).set 47 t46).set 48 t48).set 49 t49).set 50 t50).set 51 t51).set 52 t52).set 32 (E 7)).set 33 t33).set 7 t33) σ5 (blockK 0 (seqK (wC C R1) (retK f6.res Q))))) (
wC C R1 ((E.set 30 (E 7)).set 31 t31) σ (retK f6.res Q))
theorem f6.p0_eq (C : CW) (Q : AVal → S → Prop) (R0 R1 : PC) (E : En) (σ : S) : f6.p0 C Q R0 R1 E σ = wC C f6.c0 E σ (loopK C R0 (blockK 0 (seqK (wC C R1) (retK f6.res Q)))) := by kernel_rfl
abbrev f6.L0 (C : CW) (Q : AVal → S → Prop) (E : En) (σ : S) : Prop := wC C (.loop f6.c0) E σ (blockK 0 (seqK (wC C f6.c1) (retK f6.res Q)))
set_option maxRecDepth 20000 in
theorem f6.p0_of {tab : Nat → Option PFn} {Q : AVal → S → Prop} {E : En} {σ : S} (h : f6.p0 (WF tab) Q f6.c0 f6.c1 E σ) : f6.L0 (WF tab) Q E σ := wLoop_step (Eq.mp (f6.p0_eq (WF tab) Q f6.c0 f6.c1 E σ) h)
noncomputable def f6.body (R0 R1 : PC) : PC := (.seq (.ops [oa 2 (.alloc [(.int .i64 0), (.int .i64 0), (.int .i64 0), (.int .i64 0), (.int .i64 0), (.int .i64 0), (.int .i64 0), (.int .i64 0), (.int .i64 0), (.int .i64 0), (.int .i64 0), (.int .i64 0), (.int .i64 0), (.int .i64 0), (.int .i64 0), (.int .i64 0), (.int .i64 0), (.int .i64 0), (.int .i64 0), (.int .i64 0), (.int .i64 0), (.int .i64 0), (.bool false), (.int .i64 0), (.int .i64 0)]), oq 3 (.mov (.val (.int .i64 0)))]) (.seq (.seq (.ops [oq 10 (.mov (ot 0)), oq 11 (.lenStr (ot 10)), oq 12 (.bin .gtr .num (ot 11) (.val (.int .i64 400)))]) (.cond (ot 12) (.seq (.ops [oq 13 (.build [(.int .i64 0), (.int .i64 0), (.int .i64 0), (.int .i64 0), (.int .i64 0), (.int .i64 0), (.int .i64 0), (.int .i64 0), (.int .i64 0), (.int .i64 0), (.int .i64 0), (.int .i64 0), (.int .i64 0), (.int .i64 0), (.int .i64 0), (.int .i64 0), (.int .i64 0), (.int .i64 0), (.int .i64 0), (.int .i64 0), (.int .i64 0), (.int .i64 0), (.bool false), (.int .i64 0), (.int .i64 0)] []), ⟨none, none, (.e (.store 25 (ot 2) (ot 13)))⟩, oq 3 (.mov (.val (.int .i64 2)))]) .ret) .skip)) (.seq (.ops [oq 14 (.mov (ot 0)), oe 15 (.call 13 [(ot 14), (.val (.str [32]))]), oq 4 (.mov (ot 15))]) (.seq (.seq (.ops [oq 16 (.mov (ot 4)), oq 17 (.ixSl 1 (ot 16) (.val (.int .i64 0))), oq 18 (.load1 (ot 17)), oq 19 (.bin .eql .num (ot 18) (.val (.str [99, 97, 108, 108])))]) (.cond (ot 19) (.seq (.ops [oq 21 (.mov (ot 4)), oq 22 (.slSl 1 (ot 21) (some (.val (.int .i64 1))) none none), oe 23 (.call 14 [(ot 22)]), oq 20 (.mov (ot 23)), oq 24 (.extract 0 (ot 20)), oq 25 (.extract 1 (ot 20)), oa 5 (.alloc [(.int .i64 0), (.int .i64 0), (.int .i64 0), (.int .i64 0), (.int .i64 0), (.int .i64 0), (.int .i64 0), (.int .i64 0), (.int .i64 0), (.int .i64 0), (.int .i64 0), (.int .i64 0), (.int .i64 0), (.int .i64 0), (.int .i64 0), (.int .i64 0), (.int .i64 0), (.int .i64 0), (.int .i64 0), (.int .i64 0), (.int .i64 0), (.int .i64 0), (.bool false), (.int .i64 0), (.int .i64 0)]), ⟨none, none, (.e (.store 25 (ot 5) (ot 24)))⟩, oq 6 (.mov (ot 25))]) (.seq (.seq (.ops [oq 26 (.mov (ot 6)), oq 27 (.un .not (ot 26))]) (.cond (ot 27) (.seq (.ops [oq 28 (.build [(.int .i64 0), (.int .i64 0), (.int .i64 0), (.int .i64 0), (.int .i64 0), (.int .i64 0), (.int .i64 0), (.int .i64 0), (.int .i64 0), (.int .i64 0), (.int .i64 0), (.int .i64 0), (.int .i64 0), (.int .i64 0), (.int .i64 0), (.int .i64 0), (.int .i64 0), (.int .i64 0), (.int .i64 0), (.int .i64 0), (.int .i64 0), (.int .i64 0), (.bool false), (.int .i64 0), (.int .i64 0)] []), ⟨none, none, (.e (.store 25 (ot 2) (ot 28)))⟩, oq 3 (.mov (.val (.int .i64 4)))]) .ret) .skip)) (.seq (.ops [oq 29 (.loadN 25 (ot 5)), ⟨none, none, (.e (.store 25 (ot 2) (ot 29)))⟩, oq 3 (.mov (.val (.int .i64 0)))]) .ret))) .skip)) (.seq (.seq (.ops [oq 7 (.mov (.val (.int .i64 1)))]) (.block 0 (.loop R0))) R1)))))
noncomputable def f6.fn : PFn := .code (slotsN 55) (f6.body f6.c0 f6.c1) f6.res
noncomputable def f6 (C : CW) (R0 R1 : PC) (a0 : AVal) (σ : S) (Q : AVal → S → Prop) : Prop :=
Ala (aAllocV [(.int .i64 0), (.int .i64 0), (.int .i64 0), (.int .i64 0), (.int .i64 0), (.int .i64 0), (.int .i64 0), (.int .i64 0), (.int .i64 0), (.int .i64 0), (.int .i64 0), (.int .i64 0), (.int .i64 0), (.int .i64 0), (.int .i64 0), (.int .i64 0), (.int .i64 0), (.int .i64 0), (.int .i64 0), (.int .i64 0), (.int .i64 0), (.int .i64 0), (.bool false), (.int .i64 0), (.int .i64 0)]) σ fun t2 σ1 =>
Som (vLenStr a0) fun t11 =>
Som (binA .gtr .num t11 (.int .i64 400)) fun t12 =>
WIf t12 (
Som (vBuild [(.int .i64 0), (.int .i64 0), (.int .i64 0), (.int .i64 0), (.int .i64 0), (.int .i64 0), (.int .i64 0), (.int .i64 0), (.int .i64 0), (.int .i64 0), (.int .i64 0), (.int .i64 0), (.int .i64 0), (.int .i64 0), (.int .i64 0), (.int .i64 0), (.int .i64 0), (.int .i64 0), (.int .i64 0), (.int .i64 0), (.int .i64 0), (.int .i64 0), (.bool false), (.int .i64 0), (.int .i64 0)] []) fun t13 =>
Eff (storeW 25 t2 t13 σ1) fun _ σ2 =>
Ret [vLoadN 25 t2 σ2, some (.int .i64 2)] σ2 Q) (
C 13 [a0, (.str [32])] σ1 fun t15 σ2 =>
Som (vIxSl 1 t15 (.int .i64 0)) fun t17 =>
Som (vLoad1 t17 σ2) fun t18 =>
Som (binA .eql .num t18 (.str [99, 97, 108, 108])) fun t19 =>
WIf t19 (
Som (vSlSl 1 t15 (some (.int .i64 1)) none none) fun t22 =>
C 14 [t22] σ2 fun t23 σ3 =>
Som (vExtract 0 t23) fun t24 =>
Som (vExtract 1 t23) fun t25 =>
Ala (aAllocV [(.int .i64 0), (.int .i64 0), (.int .i64 0), (.int .i64 0), (.int .i64 0), (.int .i64 0), (.int .i64 0), (.int .i64 0), (.int .i64 0), (.int .i64 0), (.int .i64 0), (.int .i64 0), (.int .i64 0), (.int .i64 0), (.int .i64 0), (.int .i64 0), (.int .i64 0), (.int .i64 0), (.int .i64 0), (.int .i64 0), (.int .i64 0), (.int .i64 0), (.bool false), (.int .i64 0), (.int .i64 0)]) σ3 fun t5 σ4 =>
Eff (storeW 25 t5 t24 σ4) fun _ σ5 =>
Som (unA .not t25) fun t27 =>
WIf t27 (
Som (vBuild [(.int .i64 0), (.int .i64 0), (.int .i64 0), (.int .i64 0), (.int .i64 0), (.int .i64 0), (.int .i64 0), (.int .i64 0), (.int .i64 0), (.int .i64 0), (.int .i64 0), (.int .i64 0), (.int .i64 0), (.int .i64 0), (.int .i64 0), (.int .i64 0), (.int .i64 0), (.int .i64 0), (.int .i64 0), (.int .i64 0), (.int .i64 0), (.int .i64 0), (.bool false), (.int .i64 0), (.int .i64 0)] []) fun t28 =>
Eff (storeW 25 t2 t28 σ5) fun _ σ6 =>
Ret [vLoadN 25 t2 σ6, some (.int .i64 4)] σ6 Q) (
Som (vLoadN 25 t5 σ5) fun t29 =>
Eff (storeW 25 t2 t29 σ5) fun _ σ6 =>
Ret [vLoadN 25 t2 σ6, some (.int .i64 0)] σ6 Q)) (
wC C (.loop R0) ((((((((((((((E0.set 0 a0).set 2 t2).set 3 (.int .i64 0)).set 10 a0).set 11 t11).set 12 t12).set 14 a0).set 15 t15).set 4 t15).set 16 t15).set 17 t17).set 18 t18).set 19 t19).set 7 (.int .i64 1)) σ2 (blockK 0 (seqK (wC C R1) (retK f6.res Q)))))
theorem f6_eq (C : CW) (R0 R1 : PC) (a0 : AVal) (σ : S) (Q : AVal → S → Prop) : f6 C R0 R1  a0 σ Q = wC C (f6.body R0 R1) (E0.set 0 a0) σ (retK f6.res Q) := by kernel_rfl
theorem f6_ent (a0 : AVal) : enterE [a0] (slotsN 55) E0 = some (E0.set 0 a0) := by kernel_rfl
set_option maxRecDepth 20000 in
theorem f6_wf {tab : Nat → Option PFn} (ht : tab 6 = some f6.fn) {a0 : AVal} {σ : S} {Q : AVal → S → Prop} (h : f6 (WF tab) f6.c0 f6.c1  a0 σ Q) : WF tab 6 [a0] σ Q := wFn_sound ht (wFn_code (f6_ent a0) (Eq.mp (f6_eq (WF tab) f6.c0 f6.c1  a0 σ Q) h))
noncomputable def f7.c0 : PC := (.seq (.ops [oq 118 (.loadN 25 (ot 14)), ⟨none, none, (.e (.store 25 (ot 2) (ot 118)))⟩, oq 3 (.mov (.val (.int .i64 0)))]) .ret)
noncomputable def f7.res : List PRes := [.cellN 25 (sn 2), .tmp (sn 3)]
noncomputable def f7.p0 (C : CW) (Q : AVal → S → Prop) (E : En) (σ : S) : Prop :=
Som (vLoadN 25 (E 14) σ) fun t118 =>
Eff (storeW 25 (E 2) t118 σ) fun _ σ1 =>
Ret [vLoadN 25 (E 2) σ1, some (.int .i64 0)] σ1 Q
theorem f7.p0_eq (C : CW) (Q : AVal → S → Prop) (E : En) (σ : S) : f7.p0 C Q  E σ = wC C f7.c0 E σ (retK f7.res Q) := by kernel_rfl
abbrev f7.J0 (C : CW) (Q : AVal → S → Prop) (E : En) (σ : S) : Prop := wC C f7.c0 E σ (retK f7.res Q)
set_option maxRecDepth 20000 in
theorem f7.p0_of {C : CW} {Q : AVal → S → Prop} {E : En} {σ : S} (h : f7.p0 C Q  E σ) : f7.J0 C Q E σ := Eq.mp (f7.p0_eq C Q  E σ) h
noncomputable def f7.body (R0 : PC) : PC := (.seq (.ops [oa 2 (.alloc [(.int .i64 0), (.int .i64 0), (.int .i64 0), (.int .i64 0), (.int .i64 0), (.int .i64 0), (.int .i64 0), (.int .i64 0), (.int .i64 0), (.int .i64 0), (.int .i64 0), (.int .i64 0), (.int .i64 0), (.int .i64 0), (.int .i64 0), (.int .i64 0), (.int .i64 0), (.int .i64 0), (.int .i64 0), (.int .i64 0), (.int .i64 0), (.int .i64 0), (.bool false), (.int .i64 0), (.int .i64 0)]), oq 3 (.mov (.val (.int .i64 0)))]) (.seq (.seq (.ops [oq 15 (.mov (ot 0)), oq 16 (.lenStr (ot 15)), oq 17 (.bin .gtr .num (ot 16) (.val (.int .i64 400)))]) (.cond (ot 17) (.seq (.ops [oq 18 (.build [(.int .i64 0), (.int .i64 0), (.int .i64 0), (.int .i64 0), (.int .i64 0), (.int .i64 0), (.int .i64 0), (.int .i64 0), (.int .i64 0), (.int .i64 0), (.int .i64 0), (.int .i64 0), (.int .i64 0), (.int .i64 0), (.int .i64 0), (.int .i64 0), (.int .i64 0), (.int .i64 0), (.int .i64 0), (.int .i64 0), (.int .i64 0), (.int .i64 0), (.bool false), (.int .i64 0), (.int .i64 0)] []), ⟨none, none, (.e (.store 25 (ot 2) (ot 18)))⟩, oq 3 (.mov (.val (.int .i64 2)))]) .ret) .skip)) (.seq (.ops [oq 20 (.mov (ot 0)), oe 21 (.call 18 [(ot 20)]), oq 19 (.mov (ot 21)), oq 22 (.extract 0 (ot 19)), oq 23 (.extract 1 (ot 19)), oq 4 (.mov (ot 22)), oq 5 (.mov (ot 23))]) (.seq (.seq (.ops [oq 24 (.mov (ot 5)), oq 25 (.un .not (ot 24))]) (.cond (ot 25) (.seq (.ops [oq 26 (.build [(.int .i64 0), (.int .i64 0), (.int .i64 0), (.int .i64 0), (.int .i64 0), (.int .i64 0), (.int .i64 0), (.int .i64 0), (.int .i64 0), (.int .i64 0), (.int .i64 0), (.int .i64 0), (.int .i64 0), (.int .i64 0), (.int .i64 0), (.int .i64 0), (.int .i64 0), (.int .i64 0), (.int .i64 0), (.int .i64 0), (.int .i64 0), (.int .i64 0), (.bool false), (.int .i64 0), (.int .i64 0)] []), ⟨none, none, (.e (.store 25 (ot 2) (ot 26)))⟩, oq 3 (.mov (.val (.int .i64 4)))]) .ret) .skip)) (.seq (.seq (.ops [oq 27 (.mov (ot 4)), oq 28 (.ixSl 1 (ot 27) (.val (.int .i64 0))), oq 29 (.load1 (ot 28)), oq 30 (.bin .eql .num (ot 29) (.val (.str [99, 97, 108, 108])))]) (.cond (ot 30) (.seq (.seq (.ops [oq 31 (.mov (ot 4)), oq 32 (.lenSl (ot 31)), oq 33 (.bin .lss .num (ot 32) (.val (.int .i64 4)))]) (.cond (ot 33) (.seq (.ops [oq 34 (.build [(.int .i64 0), (.int .i64 0), (.int .i64 0), (.int .i64 0), (.int .i64 0), (.int .i64 0), (.int .i64 0), (.int .i64 0), (.int .i64 0), (.int .i64 0), (.int .i64 0), (.int .i64 0), (.int .i64 0), (.int .i64 0), (.int .i64 0), (.int .i64 0), (.int .i64 0), (.int .i64 0), (.int .i64 0), (.int .i64 0), (.int .i64 0), (.int .i64 0), (.bool false), (.int .i64 0), (.int .i64 0)] []), ⟨none, none, (.e (.store 25 (ot 2) (ot 34)))⟩, oq 3 (.mov (.val (.int .i64 4)))]) .ret) .skip)) (.seq (.ops [oq 36 (.mov (ot 4)), oq 37 (.slSl 1 (ot 36) (some (.val (.int .i64 1))) (some (.val (.int .i64 3))) none), oe 38 (.call 19 [(ot 37), (.val (.int .i64 2))]), oq 35 (.mov (ot 38)), oq 39 (.extract 0 (ot 35)), oq 40 (.extract 1 (ot 35)), oq 6 (.mov (ot 39)), oq 7 (.mov (ot 40))]) (.seq (.ops [oq 42 (.mov (ot 4)), oq 43 (.slSl 1 (ot 42) (some (.val (.int .i64 3))) none none), oe 44 (.call 20 [(ot 43)]), oq 41 (.mov (ot 44)), oq 45 (.extract 0 (ot 41)), oq 46 (.extract 1 (ot 41)), oa 8 (.alloc [(.int .i64 0), (.int .i64 0), (.int .i64 0), (.int .i64 0), (.int .i64 0), (.int .i64 0), (.int .i64 0), (.int .i64 0), (.int .i64 0), (.int .i64 0), (.int .i64 0), (.int .i64 0), (.int .i64 0), (.int .i64 0), (.int .i64 0), (.int .i64 0), (.bool false), (.int .i64 0), (.int .i64 0)]), ⟨none, none, (.e (.store 19 (ot 8) (ot 45)))⟩, oq 9 (.mov (ot 46))]) (.seq (.seq (.ops [oq 47 (.mov (ot 7)), oq 48 (.un .not (ot 47)), oq 49 (.mov (ot 48)), oqg 50 49 false (.mov (ot 9)), oqg 51 49 false (.un .not (ot 50)), oq 52 (.pick (ot 49) (.val (.bool true)) (ot 51))]) (.cond (ot 52) (.seq (.ops [oq 53 (.build [(.int .i64 0), (.int .i64 0), (.int .i64 0), (.int .i64 0), (.int .i64 0), (.int .i64 0), (.int .i64 0), (.int .i64 0), (.int .i64 0), (.int .i64 0), (.int .i64 0), (.int .i64 0), (.int .i64 0), (.int .i64 0), (.int .i64 0), (.int .i64 0), (.int .i64 0), (.int .i64 0), (.int .i64 0), (.int .i64 0), (.int .i64 0), (.int .i64 0), (.bool false), (.int .i64 0), (.int .i64 0)] []), ⟨none, none, (.e (.store 25 (ot 2) (ot 53)))⟩, oq 3 (.mov (.val (.int .i64 4)))]) .ret) .skip)) (.seq (.draw 11 [⟨0, oq 54 (.mov (ot 6)), []⟩, ⟨1, oq 55 (.ixSl 1 (ot 54) (.val (.int .i64 0))), []⟩, ⟨2, oq 56 (.load1 (ot 55)), []⟩, ⟨3, oq 57 (.mov (ot 6)), []⟩, ⟨4, oq 58 (.ixSl 1 (ot 57) (.val (.int .i64 1))), []⟩, ⟨5, oq 59 (.load1 (ot 58)), []⟩, ⟨6, oq 60 (.loadN 19 (ot 8)), []⟩, ⟨7, oq 61 (.build [(.int .i64 0), (.int .i64 0), (.int .i64 0), (.int .i64 0), (.int .i64 0), (.int .i64 0), (.int .i64 0), (.int .i64 0), (.int .i64 0), (.int .i64 0), (.int .i64 0), (.int .i64 0), (.int .i64 0), (.int .i64 0), (.int .i64 0), (.int .i64 0), (.int .i64 0), (.int .i64 0), (.bool false), (.int .i64 0), (.int .i64 0)] [(0, 1, (ot 59)), (2, 19, (ot 60))]), []⟩, ⟨8, oq 62 (.build [(.int .i64 0), (.int .i64 0), (.int .i64 0), (.int .i64 0), (.int .i64 0), (.int .i64 0), (.int .i64 0), (.int .i64 0), (.int .i64 0), (.int .i64 0), (.int .i64 0), (.int .i64 0), (.int .i64 0), (.int .i64 0), (.int .i64 0), (.int .i64 0), (.int .i64 0), (.int .i64 0), (.int .i64 0), (.int .i64 0), (.int .i64 0), (.int .i64 0), (.bool false), (.int .i64 0), (.int .i64 0)] [(0, 1, (.val (.int .i64 9))), (1, 1, (ot 56)), (4, 21, (ot 61))]), []⟩, ⟨9, ⟨none, none, (.e (.store 25 (ot 2) (ot 62)))⟩, []⟩, ⟨10, oq 3 (.mov (.val (.int .i64 0))), []⟩]) .ret))))) .skip)) (.seq (.ops [oq 64 (.mov (ot 4)), oq 65 (.ixSl 1 (ot 64) (.val (.int .i64 0))), oq 66 (.load1 (ot 65)), oe 67 (.call 21 [(ot 66)]), oq 63 (.mov (ot 67)), oq 68 (.extract 0 (ot 63)), oq 69 (.extract 1 (ot 63)), oq 10 (.mov (ot 68)), oq 11 (.mov (ot 69))]) (.seq (.ops [oq 71 (.mov (ot 4)), oq 72 (.slSl 1 (ot 71) (some (.val (.int .i64 1))) none none), oq 73 (.mov (ot 11)), oe 74 (.call 19 [(ot 72), (ot 73)]), oq 70 (.mov (ot 74)), oq 75 (.extract 0 (ot 70)), oq 76 (.extract 1 (ot 70)), oq 12 (.mov (ot 75)), oq 13 (.mov (ot 76))]) (.seq (.seq (.ops [oq 77 (.mov (ot 10)), oq 78 (.bin .eql .num (ot 77) (.val (.int .i64 0))), oq 79 (.mov (ot 78)), oqg 80 79 false (.mov (ot 13)), oqg 81 79 false (.un .not (ot 80)), oq 82 (.pick (ot 79) (.val (.bool true)) (ot 81))]) (.cond (ot 82) (.seq (.ops [oq 83 (.build [(.int .i64 0), (.int .i64 0), (.int .i64 0), (.int .i64 0), (.int .i64 0), (.int .i64 0), (.int .i64 0), (.int .i64 0), (.int .i64 0), (.int .i64 0), (.int .i64 0), (.int .i64 0), (.int .i64 0), (.int .i64 0), (.int .i64 0), (.int .i64 0), (.int .i64 0), (.int .i64 0), (.int .i64 0), (.int .i64 0), (.int .i64 0), (.int .i64 0), (.bool false), (.int .i64 0), (.int .i64 0)] []), ⟨none, none, (.e (.store 25 (ot 2) (ot 83)))⟩, oq 3 (.mov (.val (.int .i64 4)))]) .ret) .skip)) (.seq (.ops [oq 84 (.mov (ot 10)), oq 85 (.mov (ot 12)), oq 86 (.ixSl 1 (ot 85) (.val (.int .i64 0))), oq 87 (.load1 (ot 86)), oq 88 (.build [(.int .i64 0), (.int .i64 0), (.int .i64 0), (.int .i64 0), (.int .i64 0), (.int .i64 0), (.int .i64 0), (.int .i64 0), (.int .i64 0), (.int .i64 0), (.int .i64 0), (.int .i64 0), (.int .i64 0), (.int .i64 0), (.int .i64 0), (.int .i64 0), (.int .i64 0), (.int .i64 0), (.int .i64 0), (.int .i64 0), (.int .i64 0), (.int .i64 0), (.bool false), (.int .i64 0), (.int .i64 0)] [(0, 1, (ot 84)), (1, 1, (ot 87))]), oa 14 (.alloc [(.int .i64 0), (.int .i64 0), (.int .i64 0), (.int .i64 0), (.int .i64 0), (.int .i64 0), (.int .i64 0), (.int .i64 0), (.int .i64 0), (.int .i64 0), (.int .i64 0), (.int .i64 0), (.int .i64 0), (.int .i64 0), (.int .i64 0), (.int .i64 0), (.int .i64 0), (.int .i64 0), (.int .i64 0), (.int .i64 0), (.int .i64 0), (.int .i64 0), (.bool false), (.int .i64 0), (.int .i64 0)]), ⟨none, none, (.e (.store 25 (ot 14) (ot 88)))⟩]) (.seq (.block 0 (.seq (.ops [oq 90 (.mov (ot 11)), oq 91 (.bin .eql .num (ot 90) (.val (.int .i64 3))), oq 89 (.mov (ot 91))]) (.cond (ot 89) (.draw 10 [⟨0, oq 92 (.mov (ot 12)), []⟩, ⟨1, oq 93 (.ixSl 1 (ot 92) (.val (.int .i64 1))), []⟩, ⟨2, oq 94 (.load1 (ot 93)), []⟩, ⟨3, oq 95 (.mov (ot 12)), []⟩, ⟨4, oq 96 (.ixSl 1 (ot 95) (.val (.int .i64 2))), []⟩, ⟨5, oq 97 (.load1 (ot 96)), []⟩, ⟨6, oq 98 (.fieldAddr 2 (ot 14)), []⟩, ⟨7, ⟨none, none, (.e (.store 1 (ot 98) (ot 94)))⟩, [oq 97 (.load1 (ot 96))]⟩, ⟨8, oq 99 (.fieldAddr 3 (ot 14)), []⟩, ⟨9, ⟨none, none, (.e (.store 1 (ot 99) (ot 97)))⟩, []⟩]) (.seq (.ops [oq 101 (.mov (ot 10)), oq 102 (.bin .eql .num (ot 101) (.val (.int .i64 4))), oq 103 (.mov (ot 102)), oqg 104 103 false (.mov (ot 10)), oqg 105 103 false (.bin .eql .num (ot 104) (.val (.int .i64 5))), oq 106 (.pick (ot 103) (.val (.bool true)) (ot 105)), oq 100 (.mov (ot 106))]) (.cond (ot 100) (.ops [oq 107 (.mov (ot 12)), oq 108 (.ixSl 1 (ot 107) (.val (.int .i64 1))), oq 109 (.load1 (ot 108)), oq 110 (.fieldAddr 2 (ot 14)), ⟨none, none, (.e (.store 1 (ot 110) (ot 109)))⟩]) (.seq (.ops [oq 112 (.mov (ot 11)), oq 113 (.bin .eql .num (ot 112) (.val (.int .i64 2))), oq 111 (.mov (ot 113))]) (.cond (ot 111) (.ops [oq 114 (.mov (ot 12)), oq 115 (.ixSl 1 (ot 114) (.val (.int .i64 1))), oq 116 (.load1 (ot 115)), oq 117 (.fieldAddr 3 (ot 14)), ⟨none, none, (.e (.store 1 (ot 117) (ot 116)))⟩]) .skip))))))) R0))))))))))
noncomputable def f7.fn : PFn := .code (slotsN 119) (f7.body f7.c0) f7.res
noncomputable def f7 (C : CW) (R0 : PC) (a0 : AVal) (σ : S) (Q : AVal → S → Prop) : Prop :=
Ala (aAllocV [(.int .i64 0), (.int .i64 0), (.int .i64 0), (.int .i64 0), (.int .i64 0), (.int .i64 0), (.int .i64 0), (.int .i64 0), (.int .i64 0), (.int .i64 0), (.int .i64 0), (.int .i64 0), (.int .i64 0), (.int .i64 0), (.int .i64 0), (.int .i64 0), (.int .i64 0), (.int .i64 0), (.int .i64 0), (.int .i64 0), (.int .i64 0), (.int .i64 0), (.bool false), (.int .i64 0), (.int .i64 0)]) σ fun t2 σ1 =>
Som (vLenStr a0) fun t16 =>
Som (binA .gtr .num t16 (.int .i64 400)) fun t17 =>
WIf t17 (
Som (vBuild [(.int .i64 0), (.int .i64 0), (.int .i64 0), (.int .i64 0), (.int .i64 0), (.int .i64 0), (.int .i64 0), (.int .i64 0), (.int .i64 0), (.int .i64 0), (.int .i64 0), (.int .i64 0), (.int .i64 0), (.int .i64 0), (.int .i64 0), (.int .i64 0), (.int .i64 0), (.int .i64 0), (.int .i64 0), (.int .i64 0), (.int .i64 0), (.int .i64 0), (.bool false), (.int .i64 0), (.int .i64 0)] []) fun t18 =>
Eff (storeW 25 t2 t18 σ1) fun _ σ2 =>
Ret [vLoadN 25 t2 σ2, some (.int .i64 2)] σ2 Q) (
C 18 [a0] σ1 fun t21 σ2 =>
Som (vExtract 0 t21) fun t22 =>
Som (vExtract 1 t21) fun t23 =>
Som (unA .not t23) fun t25 =>
WIf t25 (
Som (vBuild [(.int .i64 0), (.int .i64 0), (.int .i64 0), (.int .i64 0), (.int .i64 0), (.int .i64 0), (.int .i64 0), (.int .i64 0), (.int .i64 0), (.int .i64 0), (.int .i64 0), (.int .i64 0), (.int .i64 0), (.int .i64 0), (.int .i64 0), (.int .i64 0), (.int .i64 0), (.int .i64 0), (.int .i64 0), (.int .i64 0), (.int .i64 0), (.int .i64 0), (.bool false), (.int .i64 0), (.int .i64 0)] []) fun t26 =>
Eff (storeW 25 t2 t26 σ2) fun _ σ3 =>
Ret [vLoadN 25 t2 σ3, some (.int .i64 4)] σ3 Q) (
Som (vIxSl 1 t22 (.int .i64 0)) fun t28 =>
Som (vLoad1 t28 σ2) fun t29 =>
Som (binA .eql .num t29 (.str [99, 97, 108, 108])) fun t30 =>
WIf t30 (
Som (vLenSl t22) fun t32 =>
Som (binA .lss .num t32 (.int .i64 4)) fun t33 =>
WIf t33 (
Som (vBuild [(.int .i64 0), (.int .i64 0), (.int .i64 0), (.int .i64 0), (.int .i64 0), (.int .i64 0), (.int .i64 0), (.int .i64 0), (.int .i64 0), (.int .i64 0), (.int .i64 0), (.int .i64 0), (.int .i64 0), (.int .i64 0), (.int .i64 0), (.int .i64 0), (.int .i64 0), (.int .i64 0), (.int .i64 0), (.int .i64 0), (.int .i64 0), (.int .i64 0), (.bool false), (.int .i64 0), (.int .i64 0)] []) fun t34 =>
Eff (storeW 25 t2 t34 σ2) fun _ σ3 =>
Ret [vLoadN 25 t2 σ3, some (.int .i64 4)] σ3 Q) (
Som (vSlSl 1 t22 (some (.int .i64 1)) (some (.int .i64 3)) none) fun t37 =>
C 19 [t37, (.int .i64 2)] σ2 fun t38 σ3 =>
Som (vExtract 0 t38) fun t39 =>
Som (vExtract 1 t38) fun t40 =>
Som (vSlSl 1 t22 (some (.int .i64 3)) none none) fun t43 =>
C 20 [t43] σ3 fun t44 σ4 =>
Som (vExtract 0 t44) fun t45 =>
Som (vExtract 1 t44) fun t46 =>
Ala (aAllocV [(.int .i64 0), (.int .i64 0), (.int .i64 0), (.int .i64 0), (.int .i64 0), (.int .i64 0), (.int .i64 0), (.int .i64 0), (.int .i64 0), (.int .i64 0), (.int .i64 0), (.int .i64 0), (.int .i64 0), (.int .i64 0), (.int .i64 0), (.int .i64 0), (.bool false), (.int .i64 0), (.int .i64 0)]) σ4 fun t8 σ5 =>
Eff (storeW 19 t8 t45 σ5) fun _ σ6 =>
Som (unA .not t40) fun t48 =>
Som (gq1 (isB t48 false) (some t46)) fun t50 =>
Som (gq1 (isB t48 false) (unA .not t50)) fun t51 =>
Som (vPick t48 (.bool true) t51) fun t52 =>
WIf t52 (
Som (vBuild [(.int .i64 0), (.int .i64 0), (.int .i64 0), (.int .i64 0), (.int .i64 0), (.int .i64 0), (.int .i64 0), (.int .i64 0), (.int .i64 0), (.int .i64 0), (.int .i64 0), (.int .i64 0), (.int .i64 0), (.int .i64 0), (.int .i64 0), (.int .i64 0), (.int .i64 0), (.int .i64 0), (.int .i64 0), (.int .i64 0), (.int .i64 0), (.int .i64 0), (.bool false), (.int .i64 0), (.int .i64 0)] []) fun t53 =>
Eff (storeW 25 t2 t53 σ6) fun _ σ7 =>
Ret [vLoadN 25 t2 σ7, some (.int .i64 4)] σ7 Q) (
Som (vIxSl 1 t39 (.int .i64 0)) fun t55 =>
Som (vLoad1 t55 (σ6.bumpT 11)) fun t56 =>
Som (vIxSl 1 t39 (.int .i64 1)) fun t58 =>
Som (vLoad1 t58 (σ6.bumpT 11)) fun t59 =>
Som (vLoadN 19 t8 (σ6.bumpT 11)) fun t60 =>
Som (vBuild [(.int .i64 0), (.int .i64 0), (.int .i64 0), (.int .i64 0), (.int .i64 0), (.int .i64 0), (.int .i64 0), (.int .i64 0), (.int .i64 0), (.int .i64 0), (.int .i64 0), (.int .i64 0), (.int .i64 0), (.int .i64 0), (.int .i64 0), (.int .i64 0), (.int .i64 0), (.int .i64 0), (.bool false), (.int .i64 0), (.int .i64 0)] [(0, 1, t59), (2, 19, t60)]) fun t61 =>
Som (vBuild [(.int .i64 0), (.int .i64 0), (.int .i64 0), (.int .i64 0), (.int .i64 0), (.int .i64 0), (.int .i64 0), (.int .i64 0), (.int .i64 0), (.int .i64 0), (.int .i64 0), (.int .i64 0), (.int .i64 0), (.int .i64 0), (.int .i64 0), (.int .i64 0), (.int .i64 0), (.int .i64 0), (.int .i64 0), (.int .i64 0), (.int .i64 0), (.int .i64 0), (.bool false), (.int .i64 0), (.int .i64 0)] [(0, 1, (.int .i64 9)), (1, 1, t56), (4, 21, t61)]) fun t62 =>
Eff (storeW 25 t2 t62 (σ6.bumpT 11)) fun _ σ7 =>
Ret [vLoadN 25 t2 σ7, some (.int .i64 0)] σ7 Q))) (
Som (vIxSl 1 t22 (.int .i64 0)) fun t65 =>
Som (vLoad1 t65 σ2) fun t66 =>
C 21 [t66] σ2 fun t67 σ3 =>
Som (vExtract 0 t67) fun t68 =>
Som (vExtract 1 t67) fun t69 =>
Som (vSlSl 1 t22 (some (.int .i64 1)) none none) fun t72 =>
C 19 [t72, t69] σ3 fun t74 σ4 =>
Som (vExtract 0 t74) fun t75 =>
Som (vExtract 1 t74) fun t76 =>
Som (binA .eql .num t68 (.int .i64 0)) fun t78 =>
Som (gq1 (isB t78 false) (some t76)) fun t80 =>
Som (gq1 (isB t78 false) (unA .not t80)) fun t81 =>
Som (vPick t78 (.bool true) t81) fun t82 =>
WIf t82 (
Som (vBuild [(.int .i64 0), (.int .i64 0), (.int .i64 0), (.int .i64 0), (.int .i64 0), (.int .i64 0), (.int .i64 0), (.int .i64 0), (.int .i64 0), (.int .i64 0), (.int .i64 0), (.int .i64 0), (.int .i64 0), (.int .i64 0), (.int .i64 0), (.int .i64 0), (.int .i64 0), (.int .i64 0), (.int .i64 0), (.int .i64 0), (.int .i64 0), (.int .i64 0), (.bool false), (.int .i64 0), (.int .i64 0)] []) fun t83 =>
Eff (storeW 25 t2 t83 σ4) fun _ σ5 =>
Ret [vLoadN 25 t2 σ5, some (.int .i64 4)] σ5 Q) (
Som (vIxSl 1 t75 (.int .i64 0)) fun t86 =>
Som (vLoad1 t86 σ4) fun t87 =>
Som (vBuild [(.int .i64 0), (.int .i64 0), (.int .i64 0), (.int .i64 0), (.int .i64 0), (.int .i64 0), (.int .i64 0), (.int .i64 0), (.int .i64 0), (.int .i64 0), (.int .i64 0), (.int .i64 0), (.int .i64 0), (.int .i64 0), (.int .i64 0), (.int .i64 0), (.int .i64 0), (.int .i64 0), (.int .i64 0), (.int .i64 0), (.int .i64 0), (.int .i64 0), (.bool false), (.int .i64 0), (.int .i64 0)] [(0, 1, t68), (1, 1, t87)]) fun t88 =>
Ala (aAllocV [(.int .i64 0), (.int .i64 0), (.int .i64 0), (.int .i64 0), (.int .i64 0), (.int .i64 0), (.int .i64 0), (.int .i64 0), (.int .i64 0), (.int .i64 0), (.int .i64 0), (.int .i64 0), (.int .i64 0), (.int .i64 0), (.int .i64 0), (.int .i64 0), (.int .i64 0), (.int .i64 0), (.int .i64 0), (.int .i64 0), (.int .i64 0), (.int .i64 0), (.bool false), (.int .i64 0), (.int .i64 0)]) σ4 fun t14 σ5 =>
Eff (storeW 25 t14 t88 σ5) fun _ σ6 =>
Som (binA .eql .num t69 (.int .i64 3)) fun t91 =>
WIf t91 (
Som (vIxSl 1 t75 (.int .i64 1)) fun t93 =>
Som (vLoad1 t93 (σ6.bumpT 10)) fun t94 =>
Som (vIxSl 1 t75 (.int .i64 2)) fun t96 =>
Som (vLoad1 t96 (σ6.bumpT 10)) fun t97 =>
Som (vFieldAddr 2 t14) fun t98 =>
Eff (storeW 1 t98 t94 (σ6.bumpT 10)) fun _ σ7 =>
Sure (SameO (vLoad1 t96 σ7) t97) <|
Som (vFieldAddr 3 t14) fun t99 =>
Eff (storeW 1 t99 t97 σ7) fun _ σ8 =>
wC C R0 ((((((((((((((((((((((((((((((((((((((((((((((((((((((((((((E0.set 0 a0).set 2 t2).set 3 (.int .i64 0)).set 15 a0).set 16 t16).set 17 t17).set 20 a0).set 21 t21).set 19 t21).set 22 t22).set 23 t23).set 4 t22).set 5 t23).set 24 t23).set 25 t25).set 27 t22).set 28 t28).set 29 t29).set 30 t30).set 64 t22).set 65 t65).set 66 t66).set 67 t67).set 63 t67).set 68 t68).set 69 t69).set 10 t68).set 11 t69).set 71 t22).set 72 t72).set 73 t69).set 74 t74).set 70 t74).set 75 t75).set 76 t76).set 12 t75).set 13 t76).set 77 t68).set 78 t78).set 79 t78).set 80 t80).set 81 t81).set 82 t82).set 84 t68).set 85 t75).set 86 t86).set 87 t87).set 88 t88).set 14 t14).set 90 t69).set 91 t91).set 89 t91).set 92 t75).set 93 t93).set 94 t94).set 95 t75).set 96 t96).set 97 t97).set 98 t98).set 99 t99) σ8 (retK f7.res Q)) (
Som (binA .eql .num t68 (.int .i64 4)) fun t102 =>
Som (gq1 (isB t102 false) (some t68)) fun t104 =>
Som (gq1 (isB t102 false) (binA .eql .num t104 (.int .i64 5))) fun t105 =>
Som (vPick t102 (.bool true) t105) fun t106 =>
WIf t106 (
Som (vIxSl 1 t75 (.int .i64 1)) fun t108 =>
Som (vLoad1 t108 σ6) fun t109 =>
Som (vFieldAddr 2 t14) fun t110 =>
Eff (storeW 1 t110 t109 σ6) fun _ σ7 =>
wC C R0 (((((((((((((((((((((((((((((((((((((((((((((((((((((((((((((((E0.set 0 a0).set 2 t2).set 3 (.int .i64 0)).set 15 a0).set 16 t16).set 17 t17).set 20 a0).set 21 t21).set 19 t21).set 22 t22).set 23 t23).set 4 t22).set 5 t23).set 24 t23).set 25 t25).set 27 t22).set 28 t28).set 29 t29).set 30 t30).set 64 t22).set 65 t65).set 66 t66).set 67 t67).set 63 t67).set 68 t68).set 69 t69).set 10 t68).set 11 t69).set 71 t22).set 72 t72).set 73 t69).set 74 t74).set 70 t74).set 75 t75).set 76 t76).set 12 t75).set 13 t76).set 77 t68).set 78 t78).set 79 t78).set 80 t80).set 81 t81).set 82 t82).set 84 t68).set 85 t75).set 86 t86).set 87 t87).set 88 t88).set 14 t14).set 90 t69).set 91 t91).set 89 t91).set 101 t68).set 102 t102).set 103 t102).set 104 t104).set 105 t105).set 106 t106).set 100 t106).set 107 t75).set 108 t108).set 109 t109).set 110 t110) σ7 (retK f7.res Q)) (
Som (binA .eql .num t69 (.int .i64 2)) fun t113 =>
WIf t113 (
Som (vIxSl 1 t75 (.int .i64 1)) fun t115 =>
Som (vLoad1 t115 σ6) fun t116 =>
Som (vFieldAddr 3 t14) fun t117 =>
Eff (storeW 1 t117 t116 σ6) fun _ σ7 =>
wC C R0 ((((((((((((((((((((((((((((((((((((((((((((((((((((((((((((((((((E0.set 0 a0).set 2 t2).set 3 (.int .i64 0)).set 15 a0).set 16 t16).set 17 t17).set 20 a0).set 21 t21).set 19 t21).set 22 t22).set 23 t23).set 4 t22).set 5 t23).set 24 t23).set 25 t25).set 27 t22).set 28 t28).set 29 t29).set 30 t30).set 64 t22).set 65 t65).set 66 t66).set 67 t67).set 63 t67).set 68 t68).set 69 t69).set 10 t68).set 11 t69).set 71 t22).set 72 t72).set 73 t69).set 74 t74).set 70 t74).set 75 t75).set 76 t76).set 12 t75).set 13 t76).set 77 t68).set 78 t78).set 79 t78).set 80 t80).set 81 t81).set 82 t82).set 84 t68).set 85 t75).set 86 t86).set 87 t87).set 88 t88).set 14 t14).set 90 t69).set 91 t91).set 89 t91).set 101 t68).set 102 t102).set 103 t102).set 104 t104).set 105 t105).set 106 t106).set 100 t106).set 112 t69).set 113 t113).set 111 t113).set 114 t75).set 115 t115).set 116 t116).set 117 t117) σ7 (retK f7.res Q)) (
wC C R0 ((((((((((((((((((((((((((((((((((((((((((((((((((((((((((((((E0.set 0 a0).set 2 t2).set 3 (.int .i64 0)).set 15 a0).set 16 t16).set 17 t17).set 20 a0).set 21 t21).set 19 t21).set 22 t22).set 23 t23).set 4 t22).set 5 t23).set 24 t23).set 25 t25).set 27 t22).set 28 t28).set 29 t29).set 30 t30).set 64 t22).set 65 t65).set 66 t66).set 67 t67).set 63 t67).set 68 t68).set 69 t69).set 10 t68).set 11 t69).set 71 t22).set 72 t72).set 73 t69).set 74 t74).set 70 t74).set 75 t75).set 76 t76).set 12 t75).set 13 t76).set 77 t68).set 78 t78).set 79 t78).set 80 t80).set 81 t81).set 82 t82).set 84 t68).set 85 t75).set 86 t86).set 87 t87).set 88 t88).set 14 t14).set 90 t69).set 91 t91).set 89 t91).set 101 t68).set 102 t102).set 103 t102).set 104 t104).set 105 t105).set 106 t106).set 100 t106).set 112 t69).set 113 t113).set 111 t113) σ6 (retK f7.res Q))))))))
theorem f7_eq (C : CW) (R0 : PC) (a0 : AVal) (σ : S) (Q : AVal → S → Prop) : f7 C R0  a0 σ Q = wC C (f7.body R0) (E0.set 0 a0) σ (retK f7.res Q) := by kernel_rfl
theorem f7_ent (a0 : AVal) : enterE [a0] (slotsN 119) E0 = some (E0.set 0 a0) := by kernel_rfl
set_option maxRecDepth 20000 in
theorem f7_wf {tab : Nat → Option PFn} (ht : tab 7 = some f7.fn) {a0 : AVal} {σ : S} {Q : AVal → S → Prop} (h : f7 (WF tab) f7.c0  a0 σ Q) : WF tab 7 [a0] σ Q := wFn_sound ht (wFn_code (f7_ent a0) (Eq.mp (f7_eq (WF tab) f7.c0  a0 σ Q) h))
noncomputable def f9.c1 : PC := (.seq (.seq (.ops [oq 59 (.loadN 25 (ot 1)), oq 60 (.fieldAddr 0 (ot 1)), oq 61 (.load1 (ot 60)), oq 62 (.build [(.int .i64 0), (.int .i64 0), (.int .i64 0), (.int .i64 0), (.int .i64 0), (.int .i64 0), (.int .i64 0), (.int .i64 0), (.int .i64 0), (.int .i64 0), (.int .i64 0), (.int .i64 0), (.int .i64 0), (.int .i64 0), (.int .i64 0), (.int .i64 0), (.int .i64 0), (.int .i64 0), (.int .i64 0), (.int .i64 0), (.int .i64 0), (.int .i64 0), (.bool false), (.int .i64 0), (.int .i64 0)] [(0, 1, (ot 61))]), oq 63 (.eqAgg [.i, .i, .i, .i, .i, .i, .i, .i, .i, .i, .i, .i, .i, .i, .i, .i, .i, .i, .i, .i, .i, .i, .b, .i, .i] true (ot 59) (ot 62))]) (.cond (ot 63) (.seq (.ops [oq 2 (.mov (.val (.str [])))]) .ret) .skip)) (.seq (.ops [oq 64 (.mov (ot 4)), oq 2 (.mov (ot 64))]) .ret))
noncomputable def f9.c0 : PC := (.seq (.ops [oq 53 (.bin .lss .num (ot 52) (ot 51))]) (.seq (.cond (ot 53) .skip (.exit 0)) (.seq (.block 1 (.seq (.ops [oq 54 (.ixSl 1 (ot 50) (ot 52)), oq 55 (.load1 (ot 54)), oq 6 (.mov (ot 55))]) (.ops [oq 56 (.mov (ot 6)), oq 57 (.nilck (ot 56)), ⟨none, none, (.e (.store 1 (ot 57) (.val (.int .i64 0))))⟩]))) (.ops [oq 58 (.bin .add .num (ot 52) (.val (.int .i64 1))), oq 52 (.mov (ot 58))]))))
noncomputable def f9.res : List PRes := [.tmp (sn 2)]
noncomputable def f9.p1 (C : CW) (Q : AVal → S → Prop) (E : En) (σ : S) : Prop :=
Som (vLoadN 25 (E 1) σ) fun t59 =>
Som (vFieldAddr 0 (E 1)) fun t60 =>
Som (vLoad1 t60 σ) fun t61 =>
Som (vBuild [(.int .i64 0), (.int .i64 0), (.int .i64 0), (.int .i64 0), (.int .i64 0), (.int .i64 0), (.int .i64 0), (.int .i64 0), (.int .i64 0), (.int .i64 0), (.int .i64 0), (.int .i64 0), (.int .i64 0), (.int .i64 0), (.int .i64 0), (.int .i64 0), (.int .i64 0), (.int .i64 0), (.int .i64 0), (.int .i64 0), (.int .i64 0), (.int .i64 0), (.bool false), (.int .i64 0), (.int .i64 0)] [(0, 1, t61)]) fun t62 =>
Som (vEqAgg [.i, .i, .i, .i, .i, .i, .i, .i, .i, .i, .i, .i, .i, .i, .i, .i, .i, .i, .i, .i, .i, .i, .b, .i, .i] true t59 t62) fun t63 =>
WIf t63 (
Ret [some (.str [])] σ Q) (
Ret [some (E 4)] σ Q)
theorem f9.p1_eq (C : CW) (Q : AVal → S → Prop) (E : En) (σ : S) : f9.p1 C Q  E σ = wC C f9.c1 E σ (retK f9.res Q) := by kernel_rfl
abbrev f9.J1 (C : CW) (Q : AVal → S → Prop) (E : En) (σ : S) : Prop := wC C f9.c1 E σ (retK f9.res Q)
set_option maxRecDepth 20000 in
theorem f9.p1_of {C : CW} {Q : AVal → S → Prop} {E : En} {σ : S} (h : f9.p1 C Q  E σ) : f9.J1 C Q E σ := Eq.mp (f9.p1_eq C Q  E σ) h
noncomputable def f9.p0 (C : CW) (Q : AVal → S → Prop) (R0 R1 : PC) (E : En) (σ : S) : Prop :=
Som (binA .lss .num (E 52) (E 51)) fun t53 =>
WIf t53 (
Som (vIxSl 1 (E 50) (E 52)) fun t54 =>
Som (vLoad1 t54 σ) fun t55 =>
Som (vNilck t55) fun t57 =>
Eff (storeW 1 t57 (.int .i64 0) σ) fun _ σ1 =>
Som (binA .add .num (E 52) (.int .i64 1)) fun t58 =>
wC C (.loop R0) ((((((((E.set 53 t53).set 54 t54).set 55 t55).set 6 t55).set 56 t55).set 57 t57).set 58 t58).set 52 t58) σ1 (blockK 0 (seqK (wC C R1) (retK f9.res Q)))) (
wC C R1 (E.set 53 t53) σ (retK f9.res Q))
theorem f9.p0_eq (C : CW) (Q : AVal → S → Prop) (R0 R1 : PC) (E : En) (σ : S) : f9.p0 C Q R0 R1 E σ = wC C f9.c0 E σ (loopK C R0 (blockK 0 (seqK (wC C R1) (retK f9.res Q)))) := by kernel_rfl
abbrev f9.L0 (C : CW) (Q : AVal → S → Prop) (E : En) (σ : S) : Prop := wC C (.loop f9.c0) E σ (blockK 0 (seqK (wC C f9.c1) (retK f9.res Q)))
set_option maxRecDepth 20000 in
theorem f9.p0_of {tab : Nat → Option PFn} {Q : AVal → S → Prop} {E : En} {σ : S} (h : f9.p0 (WF tab) Q f9.c0 f9.c1 E σ) : f9.L0 (WF tab) Q E σ := wLoop_step (Eq.mp (f9.p0_eq (WF tab) Q f9.c0 f9.c1 E σ) h)
noncomputable def f9.body (R0 R1 : PC) : PC := (.seq (.ops [oa 1 (.box (ot 0)), oq 2 (.mov (.val (.str [])))]) (.seq (.seq (.ops [oq 7 (.fieldAddr 0 (ot 1)), oq 8 (.load1 (ot 7)), oq 9 (.bin .eql .num (ot 8) (.val (.int .i64 9)))]) (.cond (ot 9) (.seq (.seq (.ops [oq 10 (.fieldAddr 4 (ot 1)), oq 11 (.fieldAddr 2 (ot 10)), oq 12 (.loadN 19 (ot 11)), oe 13 (.call 24 [(ot 12)]), oq 14 (.un .not (ot 13)), oq 15 (.mov (ot 14)), oqg 16 15 false (.fieldAddr 4 (ot 1)), oqg 17 15 false (.fieldAddr 1 (ot 16)), oqg 18 15 false (.load1 (ot 17)), oqg 19 15 false (.bin .neq .num (ot 18) (.val (.int .i64 0))), oq 20 (.pick (ot 15) (.val (.bool true)) (ot 19)), oq 21 (.mov (ot 20)), oqg 22 21 false (.fieldAddr 2 (ot 1)), oqg 23 21 false (.load1 (ot 22)), oqg 24 21 false (.bin .neq .num (ot 23) (.val (.int .i64 0))), oq 25 (.pick (ot 21) (.val (.bool true)) (ot 24)), oq 26 (.mov (ot 25)), oqg 27 26 false (.fieldAddr 3 (ot 1)), oqg 28 26 false (.load1 (ot 27)), oqg 29 26 false (.bin .neq .num (ot 28) (.val (.int .i64 0))), oq 30 (.pick (ot 26) (.val (.bool true)) (ot 29))]) (.cond (ot 30) (.seq (.ops [oq 2 (.mov (.val (.str [])))]) .ret) .skip)) (.seq (.draw 12 [⟨0, oq 31 (.fieldAddr 1 (ot 1)), []⟩, ⟨1, oq 32 (.fieldAddr 4 (ot 1)), []⟩, ⟨2, oq 33 (.fieldAddr 0 (ot 32)), []⟩, ⟨6, oq 37 (.fieldAddr 4 (ot 1)), []⟩, ⟨7, oq 38 (.fieldAddr 2 (ot 37)), []⟩, ⟨8, oq 39 (.loadN 19 (ot 38)), []⟩, ⟨3, oa 34 (.bslice 1 [.nptr] 2 [(0, 1, (ot 31)), (1, 1, (ot 33))]), []⟩, ⟨4, oe 35 (.call 25 [(.val (.str [99, 97, 108, 108])), (ot 34)]), [oq 39 (.loadN 19 (ot 38))]⟩, ⟨5, oq 36 (.bin .add .num (ot 35) (.val (.str [32]))), []⟩, ⟨9, oe 40 (.call 26 [(ot 39)]), []⟩, ⟨10, oq 41 (.bin .add .num (ot 36) (ot 40)), []⟩, ⟨11, oq 2 (.mov (ot 41)), []⟩]) .ret)) .skip)) (.seq (.ops [oq 42 (.fieldAddr 0 (ot 1)), oq 43 (.load1 (ot 42)), oe 44 (.call 15 [(ot 43)]), oq 3 (.mov (ot 44))]) (.seq (.seq (.ops [oq 45 (.mov (ot 3)), oq 46 (.bin .eql .num (ot 45) (.val (.str [])))]) (.cond (ot 46) (.seq (.ops [oq 2 (.mov (.val (.str [])))]) .ret) .skip)) (.seq (.ops [oq 47 (.mov (ot 3)), oe 48 (.call 17 [(ot 1)]), oe 49 (.call 25 [(ot 47), (ot 48)]), oq 4 (.mov (ot 49))]) (.seq (.seq (.ops [oe 50 (.call 17 [(ot 1)]), oq 51 (.lenSl (ot 50)), oq 52 (.mov (.val (.int .i64 0)))]) (.block 0 (.loop R0))) R1))))))
noncomputable def f9.fn : PFn := .code (slotsN 65) (f9.body f9.c0 f9.c1) f9.res
noncomputable def f9 (C : CW) (R0 R1 : PC) (a0 : AVal) (σ : S) (Q : AVal → S → Prop) : Prop :=
Ala (aBoxV a0) σ fun t1 σ1 =>
Som (vFieldAddr 0 t1) fun t7 =>
Som (vLoad1 t7 σ1) fun t8 =>
Som (binA .eql .num t8 (.int .i64 9)) fun t9 =>
WIf t9 (
Som (vFieldAddr 4 t1) fun t10 =>
Som (vFieldAddr 2 t10) fun t11 =>
Som (vLoadN 19 t11 σ1) fun t12 =>
C 24 [t12] σ1 fun t13 σ2 =>
Som (unA .not t13) fun t14 =>
Som (gq1 (isB t14 false) (vFieldAddr 4 t1)) fun t16 =>
Som (gq1 (isB t14 false) (vFieldAddr 1 t16)) fun t17 =>
Som (gq1 (isB t14 false) (vLoad1 t17 σ2)) fun t18 =>
Som (gq1 (isB t14 false) (binA .neq .num t18 (.int .i64 0))) fun t19 =>
Som (vPick t14 (.bool true) t19) fun t20 =>
Som (gq1 (isB t20 false) (vFieldAddr 2 t1)) fun t22 =>
Som (gq1 (isB t20 false) (vLoad1 t22 σ2)) fun t23 =>
Som (gq1 (isB t20 false) (binA .neq .num t23 (.int .i64 0))) fun t24 =>
Som (vPick t20 (.bool true) t24) fun t25 =>
Som (gq1 (isB t25 false) (vFieldAddr 3 t1)) fun t27 =>
Som (gq1 (isB t25 false) (vLoad1 t27 σ2)) fun t28 =>
Som (gq1 (isB t25 false) (binA .neq .num t28 (.int .i64 0))) fun t29 =>
Som (vPick t25 (.bool true) t29) fun t30 =>
WIf t30 (
Ret [some (.str [])] σ2 Q) (
Som (vFieldAddr 1 t1) fun t31 =>
Som (vFieldAddr 4 t1) fun t32 =>
Som (vFieldAddr 0 t32) fun t33 =>
Som (vFieldAddr 4 t1) fun t37 =>
Som (vFieldAddr 2 t37) fun t38 =>
Som (vLoadN 19 t38 (σ2.bumpT 12)) fun t39 =>
Alb (aSliceV 1 [.nptr] 2 [(0, 1, t31), (1, 1, t33)]) (Pos.plusT 3 σ2.next) (σ2.bumpT 12) fun t34 σ3 =>
C 25 [(.str [99, 97, 108, 108]), t34] σ3 fun t35 σ4 =>
Sure (SameO (vLoadN 19 t38 σ4) t39) <|
Som (binA .add .num t35 (.str [32])) fun t36 =>
C 26 [t39] σ4 fun t40 σ5 =>
Som (binA .add .num t36 t40) fun t41 =>
Ret [some t41] σ5 Q)) (
Som (vFieldAddr 0 t1) fun t42 =>
Som (vLoad1 t42 σ1) fun t43 =>
C 15 [t43] σ1 fun t44 σ2 =>
Som (binA .eql .num t44 (.str [])) fun t46 =>
WIf t46 (
Ret [some (.str [])] σ2 Q) (
C 17 [t1] σ2 fun t48 σ3 =>
C 25 [t44, t48] σ3 fun t49 σ4 =>
C 17 [t1] σ4 fun t50 σ5 =>
Som (vLenSl t50) fun t51 =>
wC C (.loop R0) (((((((((((((((((((E0.set 0 a0).set 1 t1).set 2 (.str [])).set 7 t7).set 8 t8).set 9 t9).set 42 t42).set 43 t43).set 44 t44).set 3 t44).set 45 t44).set 46 t46).set 47 t44).set 48 t48).set 49 t49).set 4 t49).set 50 t50).set 51 t51).set 52 (.int .i64 0)) σ5 (blockK 0 (seqK (wC C R1) (retK f9.res Q)))))
theorem f9_eq (C : CW) (R0 R1 : PC) (a0 : AVal) (σ : S) (Q : AVal → S → Prop) : f9 C R0 R1  a0 σ Q = wC C (f9.body R0 R1) (E0.set 0 a0) σ (retK f9.res Q) := by kernel_rfl
theorem f9_ent (a0 : AVal) : enterE [a0] (slotsN 65) E0 = some (E0.set 0 a0) := by kernel_rfl
set_option maxRecDepth 20000 in
theorem f9_wf {tab : Nat → Option PFn} (ht : tab 9 = some f9.fn) {a0 : AVal} {σ : S} {Q : AVal → S → Prop} (h : f9 (WF tab) f9.c0 f9.c1  a0 σ Q) : WF tab 9 [a0] σ Q := wFn_sound ht (wFn_code (f9_ent a0) (Eq.mp (f9_eq (WF tab) f9.c0 f9.c1  a0 σ Q) h))
noncomputable def f10.c2 : PC := (.seq (.ops [oq 88 (.mov (ot 3)), oe 89 (.call 7 [(ot 88)]), oq 87 (.mov (ot 89)), oq 90 (.extract 0 (ot 87)), oq 91 (.extract 1 (ot 87)), oa 9 (.alloc [(.int .i64 0), (.int .i64 0), (.int .i64 0), (.int .i64 0), (.int .i64 0), (.int .i64 0), (.int .i64 0), (.int .i64 0), (.int .i64 0), (.int .i64 0), (.int .i64 0), (.int .i64 0), (.int .i64 0), (.int .i64 0), (.int .i64 0), (.int .i64 0), (.int .i64 0), (.int .i64 0), (.int .i64 0), (.int .i64 0), (.int .i64 0), (.int .i64 0), (.bool false), (.int .i64 0), (.int .i64 0)]), ⟨none, none, (.e (.store 25 (ot 9) (ot 90)))⟩, oq 10 (.mov (ot 91))]) (.seq (.seq (.ops [oq 92 (.mov (ot 3)), oq 93 (.bin .eql .num (ot 92) (.val (.str []))), oq 94 (.mov (ot 93)), oqg 95 94 false (.mov (ot 10)), oqg 96 94 false (.bin .neq .num (ot 95) (.val (.int .i64 0))), oq 97 (.pick (ot 94) (.val (.bool true)) (ot 96)), oq 98 (.mov (ot 97)), oqg 99 98 false (.loadN 25 (ot 9)), oqg 100 98 false (.loadN 25 (ot 1)), oqg 101 98 false (.eqAgg [.i, .i, .i, .i, .i, .i, .i, .i, .i, .i, .i, .i, .i, .i, .i, .i, .i, .i, .i, .i, .i, .i, .b, .i, .i] true (ot 99) (ot 100)), oq 102 (.pick (ot 98) (.val (.bool true)) (ot 101))]) (.cond (ot 102) (.seq (.ops [oq 2 (.mov (.val (.str [])))]) .ret) .skip)) (.seq (.ops [oq 103 (.mov (ot 3)), oq 2 (.mov (ot 103))]) .ret)))
noncomputable def f10.c1 : PC := (.seq (.ops [oq 33 (.bin .lss .num (ot 32) (ot 31))]) (.seq (.cond (ot 33) .skip (.exit 0)) (.seq (.block 1 (.seq (.ops [oq 34 (.ixSl 1 (ot 30) (ot 32)), oq 35 (.load1 (ot 34)), oq 6 (.mov (ot 35))]) (.seq (.ops [oq 37 (.mov (ot 6)), oe 38 (.call 21 [(ot 37)]), oq 36 (.mov (ot 38)), oq 39 (.extract 0 (ot 36)), oq 40 (.extract 1 (ot 36)), oq 7 (.mov (ot 39)), oq 8 (.mov (ot 40))]) (.seq (.seq (.ops [oq 41 (.mov (ot 7)), oq 42 (.fieldAddr 0 (ot 1)), oq 43 (.load1 (ot 42)), oq 44 (.bin .neq .num (ot 41) (ot 43))]) (.cond (ot 44) (.exit 1) .skip)) (.block 2 (.seq (.ops [oq 53 (.mov (ot 8)), oq 54 (.bin .eql .num (ot 53) (.val (.int .i64 3))), oq 52 (.mov (ot 54))]) (.cond (ot 52) (.ops [oq 55 (.mov (ot 6)), oq 56 (.fieldAddr 1 (ot 1)), oq 57 (.load1 (ot 56)), oq 58 (.fieldAddr 2 (ot 1)), oq 59 (.load1 (ot 58)), oq 60 (.fieldAddr 3 (ot 1)), oq 61 (.load1 (ot 60)), oa 62 (.bslice 1 [(.int .i64 0)] 3 [(0, 1, (ot 57)), (1, 1, (ot 59)), (2, 1, (ot 61))]), oe 63 (.call 28 [(ot 55), (ot 62)]), oq 3 (.mov (ot 63))]) (.seq (.ops [oq 65 (.mov (ot 8)), oq 66 (.bin .eql .num (ot 65) (.val (.int .i64 1))), oq 64 (.mov (ot 66))]) (.cond (ot 64) (.ops [oq 67 (.mov (ot 6)), oq 68 (.fieldAddr 1 (ot 1)), oq 69 (.load1 (ot 68)), oa 70 (.bslice 1 [(.int .i64 0)] 1 [(0, 1, (ot 69))]), oe 71 (.call 28 [(ot 67), (ot 70)]), oq 3 (.mov (ot 71))]) (.seq (.ops [oq 73 (.mov (ot 7)), oq 74 (.bin .eql .num (ot 73) (.val (.int .i64 4))), oq 75 (.mov (ot 74)), oqg 76 75 false (.mov (ot 7)), oqg 77 75 false (.bin .eql .num (ot 76) (.val (.int .i64 5))), oq 78 (.pick (ot 75) (.val (.bool true)) (ot 77)), oq 72 (.mov (ot 78))]) (.cond (ot 72) (.ops [oq 79 (.mov (ot 6)), oq 80 (.fieldAddr 1 (ot 1)), oq 81 (.load1 (ot 80)), oq 82 (.fieldAddr 2 (ot 1)), oq 83 (.load1 (ot 82)), oa 84 (.bslice 1 [(.int .i64 0)] 2 [(0, 1, (ot 81)), (1, 1, (ot 83))]), oe 85 (.call 28 [(ot 79), (ot 84)]), oq 3 (.mov (ot 85))]) (.ops [oq 45 (.mov (ot 6)), oq 46 (.fieldAddr 1 (ot 1)), oq 47 (.load1 (ot 46)), oq 48 (.fieldAddr 3 (ot 1)), oq 49 (.load1 (ot 48)), oa 50 (.bslice 1 [(.int .i64 0)] 2 [(0, 1, (ot 47)), (1, 1, (ot 49))]), oe 51 (.call 28 [(ot 45), (ot 50)]), oq 3 (.mov (ot 51))])))))))))))) (.ops [oq 86 (.bin .add .num (ot 32) (.val (.int .i64 1))), oq 32 (.mov (ot 86))]))))
noncomputable def f10.t0 (R1 R2 : PC) : PC := (.seq (.seq (.ops [oa 30 (.bslice 1 [(.str [])] 11 [(0, 1, (.val (.str [100, 101, 108, 105, 118, 101, 114]))), (1, 1, (.val (.str [116, 119, 105, 99, 101]))), (2, 1, (.val (.str [100, 114, 111, 112]))), (3, 1, (.val (.str [99, 114, 97, 115, 104]))), (4, 1, (.val (.str [99, 117, 116]))), (5, 1, (.val (.str [109, 101, 110, 100]))), (6, 1, (.val (.str [116, 105, 99, 107]))), (7, 1, (.val (.str [115, 116, 97, 114, 116]))), (8, 1, (.val (.str [97, 114, 109]))), (9, 1, (.val (.str [99, 111, 109, 112, 97, 99, 116]))), (10, 1, (.val (.str [119, 105, 112, 101])))]), oq 31 (.lenSl (ot 30)), oq 32 (.mov (.val (.int .i64 0)))]) (.block 0 (.loop R1))) R2)
noncomputable def f10.c0 : PC := f10.t0 f10.c1 f10.c2
noncomputable def f10.res : List PRes := [.tmp (sn 2)]
noncomputable def f10.p2 (C : CW) (Q : AVal → S → Prop) (E : En) (σ : S) : Prop :=
C 7 [(E 3)] σ fun t89 σ1 =>
Som (vExtract 0 t89) fun t90 =>
Som (vExtract 1 t89) fun t91 =>
Ala (aAllocV [(.int .i64 0), (.int .i64 0), (.int .i64 0), (.int .i64 0), (.int .i64 0), (.int .i64 0), (.int .i64 0), (.int .i64 0), (.int .i64 0), (.int .i64 0), (.int .i64 0), (.int .i64 0), (.int .i64 0), (.int .i64 0), (.int .i64 0), (.int .i64 0), (.int .i64 0), (.int .i64 0), (.int .i64 0), (.int .i64 0), (.int .i64 0), (.int .i64 0), (.bool false), (.int .i64 0), (.int .i64 0)]) σ1 fun t9 σ2 =>
Eff (storeW 25 t9 t90 σ2) fun _ σ3 =>
Som (binA .eql .num (E 3) (.str [])) fun t93 =>
Som (gq1 (isB t93 false) (some t91)) fun t95 =>
Som (gq1 (isB t93 false) (binA .neq .num t95 (.int .i64 0))) fun t96 =>
Som (vPick t93 (.bool true) t96) fun t97 =>
Som (gq1 (isB t97 false) (vLoadN 25 t9 σ3)) fun t99 =>
Som (gq1 (isB t97 false) (vLoadN 25 (E 1) σ3)) fun t100 =>
Som (gq1 (isB t97 false) (vEqAgg [.i, .i, .i, .i, .i, .i, .i, .i, .i, .i, .i, .i, .i, .i, .i, .i, .i, .i, .i, .i, .i, .i, .b, .i, .i] true t99 t100)) fun t101 =>
Som (vPick t97 (.bool true) t101) fun t102 =>
WIf t102 (
Ret [some (.str [])] σ3 Q) (
Ret [some (E 3)] σ3 Q)
theorem f10.p2_eq (C : CW) (Q : AVal → S → Prop) (E : En) (σ : S) : f10.p2 C Q  E σ = wC C f10.c2 E σ (retK f10.res Q) := by kernel_rfl
abbrev f10.J2 (C : CW) (Q : AVal → S → Prop) (E : En) (σ : S) : Prop := wC C f10.c2 E σ (retK f10.res Q)
set_option maxRecDepth 20000 in
theorem f10.p2_of {C : CW} {Q : AVal → S → Prop} {E : En} {σ : S} (h : f10.p2 C Q  E σ) : f10.J2 C Q E σ := Eq.mp (f10.p2_eq C Q  E σ) h
noncomputable def f10.p1 (C : CW) (Q : AVal → S → Prop) (R1 R2 : PC) (E : En) (σ : S) : Prop :=
Som (binA .lss .num (E 32) (E 31)) fun t33 =>
WIf t33 (
Som (vIxSl 1 (E 30) (E 32)) fun t34 =>
Som (vLoad1 t34 σ) fun t35 =>
C 21 [t35] σ fun t38 σ1 =>
Som (vExtract 0 t38) fun t39 =>
Som (vExtract 1 t38) fun t40 =>
Som (vFieldAddr 0 (E 1)) fun t42 =>
Som (vLoad1 t42 σ1) fun t43 =>
Som (binA .neq .num t39 t43) fun t44 =>
WIf t44 (
Som (binA .add .num (E 32) (.int .i64 1)) fun t86 =>
wC C (.loop R1) (((((((((((((((((E.set 33 t33).set 34 t34).set 35 t35).set 6 t35).set 37 t35).set 38 t38).set 36 t38).set 39 t39).set 40 t40).set 7 t39).set 8 t40).set 41 t39).set 42 t42).set 43 t43).set 44 t44).set 86 t86).set 32 t86) σ1 (blockK 0 (seqK (wC C R2) (retK f10.res Q)))) (
Som (binA .eql .num t40 (.int .i64 3)) fun t54 =>
WIf t54 (
Som (vFieldAddr 1 (E 1)) fun t56 =>
Som (vLoad1 t56 σ1) fun t57 =>
Som (vFieldAddr 2 (E 1)) fun t58 =>
Som (vLoad1 t58 σ1) fun t59 =>
Som (vFieldAddr 3 (E 1)) fun t60 =>
Som (vLoad1 t60 σ1) fun t61 =>
Ala (aSliceV 1 [(.int .i64 0)] 3 [(0, 1, t57), (1, 1, t59), (2, 1, t61)]) σ1 fun t62 σ2 =>
C 28 [t35, t62] σ2 fun t63 σ3 =>
Som (binA .add .num (E 32) (.int .i64 1)) fun t86 =>
wC C (.loop R1) ((((((((((((((((((((((((((((((E.set 33 t33).set 34 t34).set 35 t35).set 6 t35).set 37 t35).set 38 t38).set 36 t38).set 39 t39).set 40 t40).set 7 t39).set 8 t40).set 41 t39).set 42 t42).set 43 t43).set 44 t44).set 53 t40).set 54 t54).set 52 t54).set 55 t35).set 56 t56).set 57 t57).set 58 t58).set 59 t59).set 60 t60).set 61 t61).set 62 t62).set 63 t63).set 3 t63).set 86 t86).set 32 t86) σ3 (blockK 0 (seqK (wC C R2) (retK f10.res Q)))) (
Som (binA .eql .num t40 (.int .i64 1)) fun t66 =>
WIf t66 (
Som (vFieldAddr 1 (E 1)) fun t68 =>
Som (vLoad1 t68 σ1) fun t69 =>
Ala (aSliceV 1 [(.int .i64 0)] 1 [(0, 1, t69)]) σ1 fun t70 σ2 =>
C 28 [t35, t70] σ2 fun t71 σ3 =>
Som (binA .add .num (E 32) (.int .i64 1)) fun t86 =>
wC C (.loop R1) (((((((((((((((((((((((((((((E.set 33 t33).set 34 t34).set 35 t35).set 6 t35).set 37 t35).set 38 t38).set 36 t38).set 39 t39).set 40 t40).set 7 t39).set 8 t40).set 41 t39).set 42 t42).set 43 t43).set 44 t44).set 53 t40).set 54 t54).set 52 t54).set 65 t40).set 66 t66).set 64 t66).set 67 t35).set 68 t68).set 69 t69).set 70 t70).set 71 t71).set 3 t71).set 86 t86).set 32 t86) σ3 (blockK 0 (seqK (wC C R2) (retK f10.res Q)))) (
Som (binA .eql .num t39 (.int .i64 4)) fun t74 =>
Som (gq1 (isB t74 false) (some t39)) fun t76 =>
Som (gq1 (isB t74 false) (binA .eql .num t76 (.int .i64 5))) fun t77 =>
Som (vPick t74 (.bool true) t77) fun t78 =>
WIf t78 (
Som (vFieldAddr 1 (E 1)) fun t80 =>
Som (vLoad1 t80 σ1) fun t81 =>
Som (vFieldAddr 2 (E 1)) fun t82 =>
Som (vLoad1 t82 σ1) fun t83 =>
Ala (aSliceV 1 [(.int .i64 0)] 2 [(0, 1, t81), (1, 1, t83)]) σ1 fun t84 σ2 =>
C 28 [t35, t84] σ2 fun t85 σ3 =>
Som (binA .add .num (E 32) (.int .i64 1)) fun t86 =>
wC C (.loop R1) ((((((((((((((((((((((((((((((((((((((E.set 33 t33).set 34 t34).set 35 t35).set 6 t35).set 37 t35).set 38 t38).set 36 t38).set 39 t39).set 40 t40).set 7 t39).set 8 t40).set 41 t39).set 42 t42).set 43 t43).set 44 t44).set 53 t40).set 54 t54).set 52 t54).set 65 t40).set 66 t66).set 64 t66).set 73 t39).set 74 t74).set 75 t74).set 76 t76).set 77 t77).set 78 t78).set 72 t78).set 79 t35).set 80 t80).set 81 t81).set 82 t82).set 83 t83).set 84 t84).set 85 t85).set 3 t85).set 86 t86).set 32 t86) σ3 (blockK 0 (seqK (wC C R2) (retK f10.res Q)))) (
Som (vFieldAddr 1 (E 1)) fun t46 =>
Som (vLoad1 t46 σ1) fun t47 =>
Som (vFieldAddr 3 (E 1)) fun t48 =>
Som (vLoad1 t48 σ1) fun t49 =>
Ala (aSliceV 1 [(.int .i64 0)] 2 [(0, 1, t47), (1, 1, t49)]) σ1 fun t50 σ2 =>
C 28 [t35, t50] σ2 fun t51 σ3 =>
Som (binA .add .num (E 32) (.int .i64 1)) fun t86 =>
wC C (.loop R1) ((((((((((((((((((((((((((((((((((((((E.set 33 t33).set 34 t34).set 35 t35).set 6 t35).set 37 t35).set 38 t38).set 36 t38).set 39 t39).set 40 t40).set 7 t39).set 8 t40).set 41 t39).set 42 t42).set 43 t43).set 44 t44).set 53 t40).set 54 t54).set 52 t54).set 65 t40).set 66 t66).set 64 t66).set 73 t39).set 74 t74).set 75 t74).set 76 t76).set 77 t77).set 78 t78).set 72 t78).set 45 t35).set 46 t46).set 47 t47).set 48 t48).set 49 t49).set 50 t50).set 51 t51).set 3 t51).set 86 t86).set 32 t86) σ3 (blockK 0 (seqK (wC C R2) (retK f10.res Q)))))))) (
wC C R2 (E.set 33 t33) σ (retK f10.res Q))
theorem f10.p1_eq (C : CW) (Q : AVal → S → Prop) (R1 R2 : PC) (E : En) (σ : S) : f10.p1 C Q R1 R2 E σ = wC C f10.c1 E σ (loopK C R1 (blockK 0 (seqK (wC C R2) (retK f10.res Q)))) := by kernel_rfl
abbrev f10.L1 (C : CW) (Q : AVal → S → Prop) (E : En) (σ : S) : Prop := wC C (.loop f10.c1) E σ (blockK 0 (seqK (wC C f10.c2) (retK f10.res Q)))
set_option maxRecDepth 20000 in
theorem f10.p1_of {tab : Nat → Option PFn} {Q : AVal → S → Prop} {E : En} {σ : S} (h : f10.p1 (WF tab) Q f10.c1 f10.c2 E σ) : f10.L1 (WF tab) Q E σ := wLoop_step (Eq.mp (f10.p1_eq (WF tab) Q f10.c1 f10.c2 E σ) h)
noncomputable def f10.p0 (C : CW) (Q : AVal → S → Prop) (R1 R2 : PC) (E : En) (σ : S) : Prop :=
Ala (aSliceV 1 [(.str [])] 11 [(0, 1, (.str [100, 101, 108, 105, 118, 101, 114])), (1, 1, (.str [116, 119, 105, 99, 101])), (2, 1, (.str [100, 114, 111, 112])), (3, 1, (.str [99, 114, 97, 115, 104])), (4, 1, (.str [99, 117, 116])), (5, 1, (.str [109, 101, 110, 100])), (6, 1, (.str [116, 105, 99, 107])), (7, 1, (.str [115, 116, 97, 114, 116])), (8, 1, (.str [97, 114, 109])), (9, 1, (.str [99, 111, 109, 112, 97, 99, 116])), (10, 1, (.str [119, 105, 112, 101]))]) σ fun t30 σ1 =>
Som (vLenSl t30) fun t31 =>
wC C (.loop R1) (((E.set 30 t30).set 31 t31).set 32 (.int .i64 0)) σ1 (blockK 0 (seqK (wC C R2) (retK f10.res Q)))
theorem f10.p0_eq (C : CW) (Q : AVal → S → Prop) (R1 R2 : PC) (E : En) (σ : S) : f10.p0 C Q R1 R2 E σ = wC C (f10.t0 R1 R2) E σ (retK f10.res Q) := by kernel_rfl
abbrev f10.J0 (C : CW) (Q : AVal → S → Prop) (E : En) (σ : S) : Prop := wC C f10.c0 E σ (retK f10.res Q)
set_option maxRecDepth 20000 in
theorem f10.p0_of {C : CW} {Q : AVal → S → Prop} {E : En} {σ : S} (h : f10.p0 C Q f10.c1 f10.c2 E σ) : f10.J0 C Q E σ := Eq.mp (f10.p0_eq C Q f10.c1 f10.c2 E σ) h
noncomputable def f10.body (R0 : PC) : PC := (.seq (.ops [oa 1 (.box (ot 0)), oq 2 (.mov (.val (.str [])))]) (.seq (.ops [oq 3 (.mov (.val (.str [])))]) (.seq (.seq (.ops [oq 11 (.fieldAddr 0 (ot 1)), oq 12 (.load1 (ot 11)), oq 13 (.bin .eql .num (ot 12) (.val (.int .i64 9)))]) (.cond (ot 13) (.seq (.ops [oq 14 (.fieldAddr 4 (ot 1)), oq 15 (.fieldAddr 2 (ot 14)), oq 16 (.loadN 19 (ot 15)), oe 17 (.call 27 [(ot 16)]), oq 4 (.mov (ot 17))]) (.seq (.seq (.ops [oq 18 (.mov (ot 4)), oq 19 (.bin .eql .num (ot 18) (.val (.str [])))]) (.cond (ot 19) (.seq (.ops [oq 2 (.mov (.val (.str [])))]) .ret) .skip)) (.ops [oq 20 (.fieldAddr 1 (ot 1)), oq 21 (.load1 (ot 20)), oq 22 (.fieldAddr 4 (ot 1)), oq 23 (.fieldAddr 0 (ot 22)), oq 24 (.load1 (ot 23)), oa 25 (.bslice 1 [(.int .i64 0)] 2 [(0, 1, (ot 21)), (1, 1, (ot 24))]), oe 26 (.call 28 [(.val (.str [99, 97, 108, 108])), (ot 25)]), oq 27 (.bin .add .num (ot 26) (.val (.str [32]))), oq 28 (.mov (ot 4)), oq 29 (.bin .add .num (ot 27) (ot 28)), oq 3 (.mov (ot 29))]))) .skip)) R0)))
noncomputable def f10.fn : PFn := .code (slotsN 104) (f10.body f10.c0) f10.res
noncomputable def f10 (C : CW) (R0 : PC) (a0 : AVal) (σ : S) (Q : AVal → S → Prop) : Prop :=
Ala (aBoxV a0) σ fun t1 σ1 =>
Som (vFieldAddr 0 t1) fun t11 =>
Som (vLoad1 t11 σ1) fun t12 =>
Som (binA .eql .num t12 (.int .i64 9)) fun t13 =>
WIf t13 (
Som (vFieldAddr 4 t1) fun t14 =>
Som (vFieldAddr 2 t14) fun t15 =>
Som (vLoadN 19 t15 σ1) fun t16 =>
C 27 [t16] σ1 fun t17 σ2 =>
Som (binA .eql .num t17 (.str [])) fun t19 =>
WIf t19 (
Ret [some (.str [])] σ2 Q) (
Som (vFieldAddr 1 t1) fun t20 =>
Som (vLoad1 t20 σ2) fun t21 =>
Som (vFieldAddr 4 t1) fun t22 =>
Som (vFieldAddr 0 t22) fun t23 =>
Som (vLoad1 t23 σ2) fun t24 =>
Ala (aSliceV 1 [(.int .i64 0)] 2 [(0, 1, t21), (1, 1, t24)]) σ2 fun t25 σ3 =>
C 28 [(.str [99, 97, 108, 108]), t25] σ3 fun t26 σ4 =>
Som (binA .add .num t26 (.str [32])) fun t27 =>
Som (binA .add .num t27 t17) fun t29 =>
wC C R0 (((((((((((((((((((((((((E0.set 0 a0).set 1 t1).set 2 (.str [])).set 3 (.str [])).set 11 t11).set 12 t12).set 13 t13).set 14 t14).set 15 t15).set 16 t16).set 17 t17).set 4 t17).set 18 t17).set 19 t19).set 20 t20).set 21 t21).set 22 t22).set 23 t23).set 24 t24).set 25 t25).set 26 t26).set 27 t27).set 28 t17).set 29 t29).set 3 t29) σ4 (retK f10.res Q))) (
wC C R0 (((((((E0.set 0 a0).set 1 t1).set 2 (.str [])).set 3 (.str [])).set 11 t11).set 12 t12).set 13 t13) σ1 (retK f10.res Q))
theorem f10_eq (C : CW) (R0 : PC) (a0 : AVal) (σ : S) (Q : AVal → S → Prop) : f10 C R0  a0 σ Q = wC C (f10.body R0) (E0.set 0 a0) σ (retK f10.res Q) := by kernel_rfl
theorem f10_ent (a0 : AVal) : enterE [a0] (slotsN 104) E0 = some (E0.set 0 a0) := by kernel_rfl
set_option maxRecDepth 20000 in
theorem f10_wf {tab : Nat → Option PFn} (ht : tab 10 = some f10.fn) {a0 : AVal} {σ : S} {Q : AVal → S → Prop} (h : f10 (WF tab) f10.c0  a0 σ Q) : WF tab 10 [a0] σ Q := wFn_sound ht (wFn_code (f10_ent a0) (Eq.mp (f10_eq (WF tab) f10.c0  a0 σ Q) h))
noncomputable def f11.c0 : PC := (.seq (.seq (.ops [oq 14 (.mov (ot 3)), oq 15 (.bin .eql .num (ot 14) (.val (.str []))), oq 16 (.mov (ot 15)), oqg 17 16 false (.fieldAddr 2 (ot 1)), oqg 18 16 false (.fieldAddr 2 (ot 17)), oqg 19 16 false (.loadN 19 (ot 18)), oeg 20 16 false (.call 24 [(ot 19)]), oqg 21 16 false (.un .not (ot 20)), oq 22 (.pick (ot 16) (.val (.bool true)) (ot 21))]) (.cond (ot 22) (.seq (.ops [oq 2 (.mov (.val (.str [])))]) .ret) .skip)) (.seq (.draw 15 [⟨0, oq 23 (.mov (ot 3)), []⟩, ⟨1, oq 24 (.fieldAddr 1 (ot 1)), []⟩, ⟨2, oq 25 (.fieldAddr 2 (ot 1)), []⟩, ⟨3, oq 26 (.fieldAddr 0 (ot 25)), []⟩, ⟨4, oq 27 (.fieldAddr 2 (ot 1)), []⟩, ⟨5, oq 28 (.fieldAddr 1 (ot 27)), []⟩, ⟨9, oq 32 (.fieldAddr 2 (ot 1)), []⟩, ⟨10, oq 33 (.fieldAddr 2 (ot 32)), []⟩, ⟨11, oq 34 (.loadN 19 (ot 33)), []⟩, ⟨6, oa 29 (.bslice 1 [.nptr] 3 [(0, 1, (ot 24)), (1, 1, (ot 26)), (2, 1, (ot 28))]), []⟩, ⟨7, oe 30 (.call 25 [(ot 23), (ot 29)]), [oq 34 (.loadN 19 (ot 33))]⟩, ⟨8, oq 31 (.bin .add .num (ot 30) (.val (.str [32]))), []⟩, ⟨12, oe 35 (.call 26 [(ot 34)]), []⟩, ⟨13, oq 36 (.bin .add .num (ot 31) (ot 35)), []⟩, ⟨14, oq 4 (.mov (ot 36)), []⟩]) (.seq (.seq (.ops [oq 37 (.fieldAddr 0 (ot 1)), oq 38 (.load1 (ot 37)), oq 39 (.bin .eql .num (ot 38) (.val (.int .i64 2)))]) (.cond (ot 39) (.seq (.ops [oq 40 (.fieldAddr 23 (ot 1)), oq 41 (.fieldAddr 0 (ot 40)), oq 42 (.load1 (ot 41)), oa 5 (.alloc [(.int .i64 0)]), ⟨none, none, (.e (.store 1 (ot 5) (ot 42)))⟩]) (.ops [oq 43 (.mov (ot 4)), oq 44 (.fieldAddr 23 (ot 1)), oq 45 (.fieldAddr 1 (ot 44)), oq 46 (.fieldAddr 23 (ot 1)), oq 47 (.fieldAddr 2 (ot 46)), oq 48 (.fieldAddr 23 (ot 1)), oq 49 (.fieldAddr 3 (ot 48)), oa 50 (.bslice 1 [.nptr] 4 [(0, 1, (ot 5)), (1, 1, (ot 45)), (2, 1, (ot 47)), (3, 1, (ot 49))]), oe 51 (.call 25 [(.val (.str [58])), (ot 50)]), oq 52 (.bin .add .num (ot 43) (ot 51)), oq 4 (.mov (ot 52))])) .skip)) (.seq (.ops [oq 53 (.mov (ot 4)), oq 2 (.mov (ot 53))]) .ret))))
noncomputable def f11.res : List PRes := [.tmp (sn 2)]
noncomputable def f11.p0 (C : CW) (Q : AVal → S → Prop) (E : En) (σ : S) : Prop :=
Som (binA .eql .num (E 3) (.str [])) fun t15 =>
Som (gq1 (isB t15 false) (vFieldAddr 2 (E 1))) fun t17 =>
Som (gq1 (isB t15 false) (vFieldAddr 2 t17)) fun t18 =>
Som (gq1 (isB t15 false) (vLoadN 19 t18 σ)) fun t19 =>
gE1 (isB t15 false) (fun K => C 24 [t19] σ K) σ fun t20 σ1 =>
Som (gq1 (isB t15 false) (unA .not t20)) fun t21 =>
Som (vPick t15 (.bool true) t21) fun t22 =>
WIf t22 (
Ret [some (.str [])] σ1 Q) (
Som (vFieldAddr 1 (E 1)) fun t24 =>
Som (vFieldAddr 2 (E 1)) fun t25 =>
Som (vFieldAddr 0 t25) fun t26 =>
Som (vFieldAddr 2 (E 1)) fun t27 =>
Som (vFieldAddr 1 t27) fun t28 =>
Som (vFieldAddr 2 (E 1)) fun t32 =>
Som (vFieldAddr 2 t32) fun t33 =>
Som (vLoadN 19 t33 (σ1.bumpT 15)) fun t34 =>
Alb (aSliceV 1 [.nptr] 3 [(0, 1, t24), (1, 1, t26), (2, 1, t28)]) (Pos.plusT 6 σ1.next) (σ1.bumpT 15) fun t29 σ2 =>
C 25 [(E 3), t29] σ2 fun t30 σ3 =>
Sure (SameO (vLoadN 19 t33 σ3) t34) <|
Som (binA .add .num t30 (.str [32])) fun t31 =>
C 26 [t34] σ3 fun t35 σ4 =>
Som (binA .add .num t31 t35) fun t36 =>
Som (vFieldAddr 0 (E 1)) fun t37 =>
Som (vLoad1 t37 σ4) fun t38 =>
Som (binA .eql .num t38 (.int .i64 2)) fun t39 =>
WIf t39 (
Som (vFieldAddr 23 (E 1)) fun t40 =>
Som (vFieldAddr 0 t40) fun t41 =>
Som (vLoad1 t41 σ4) fun t42 =>
Ala (aAllocV [(.int .i64 0)]) σ4 fun t5 σ5 =>
Eff (storeW 1 t5 t42 σ5) fun _ σ6 =>
Som (vFieldAddr 23 (E 1)) fun t44 =>
Som (vFieldAddr 1 t44) fun t45 =>
Som (vFieldAddr 23 (E 1)) fun t46 =>
Som (vFieldAddr 2 t46) fun t47 =>
Som (vFieldAddr 23 (E 1)) fun t48 =>
Som (vFieldAddr 3 t48) fun t49 =>
Ala (aSliceV 1 [.nptr] 4 [(0, 1, t5), (1, 1, t45), (2, 1, t47), (3, 1, t49)]) σ6 fun t50 σ7 =>
C 25 [(.str [58]), t50] σ7 fun t51 σ8 =>
Som (binA .add .num t36 t51) fun t52 =>
Ret [some t52] σ8 Q) (
Ret [some t36] σ4 Q))
theorem f11.p0_eq (C : CW) (Q : AVal → S → Prop) (E : En) (σ : S) : f11.p0 C Q  E σ = wC C f11.c0 E σ (retK f11.res Q) := by kernel_rfl
abbrev f11.J0 (C : CW) (Q : AVal → S → Prop) (E : En) (σ : S) : Prop := wC C f11.c0 E σ (retK f11.res Q)
set_option maxRecDepth 20000 in
theorem f11.p0_of {C : CW} {Q : AVal → S → Prop} {E : En} {σ : S} (h : f11.p0 C Q  E σ) : f11.J0 C Q E σ := Eq.mp (f11.p0_eq C Q  E σ) h
noncomputable def f11.body (R0 : PC) : PC := (.seq (.ops [oa 1 (.box (ot 0)), oq 2 (.mov (.val (.str [])))]) (.seq (.ops [oq 3 (.mov (.val (.str [])))]) (.seq (.seq (.ops [oq 6 (.fieldAddr 0 (ot 1)), oq 7 (.load1 (ot 6))]) (.block 0 (.seq (.ops [oq 9 (.bin .eql .num (ot 7) (.val (.int .i64 1))), oq 8 (.mov (ot 9))]) (.cond (ot 8) (.ops [oq 3 (.mov (.val (.str [105, 110, 118, 111, 107, 101, 100])))]) (.seq (.ops [oq 11 (.bin .eql .num (ot 7) (.val (.int .i64 2))), oq 10 (.mov (ot 11))]) (.cond (ot 10) (.ops [oq 3 (.mov (.val (.str [97, 110, 115, 119, 101, 114, 101, 100])))]) (.seq (.ops [oq 13 (.bin .eql .num (ot 7) (.val (.int .i64 3))), oq 12 (.mov (ot 13))]) (.cond (ot 12) (.ops [oq 3 (.mov (.val (.str [114, 101, 102, 117, 115, 101, 100])))]) .skip)))))))) R0)))
noncomputable def f11.fn : PFn := .code (slotsN 54) (f11.body f11.c0) f11.res
noncomputable def f11 (C : CW) (R0 : PC) (a0 : AVal) (σ : S) (Q : AVal → S → Prop) : Prop :=
Ala (aBoxV a0) σ fun t1 σ1 =>
Som (vFieldAddr 0 t1) fun t6 =>
Som (vLoad1 t6 σ1) fun t7 =>
Som (binA .eql .num t7 (.int .i64 1)) fun t9 =>
WIf t9 (
wC C R0 (((((((((E0.set 0 a0).set 1 t1).set 2 (.str [])).set 3 (.str [])).set 6 t6).set 7 t7).set 9 t9).set 8 t9).set 3 (.str [105, 110, 118, 111, 107, 101, 100])) σ1 (retK f11.res Q)) (
Som (binA .eql .num t7 (.int .i64 2)) fun t11 =>
WIf t11 (
wC C R0 (((((((((((E0.set 0 a0).set 1 t1).set 2 (.str [])).set 3 (.str [])).set 6 t6).set 7 t7).set 9 t9).set 8 t9).set 11 t11).set 10 t11).set 3 (.str [97, 110, 115, 119, 101, 114, 101, 100])) σ1 (retK f11.res Q)) (
Som (binA .eql .num t7 (.int .i64 3)) fun t13 =>
WIf t13 (
wC C R0 (((((((((((((E0.set 0 a0).set 1 t1).set 2 (.str [])).set 3 (.str [])).set 6 t6).set 7 t7).set 9 t9).set 8 t9).set 11 t11).set 10 t11).set 13 t13).set 12 t13).set 3 (.str [114, 101, 102, 117, 115, 101, 100])) σ1 (retK f11.res Q)) (
wC C R0 ((((((((((((E0.set 0 a0).set 1 t1).set 2 (.str [])).set 3 (.str [])).set 6 t6).set 7 t7).set 9 t9).set 8 t9).set 11 t11).set 10 t11).set 13 t13).set 12 t13) σ1 (retK f11.res Q))))
theorem f11_eq (C : CW) (R0 : PC) (a0 : AVal) (σ : S) (Q : AVal → S → Prop) : f11 C R0  a0 σ Q = wC C (f11.body R0) (E0.set 0 a0) σ (retK f11.res Q) := by kernel_rfl
theorem f11_ent (a0 : AVal) : enterE [a0] (slotsN 54) E0 = some (E0.set 0 a0) := by kernel_rfl
set_option maxRecDepth 20000 in
theorem f11_wf {tab : Nat → Option PFn} (ht : tab 11 = some f11.fn) {a0 : AVal} {σ : S} {Q : AVal → S → Prop} (h : f11 (WF tab) f11.c0  a0 σ Q) : WF tab 11 [a0] σ Q := wFn_sound ht (wFn_code (f11_ent a0) (Eq.mp (f11_eq (WF tab) f11.c0  a0 σ Q) h))
noncomputable def f12.c0 : PC := (.seq (.ops [oq 14 (.fieldAddr 2 (ot 1)), oq 15 (.fieldAddr 2 (ot 14)), oq 16 (.loadN 19 (ot 15)), oe 17 (.call 27 [(ot 16)]), oq 4 (.mov (ot 17))]) (.seq (.seq (.ops [oq 18 (.mov (ot 3)), oq 19 (.bin .eql .num (ot 18) (.val (.str []))), oq 20 (.mov (ot 19)), oqg 21 20 false (.mov (ot 4)), oqg 22 20 false (.bin .eql .num (ot 21) (.val (.str []))), oq 23 (.pick (ot 20) (.val (.bool true)) (ot 22))]) (.cond (ot 23) (.seq (.ops [oq 2 (.mov (.val (.str [])))]) .ret) .skip)) (.seq (.ops [oq 24 (.mov (ot 3)), oq 25 (.fieldAddr 1 (ot 1)), oq 26 (.load1 (ot 25)), oq 27 (.fieldAddr 2 (ot 1)), oq 28 (.fieldAddr 0 (ot 27)), oq 29 (.load1 (ot 28)), oq 30 (.fieldAddr 2 (ot 1)), oq 31 (.fieldAddr 1 (ot 30)), oq 32 (.load1 (ot 31)), oa 33 (.bslice 1 [(.int .i64 0)] 3 [(0, 1, (ot 26)), (1, 1, (ot 29)), (2, 1, (ot 32))]), oe 34 (.call 28 [(ot 24), (ot 33)]), oq 35 (.bin .add .num (ot 34) (.val (.str [32]))), oq 36 (.mov (ot 4)), oq 37 (.bin .add .num (ot 35) (ot 36)), oq 5 (.mov (ot 37))]) (.seq (.seq (.ops [oq 38 (.fieldAddr 0 (ot 1)), oq 39 (.load1 (ot 38)), oq 40 (.bin .eql .num (ot 39) (.val (.int .i64 2)))]) (.cond (ot 40) (.ops [oq 41 (.mov (ot 5)), oq 42 (.bin .add .num (ot 41) (.val (.str [58]))), oq 43 (.fieldAddr 23 (ot 1)), oq 44 (.fieldAddr 0 (ot 43)), oq 45 (.load1 (ot 44)), oq 46 (.fieldAddr 23 (ot 1)), oq 47 (.fieldAddr 1 (ot 46)), oq 48 (.load1 (ot 47)), oq 49 (.fieldAddr 23 (ot 1)), oq 50 (.fieldAddr 2 (ot 49)), oq 51 (.load1 (ot 50)), oq 52 (.fieldAddr 23 (ot 1)), oq 53 (.fieldAddr 3 (ot 52)), oq 54 (.load1 (ot 53)), oa 55 (.bslice 1 [(.int .i64 0)] 4 [(0, 1, (ot 45)), (1, 1, (ot 48)), (2, 1, (ot 51)), (3, 1, (ot 54))]), oe 56 (.call 28 [(ot 42), (ot 55)]), oq 5 (.mov (ot 56))]) .skip)) (.seq (.ops [oq 57 (.mov (ot 5)), oq 2 (.mov (ot 57))]) .ret)))))
noncomputable def f12.res : List PRes := [.tmp (sn 2)]
noncomputable def f12.p0 (C : CW) (Q : AVal → S → Prop) (E : En) (σ : S) : Prop :=
Som (vFieldAddr 2 (E 1)) fun t14 =>
Som (vFieldAddr 2 t14) fun t15 =>
Som (vLoadN 19 t15 σ) fun t16 =>
C 27 [t16] σ fun t17 σ1 =>
Som (binA .eql .num (E 3) (.str [])) fun t19 =>
Som (gq1 (isB t19 false) (some t17)) fun t21 =>
Som (gq1 (isB t19 false) (binA .eql .num t21 (.str []))) fun t22 =>
Som (vPick t19 (.bool true) t22) fun t23 =>
WIf t23 (
Ret [some (.str [])] σ1 Q) (
Som (vFieldAddr 1 (E 1)) fun t25 =>
Som (vLoad1 t25 σ1) fun t26 =>
Som (vFieldAddr 2 (E 1)) fun t27 =>
Som (vFieldAddr 0 t27) fun t28 =>
Som (vLoad1 t28 σ1) fun t29 =>
Som (vFieldAddr 2 (E 1)) fun t30 =>
Som (vFieldAddr 1 t30) fun t31 =>
Som (vLoad1 t31 σ1) fun t32 =>
Ala (aSliceV 1 [(.int .i64 0)] 3 [(0, 1, t26), (1, 1, t29), (2, 1, t32)]) σ1 fun t33 σ2 =>
C 28 [(E 3), t33] σ2 fun t34 σ3 =>
Som (binA .add .num t34 (.str [32])) fun t35 =>
Som (binA .add .num t35 t17) fun t37 =>
Som (vFieldAddr 0 (E 1)) fun t38 =>
Som (vLoad1 t38 σ3) fun t39 =>
Som (binA .eql .num t39 (.int .i64 2)) fun t40 =>
WIf t40 (
Som (binA .add .num t37 (.str [58])) fun t42 =>
Som (vFieldAddr 23 (E 1)) fun t43 =>
Som (vFieldAddr 0 t43) fun t44 =>
Som (vLoad1 t44 σ3) fun t45 =>
Som (vFieldAddr 23 (E 1)) fun t46 =>
Som (vFieldAddr 1 t46) fun t47 =>
Som (vLoad1 t47 σ3) fun t48 =>
Som (vFieldAddr 23 (E 1)) fun t49 =>
Som (vFieldAddr 2 t49) fun t50 =>
Som (vLoad1 t50 σ3) fun t51 =>
Som (vFieldAddr 23 (E 1)) fun t52 =>
Som (vFieldAddr 3 t52) fun t53 =>
Som (vLoad1 t53 σ3) fun t54 =>
Ala (aSliceV 1 [(.int .i64 0)] 4 [(0, 1, t45), (1, 1, t48), (2, 1, t51), (3, 1, t54)]) σ3 fun t55 σ4 =>
C 28 [t42, t55] σ4 fun t56 σ5 =>
Ret [some t56] σ5 Q) (
Ret [some t37] σ3 Q))
theorem f12.p0_eq (C : CW) (Q : AVal → S → Prop) (E : En) (σ : S) : f12.p0 C Q  E σ = wC C f12.c0 E σ (retK f12.res Q) := by kernel_rfl
abbrev f12.J0 (C : CW) (Q : AVal → S → Prop) (E : En) (σ : S) : Prop := wC C f12.c0 E σ (retK f12.res Q)
set_option maxRecDepth 20000 in
theorem f12.p0_of {C : CW} {Q : AVal → S → Prop} {E : En} {σ : S} (h : f12.p0 C Q  E σ) : f12.J0 C Q E σ := Eq.mp (f12.p0_eq C Q  E σ) h
noncomputable def f12.body (R0 : PC) : PC := (.seq (.ops [oa 1 (.box (ot 0)), oq 2 (.mov (.val (.str [])))]) (.seq (.ops [oq 3 (.mov (.val (.str [])))]) (.seq (.seq (.ops [oq 6 (.fieldAddr 0 (ot 1)), oq 7 (.load1 (ot 6))]) (.block 0 (.seq (.ops [oq 9 (.bin .eql .num (ot 7) (.val (.int .i64 1))), oq 8 (.mov (ot 9))]) (.cond (ot 8) (.ops [oq 3 (.mov (.val (.str [105, 110, 118, 111, 107, 101, 100])))]) (.seq (.ops [oq 11 (.bin .eql .num (ot 7) (.val (.int .i64 2))), oq 10 (.mov (ot 11))]) (.cond (ot 10) (.ops [oq 3 (.mov (.val (.str [97, 110, 115, 119, 101, 114, 101, 100])))]) (.seq (.ops [oq 13 (.bin .eql .num (ot 7) (.val (.int .i64 3))), oq 12 (.mov (ot 13))]) (.cond (ot 12) (.ops [oq 3 (.mov (.val (.str [114, 101, 102, 117, 115, 101, 100])))]) .skip)))))))) R0)))
noncomputable def f12.fn : PFn := .code (slotsN 58) (f12.body f12.c0) f12.res
noncomputable def f12 (C : CW) (R0 : PC) (a0 : AVal) (σ : S) (Q : AVal → S → Prop) : Prop :=
Ala (aBoxV a0) σ fun t1 σ1 =>
Som (vFieldAddr 0 t1) fun t6 =>
Som (vLoad1 t6 σ1) fun t7 =>
Som (binA .eql .num t7 (.int .i64 1)) fun t9 =>
WIf t9 (
wC C R0 (((((((((E0.set 0 a0).set 1 t1).set 2 (.str [])).set 3 (.str [])).set 6 t6).set 7 t7).set 9 t9).set 8 t9).set 3 (.str [105, 110, 118, 111, 107, 101, 100])) σ1 (retK f12.res Q)) (
Som (binA .eql .num t7 (.int .i64 2)) fun t11 =>
WIf t11 (
wC C R0 (((((((((((E0.set 0 a0).set 1 t1).set 2 (.str [])).set 3 (.str [])).set 6 t6).set 7 t7).set 9 t9).set 8 t9).set 11 t11).set 10 t11).set 3 (.str [97, 110, 115, 119, 101, 114, 101, 100])) σ1 (retK f12.res Q)) (
Som (binA .eql .num t7 (.int .i64 3)) fun t13 =>
WIf t13 (
wC C R0 (((((((((((((E0.set 0 a0).set 1 t1).set 2 (.str [])).set 3 (.str [])).set 6 t6).set 7 t7).set 9 t9).set 8 t9).set 11 t11).set 10 t11).set 13 t13).set 12 t13).set 3 (.str [114, 101, 102, 117, 115, 101, 100])) σ1 (retK f12.res Q)) (
wC C R0 ((((((((((((E0.set 0 a0).set 1 t1).set 2 (.str [])).set 3 (.str [])).set 6 t6).set 7 t7).set 9 t9).set 8 t9).set 11 t11).set 10 t11).set 13 t13).set 12 t13) σ1 (retK f12.res Q))))
theorem f12_eq (C : CW) (R0 : PC) (a0 : AVal) (σ : S) (Q : AVal → S → Prop) : f12 C R0  a0 σ Q = wC C (f12.body R0) (E0.set 0 a0) σ (retK f12.res Q) := by kernel_rfl
theorem f12_ent (a0 : AVal) : enterE [a0] (slotsN 58) E0 = some (E0.set 0 a0) := by kernel_rfl
set_option maxRecDepth 20000 in
theorem f12_wf {tab : Nat → Option PFn} (ht : tab 12 = some f12.fn) {a0 : AVal} {σ : S} {Q : AVal → S → Prop} (h : f12 (WF tab) f12.c0  a0 σ Q) : WF tab 12 [a0] σ Q := wFn_sound ht (wFn_code (f12_ent a0) (Eq.mp (f12_eq (WF tab) f12.c0  a0 σ Q) h))
noncomputable def f13.res : List PRes := [.tmp (sn 4)]
noncomputable def f13.body : PC := (.seq (.ops [oq 4 (.mov (.val .nsl))]) (.seq (.ops [oq 5 (.mov (ot 0)), oq 6 (.mov (ot 1)), oe 7 (.call 29 [(ot 5), (ot 6), (.val (.int .i64 0)), (.val (.int .i64 (-1)))]), oq 4 (.mov (ot 7))]) .ret))
noncomputable def f13.fn : PFn := .code (slotsN 8) f13.body f13.res
noncomputable def f13 (C : CW) (a0 a1 : AVal) (σ : S) (Q : AVal → S → Prop) : Prop :=
C 29 [a0, a1, (.int .i64 0), (.int .i64 (-1))] σ fun t7 σ1 =>
Ret [some t7] σ1 Q
theorem f13_eq (C : CW) (a0 a1 : AVal) (σ : S) (Q : AVal → S → Prop) : f13 C   a0 a1 σ Q = wC C f13.body ((E0.set 0 a0).set 1 a1) σ (retK f13.res Q) := by kernel_rfl
theorem f13_ent (a0 a1 : AVal) : enterE [a0, a1] (slotsN 8) E0 = some ((E0.set 0 a0).set 1 a1) := by kernel_rfl
set_option maxRecDepth 20000 in
theorem f13_wf {tab : Nat → Option PFn} (ht : tab 13 = some f13.fn) {a0 a1 : AVal} {σ : S} {Q : AVal → S → Prop} (h : f13 (WF tab)   a0 a1 σ Q) : WF tab 13 [a0, a1] σ Q := wFn_sound ht (wFn_code (f13_ent a0 a1) (Eq.mp (f13_eq (WF tab)   a0 a1 σ Q) h))
end Go.Am
