/-
  Functions of the program as conditions. Conditions: none.
-/
import Derived.Test.YtdolmkdbpnlegaaGreatDoorK33
import Derived.KernelRfl
namespace Go.Am
noncomputable def f3.res : List PRes := [.tmp (sn 2)]
noncomputable def f3.body : PC := (.seq (.ops [oq 2 (.mov (.val (.bool false)))]) (.seq (.ops [oq 8 (.mov (ot 0)), oe 9 (.call 6 [(ot 8)]), oq 7 (.mov (ot 9)), oq 10 (.extract 0 (ot 7)), oq 11 (.extract 1 (ot 7)), oa 3 (.alloc [(.int .i64 0), (.int .i64 0), (.int .i64 0), (.int .i64 0), (.int .i64 0), (.int .i64 0), (.int .i64 0), (.int .i64 0), (.int .i64 0), (.int .i64 0), (.int .i64 0), (.int .i64 0), (.int .i64 0), (.int .i64 0), (.int .i64 0), (.int .i64 0), (.int .i64 0), (.int .i64 0), (.int .i64 0), (.int .i64 0), (.int .i64 0), (.int .i64 0), (.bool false), (.int .i64 0), (.int .i64 0)]), ⟨none, none, (.e (.store 25 (ot 3) (ot 10)))⟩, oq 4 (.mov (ot 11))]) (.seq (.ops [oq 13 (.mov (ot 0)), oe 14 (.call 7 [(ot 13)]), oq 12 (.mov (ot 14)), oq 15 (.extract 0 (ot 12)), oq 16 (.extract 1 (ot 12)), oa 5 (.alloc [(.int .i64 0), (.int .i64 0), (.int .i64 0), (.int .i64 0), (.int .i64 0), (.int .i64 0), (.int .i64 0), (.int .i64 0), (.int .i64 0), (.int .i64 0), (.int .i64 0), (.int .i64 0), (.int .i64 0), (.int .i64 0), (.int .i64 0), (.int .i64 0), (.int .i64 0), (.int .i64 0), (.int .i64 0), (.int .i64 0), (.int .i64 0), (.int .i64 0), (.bool false), (.int .i64 0), (.int .i64 0)]), ⟨none, none, (.e (.store 25 (ot 5) (ot 15)))⟩, oq 6 (.mov (ot 16))]) (.seq (.ops [oq 17 (.loadN 25 (ot 3)), oq 18 (.loadN 25 (ot 5)), oq 19 (.eqAgg [.i, .i, .i, .i, .i, .i, .i, .i, .i, .i, .i, .i, .i, .i, .i, .i, .i, .i, .i, .i, .i, .i, .b, .i, .i] false (ot 17) (ot 18)), oq 20 (.mov (ot 19)), oqg 21 20 true (.mov (ot 4)), oqg 22 20 true (.mov (ot 6)), oqg 23 20 true (.bin .eql .num (ot 21) (ot 22)), oq 24 (.pick (ot 20) (ot 23) (.val (.bool false))), oq 25 (.mov (ot 24)), oeg 26 25 true (.call 8 []), oq 27 (.pick (ot 25) (ot 26) (.val (.bool false))), oq 2 (.mov (ot 27))]) .ret))))
noncomputable def f3.fn : PFn := .code (slotsN 28) f3.body f3.res
noncomputable def f3 (C : CW) (a0 : AVal) (σ : S) (Q : AVal → S → Prop) : Prop :=
C 6 [a0] σ fun t9 σ1 =>
Som (vExtract 0 t9) fun t10 =>
Som (vExtract 1 t9) fun t11 =>
Ala (aAllocV [(.int .i64 0), (.int .i64 0), (.int .i64 0), (.int .i64 0), (.int .i64 0), (.int .i64 0), (.int .i64 0), (.int .i64 0), (.int .i64 0), (.int .i64 0), (.int .i64 0), (.int .i64 0), (.int .i64 0), (.int .i64 0), (.int .i64 0), (.int .i64 0), (.int .i64 0), (.int .i64 0), (.int .i64 0), (.int .i64 0), (.int .i64 0), (.int .i64 0), (.bool false), (.int .i64 0), (.int .i64 0)]) σ1 fun t3 σ2 =>
Eff (storeW 25 t3 t10 σ2) fun _ σ3 =>
C 7 [a0] σ3 fun t14 σ4 =>
Som (vExtract 0 t14) fun t15 =>
Som (vExtract 1 t14) fun t16 =>
Ala (aAllocV [(.int .i64 0), (.int .i64 0), (.int .i64 0), (.int .i64 0), (.int .i64 0), (.int .i64 0), (.int .i64 0), (.int .i64 0), (.int .i64 0), (.int .i64 0), (.int .i64 0), (.int .i64 0), (.int .i64 0), (.int .i64 0), (.int .i64 0), (.int .i64 0), (.int .i64 0), (.int .i64 0), (.int .i64 0), (.int .i64 0), (.int .i64 0), (.int .i64 0), (.bool false), (.int .i64 0), (.int .i64 0)]) σ4 fun t5 σ5 =>
Eff (storeW 25 t5 t15 σ5) fun _ σ6 =>
Som (vLoadN 25 t3 σ6) fun t17 =>
Som (vLoadN 25 t5 σ6) fun t18 =>
Som (vEqAgg [.i, .i, .i, .i, .i, .i, .i, .i, .i, .i, .i, .i, .i, .i, .i, .i, .i, .i, .i, .i, .i, .i, .b, .i, .i] false t17 t18) fun t19 =>
Som (gq1 (isB t19 true) (some t11)) fun t21 =>
Som (gq1 (isB t19 true) (some t16)) fun t22 =>
Som (gq1 (isB t19 true) (binA .eql .num t21 t22)) fun t23 =>
Som (vPick t19 t23 (.bool false)) fun t24 =>
gE1 (isB t24 true) (fun K => C 8 [] σ6 K) σ6 fun t26 σ7 =>
Som (vPick t24 t26 (.bool false)) fun t27 =>
Ret [some t27] σ7 Q
theorem f3_eq (C : CW) (a0 : AVal) (σ : S) (Q : AVal → S → Prop) : f3 C   a0 σ Q = wC C f3.body (E0.set 0 a0) σ (retK f3.res Q) := by kernel_rfl
theorem f3_ent (a0 : AVal) : enterE [a0] (slotsN 28) E0 = some (E0.set 0 a0) := by kernel_rfl
set_option maxRecDepth 20000 in
theorem f3_wf {tab : Nat → Option PFn} (ht : tab 3 = some f3.fn) {a0 : AVal} {σ : S} {Q : AVal → S → Prop} (h : f3 (WF tab)   a0 σ Q) : WF tab 3 [a0] σ Q := wFn_sound ht (wFn_code (f3_ent a0) (Eq.mp (f3_eq (WF tab)   a0 σ Q) h))
noncomputable def f6.c1 : PC := (.seq (.ops [oq 54 (.build [(.int .i64 0), (.int .i64 0), (.int .i64 0), (.int .i64 0), (.int .i64 0), (.int .i64 0), (.int .i64 0), (.int .i64 0), (.int .i64 0), (.int .i64 0), (.int .i64 0), (.int .i64 0), (.int .i64 0), (.int .i64 0), (.int .i64 0), (.int .i64 0), (.int .i64 0), (.int .i64 0), (.int .i64 0), (.int .i64 0), (.int .i64 0), (.int .i64 0), (.bool false), (.int .i64 0), (.int .i64 0)] []), ⟨none, none, (.e (.store 25 (ot 2) (ot 54)))⟩, oq 3 (.mov (.val (.int .i64 4)))]) .ret)
noncomputable def f6.c0 : PC := (.seq (.seq (.ops [oq 30 (.mov (ot 7)), oq 31 (.bin .leq .num (ot 30) (.val (.int .i64 12)))]) (.cond (ot 31) .skip (.exit 0))) (.seq (.block 1 (.seq (.ops [oq 34 (.mov (ot 7)), oq 35 (.build [(.int .i64 0), (.int .i64 0), (.int .i64 0), (.int .i64 0), (.int .i64 0), (.int .i64 0), (.int .i64 0), (.int .i64 0), (.int .i64 0), (.int .i64 0), (.int .i64 0), (.int .i64 0), (.int .i64 0), (.int .i64 0), (.int .i64 0), (.int .i64 0), (.int .i64 0), (.int .i64 0), (.int .i64 0), (.int .i64 0), (.int .i64 0), (.int .i64 0), (.bool false), (.int .i64 0), (.int .i64 0)] [(0, 1, (ot 34))]), oa 8 (.alloc [(.int .i64 0), (.int .i64 0), (.int .i64 0), (.int .i64 0), (.int .i64 0), (.int .i64 0), (.int .i64 0), (.int .i64 0), (.int .i64 0), (.int .i64 0), (.int .i64 0), (.int .i64 0), (.int .i64 0), (.int .i64 0), (.int .i64 0), (.int .i64 0), (.int .i64 0), (.int .i64 0), (.int .i64 0), (.int .i64 0), (.int .i64 0), (.int .i64 0), (.bool false), (.int .i64 0), (.int .i64 0)]), ⟨none, none, (.e (.store 25 (ot 8) (ot 35)))⟩]) (.seq (.ops [oq 36 (.mov (ot 7)), oe 37 (.call 15 [(ot 36)]), oq 9 (.mov (ot 37))]) (.seq (.draw 15 [⟨0, oq 38 (.mov (ot 9)), []⟩, ⟨1, oq 39 (.bin .neq .num (ot 38) (.val (.str []))), []⟩, ⟨2, oq 40 (.mov (ot 39)), []⟩, ⟨3, oqg 41 40 true (.mov (ot 9)), []⟩, ⟨4, oqg 42 40 true (.mov (ot 4)), []⟩, ⟨5, oqg 43 40 true (.ixSl 1 (ot 42) (.val (.int .i64 0))), []⟩, ⟨6, oqg 44 40 true (.load1 (ot 43)), []⟩, ⟨7, oqg 45 40 true (.bin .eql .num (ot 41) (ot 44)), []⟩, ⟨8, oq 46 (.pick (ot 40) (ot 45) (.val (.bool false))), []⟩, ⟨9, oq 47 (.mov (ot 46)), []⟩, ⟨10, oqg 48 47 true (.mov (ot 4)), []⟩, ⟨11, oqg 49 47 true (.slSl 1 (ot 48) (some (.val (.int .i64 1))) none none), []⟩, ⟨12, oeg 50 47 true (.call 17 [(ot 8)]), []⟩, ⟨13, oeg 51 47 true (.call 16 [(ot 49), (ot 50)]), []⟩, ⟨14, oq 52 (.pick (ot 47) (ot 51) (.val (.bool false))), []⟩]) (.cond (ot 52) (.seq (.ops [oq 53 (.loadN 25 (ot 8)), ⟨none, none, (.e (.store 25 (ot 2) (ot 53)))⟩, oq 3 (.mov (.val (.int .i64 0)))]) .ret) .skip))))) (.ops [oq 32 (.mov (ot 7)), oq 33 (.bin .add .num (ot 32) (.val (.int .i64 1))), oq 7 (.mov (ot 33))])))
noncomputable def f6.res : List PRes := [.cellN 25 (sn 2), .tmp (sn 3)]
noncomputable def f6.p1 (C : CW) (Q : AVal → S → Prop) (E : En) (σ : S) : Prop :=
Som (vBuild [(.int .i64 0), (.int .i64 0), (.int .i64 0), (.int .i64 0), (.int .i64 0), (.int .i64 0), (.int .i64 0), (.int .i64 0), (.int .i64 0), (.int .i64 0), (.int .i64 0), (.int .i64 0), (.int .i64 0), (.int .i64 0), (.int .i64 0), (.int .i64 0), (.int .i64 0), (.int .i64 0), (.int .i64 0), (.int .i64 0), (.int .i64 0), (.int .i64 0), (.bool false), (.int .i64 0), (.int .i64 0)] []) fun t54 =>
Eff (storeW 25 (E 2) t54 σ) fun _ σ1 =>
Ret [vLoadN 25 (E 2) σ1, some (.int .i64 4)] σ1 Q
theorem f6.p1_eq (C : CW) (Q : AVal → S → Prop) (E : En) (σ : S) : f6.p1 C Q  E σ = wC C f6.c1 E σ (retK f6.res Q) := by kernel_rfl
abbrev f6.J1 (C : CW) (Q : AVal → S → Prop) (E : En) (σ : S) : Prop := wC C f6.c1 E σ (retK f6.res Q)
set_option maxRecDepth 20000 in
theorem f6.p1_of {C : CW} {Q : AVal → S → Prop} {E : En} {σ : S} (h : f6.p1 C Q  E σ) : f6.J1 C Q E σ := Eq.mp (f6.p1_eq C Q  E σ) h
noncomputable def f6.p0 (C : CW) (Q : AVal → S → Prop) (R0 R1 : PC) (E : En) (σ : S) : Prop :=
Som (binA .leq .num (E 7) (.int .i64 12)) fun t31 =>
WIf t31 (
Som (vBuild [(.int .i64 0), (.int .i64 0), (.int .i64 0), (.int .i64 0), (.int .i64 0), (.int .i64 0), (.int .i64 0), (.int .i64 0), (.int .i64 0), (.int .i64 0), (.int .i64 0), (.int .i64 0), (.int .i64 0), (.int .i64 0), (.int .i64 0), (.int .i64 0), (.int .i64 0), (.int .i64 0), (.int .i64 0), (.int .i64 0), (.int .i64 0), (.int .i64 0), (.bool false), (.int .i64 0), (.int .i64 0)] [(0, 1, (E 7))]) fun t35 =>
Ala (aAllocV [(.int .i64 0), (.int .i64 0), (.int .i64 0), (.int .i64 0), (.int .i64 0), (.int .i64 0), (.int .i64 0), (.int .i64 0), (.int .i64 0), (.int .i64 0), (.int .i64 0), (.int .i64 0), (.int .i64 0), (.int .i64 0), (.int .i64 0), (.int .i64 0), (.int .i64 0), (.int .i64 0), (.int .i64 0), (.int .i64 0), (.int .i64 0), (.int .i64 0), (.bool false), (.int .i64 0), (.int .i64 0)]) σ fun t8 σ1 =>
Eff (storeW 25 t8 t35 σ1) fun _ σ2 =>
C 15 [(E 7)] σ2 fun t37 σ3 =>
Som (binA .neq .num t37 (.str [])) fun t39 =>
Som (gq1 (isB t39 true) (some t37)) fun t41 =>
Som (gq1 (isB t39 true) (some (E 4))) fun t42 =>
Som (gq1 (isB t39 true) (vIxSl 1 t42 (.int .i64 0))) fun t43 =>
Som (gq1 (isB t39 true) (vLoad1 t43 (σ3.bumpT 15))) fun t44 =>
Som (gq1 (isB t39 true) (binA .eql .num t41 t44)) fun t45 =>
Som (vPick t39 t45 (.bool false)) fun t46 =>
Som (gq1 (isB t46 true) (some (E 4))) fun t48 =>
Som (gq1 (isB t46 true) (vSlSl 1 t48 (some (.int .i64 1)) none none)) fun t49 =>
gE1 (isB t46 true) (fun K => C 17 [t8] (σ3.bumpT 15) K) (σ3.bumpT 15) fun t50 σ4 =>
gE1 (isB t46 true) (fun K => C 16 [t49, t50] σ4 K) σ4 fun t51 σ5 =>
Som (vPick t46 t51 (.bool false)) fun t52 =>
WIf t52 (
Som (vLoadN 25 t8 σ5) fun t53 =>
Eff (storeW 25 (E 2) t53 σ5) fun _ σ6 =>
Ret [vLoadN 25 (E 2) σ6, some (.int .i64 0)] σ6 Q) (
Som (binA .add .num (E 7) (.int .i64 1)) fun t33 =>
wC C (.loop R0) ((((((((((((((((((((((((((E.set 30 (E 7)).set 31 t31).set 34 (E 7)).set 35 t35).set 8 t8).set 36 (E 7)).set 37 t37).set 9 t37).set 38 t37).set 39 t39).set 40 t39).set 41 t41).set 42 t42).set 43 t43).set 44 t44).set 45 t45).set 46 t46).set 47 t46).set 48 t48).set 49 t49).set 50 t50).set 51 t51).set 52 t52).set 32 (E 7)).set 33 t33).set 7 t33) σ5 (blockK 0 (seqK (wC C R1) (retK f6.res Q))))) (
wC C R1 ((E.set 30 (E 7)).set 31 t31) σ (retK f6.res Q))
theorem f6.p0_eq (C : CW) (Q : AVal → S → Prop) (R0 R1 : PC) (E : En) (σ : S) : f6.p0 C Q R0 R1 E σ = wC C f6.c0 E σ (loopK C R0 (blockK 0 (seqK (wC C R1) (retK f6.res Q)))) := by kernel_rfl
abbrev f6.L0 (C : CW) (Q : AVal → S → Prop) (E : En) (σ : S) : Prop := wC C (.loop f6.c0) E σ (blockK 0 (seqK (wC C f6.c1) (retK f6.res Q)))
set_option maxRecDepth 20000 in
theorem f6.p0_of {tab : Nat → Option PFn} {Q : AVal → S → Prop} {E : En} {σ : S} (h : f6.p0 (WF tab) Q f6.c0 f6.c1 E σ) : f6.L0 (WF tab) Q E σ := wLoop_step (Eq.mp (f6.p0_eq (WF tab) Q f6.c0 f6.c1 E σ) h)
noncomputable def f6.body (R0 R1 : PC) : PC := (.seq (.ops [oa 2 (.alloc [(.int .i64 0), (.int .i64 0), (.int .i64 0), (.int .i64 0), (.int .i64 0), (.int .i64 0), (.int .i64 0), (.int .i64 0), (.int .i64 0), (.int .i64 0), (.int .i64 0), (.int .i64 0), (.int .i64 0), (.int .i64 0), (.int .i64 0), (.int .i64 0), (.int .i64 0), (.int .i64 0), (.int .i64 0), (.int .i64 0), (.int .i64 0), (.int .i64 0), (.bool false), (.int .i64 0), (.int .i64 0)]), oq 3 (.mov (.val (.int .i64 0)))]) (.seq (.seq (.ops [oq 10 (.mov (ot 0)), oq 11 (.lenStr (ot 10)), oq 12 (.bin .gtr .num (ot 11) (.val (.int .i64 400)))]) (.cond (ot 12) (.seq (.ops [oq 13 (.build [(.int .i64 0), (.int .i64 0), (.int .i64 0), (.int .i64 0), (.int .i64 0), (.int .i64 0), (.int .i64 0), (.int .i64 0), (.int .i64 0), (.int .i64 0), (.int .i64 0), (.int .i64 0), (.int .i64 0), (.int .i64 0), (.int .i64 0), (.int .i64 0), (.int .i64 0), (.int .i64 0), (.int .i64 0), (.int .i64 0), (.int .i64 0), (.int .i64 0), (.bool false), (.int .i64 0), (.int .i64 0)] []), ⟨none, none, (.e (.store 25 (ot 2) (ot 13)))⟩, oq 3 (.mov (.val (.int .i64 2)))]) .ret) .skip)) (.seq (.ops [oq 14 (.mov (ot 0)), oe 15 (.call 13 [(ot 14), (.val (.str [32]))]), oq 4 (.mov (ot 15))]) (.seq (.seq (.ops [oq 16 (.mov (ot 4)), oq 17 (.ixSl 1 (ot 16) (.val (.int .i64 0))), oq 18 (.load1 (ot 17)), oq 19 (.bin .eql .num (ot 18) (.val (.str [99, 97, 108, 108])))]) (.cond (ot 19) (.seq (.ops [oq 21 (.mov (ot 4)), oq 22 (.slSl 1 (ot 21) (some (.val (.int .i64 1))) none none), oe 23 (.call 14 [(ot 22)]), oq 20 (.mov (ot 23)), oq 24 (.extract 0 (ot 20)), oq 25 (.extract 1 (ot 20)), oa 5 (.alloc [(.int .i64 0), (.int .i64 0), (.int .i64 0), (.int .i64 0), (.int .i64 0), (.int .i64 0), (.int .i64 0), (.int .i64 0), (.int .i64 0), (.int .i64 0), (.int .i64 0), (.int .i64 0), (.int .i64 0), (.int .i64 0), (.int .i64 0), (.int .i64 0), (.int .i64 0), (.int .i64 0), (.int .i64 0), (.int .i64 0), (.int .i64 0), (.int .i64 0), (.bool false), (.int .i64 0), (.int .i64 0)]), ⟨none, none, (.e (.store 25 (ot 5) (ot 24)))⟩, oq 6 (.mov (ot 25))]) (.seq (.seq (.ops [oq 26 (.mov (ot 6)), oq 27 (.un .not (ot 26))]) (.cond (ot 27) (.seq (.ops [oq 28 (.build [(.int .i64 0), (.int .i64 0), (.int .i64 0), (.int .i64 0), (.int .i64 0), (.int .i64 0), (.int .i64 0), (.int .i64 0), (.int .i64 0), (.int .i64 0), (.int .i64 0), (.int .i64 0), (.int .i64 0), (.int .i64 0), (.int .i64 0), (.int .i64 0), (.int .i64 0), (.int .i64 0), (.int .i64 0), (.int .i64 0), (.int .i64 0), (.int .i64 0), (.bool false), (.int .i64 0), (.int .i64 0)] []), ⟨none, none, (.e (.store 25 (ot 2) (ot 28)))⟩, oq 3 (.mov (.val (.int .i64 4)))]) .ret) .skip)) (.seq (.ops [oq 29 (.loadN 25 (ot 5)), ⟨none, none, (.e (.store 25 (ot 2) (ot 29)))⟩, oq 3 (.mov (.val (.int .i64 0)))]) .ret))) .skip)) (.seq (.seq (.ops [oq 7 (.mov (.val (.int .i64 1)))]) (.block 0 (.loop R0))) R1)))))
noncomputable def f6.fn : PFn := .code (slotsN 55) (f6.body f6.c0 f6.c1) f6.res
noncomputable def f6 (C : CW) (R0 R1 : PC) (a0 : AVal) (σ : S) (Q : AVal → S → Prop) : Prop :=
Ala (aAllocV [(.int .i64 0), (.int .i64 0), (.int .i64 0), (.int .i64 0), (.int .i64 0), (.int .i64 0), (.int .i64 0), (.int .i64 0), (.int .i64 0), (.int .i64 0), (.int .i64 0), (.int .i64 0), (.int .i64 0), (.int .i64 0), (.int .i64 0), (.int .i64 0), (.int .i64 0), (.int .i64 0), (.int .i64 0), (.int .i64 0), (.int .i64 0), (.int .i64 0), (.bool false), (.int .i64 0), (.int .i64 0)]) σ fun t2 σ1 =>
Som (vLenStr a0) fun t11 =>
Som (binA .gtr .num t11 (.int .i64 400)) fun t12 =>
WIf t12 (
Som (vBuild [(.int .i64 0), (.int .i64 0), (.int .i64 0), (.int .i64 0), (.int .i64 0), (.int .i64 0), (.int .i64 0), (.int .i64 0), (.int .i64 0), (.int .i64 0), (.int .i64 0), (.int .i64 0), (.int .i64 0), (.int .i64 0), (.int .i64 0), (.int .i64 0), (.int .i64 0), (.int .i64 0), (.int .i64 0), (.int .i64 0), (.int .i64 0), (.int .i64 0), (.bool false), (.int .i64 0), (.int .i64 0)] []) fun t13 =>
Eff (storeW 25 t2 t13 σ1) fun _ σ2 =>
Ret [vLoadN 25 t2 σ2, some (.int .i64 2)] σ2 Q) (
C 13 [a0, (.str [32])] σ1 fun t15 σ2 =>
Som (vIxSl 1 t15 (.int .i64 0)) fun t17 =>
Som (vLoad1 t17 σ2) fun t18 =>
Som (binA .eql .num t18 (.str [99, 97, 108, 108])) fun t19 =>
WIf t19 (
Som (vSlSl 1 t15 (some (.int .i64 1)) none none) fun t22 =>
C 14 [t22] σ2 fun t23 σ3 =>
Som (vExtract 0 t23) fun t24 =>
Som (vExtract 1 t23) fun t25 =>
Ala (aAllocV [(.int .i64 0), (.int .i64 0), (.int .i64 0), (.int .i64 0), (.int .i64 0), (.int .i64 0), (.int .i64 0), (.int .i64 0), (.int .i64 0), (.int .i64 0), (.int .i64 0), (.int .i64 0), (.int .i64 0), (.int .i64 0), (.int .i64 0), (.int .i64 0), (.int .i64 0), (.int .i64 0), (.int .i64 0), (.int .i64 0), (.int .i64 0), (.int .i64 0), (.bool false), (.int .i64 0), (.int .i64 0)]) σ3 fun t5 σ4 =>
Eff (storeW 25 t5 t24 σ4) fun _ σ5 =>
Som (unA .not t25) fun t27 =>
WIf t27 (
Som (vBuild [(.int .i64 0), (.int .i64 0), (.int .i64 0), (.int .i64 0), (.int .i64 0), (.int .i64 0), (.int .i64 0), (.int .i64 0), (.int .i64 0), (.int .i64 0), (.int .i64 0), (.int .i64 0), (.int .i64 0), (.int .i64 0), (.int .i64 0), (.int .i64 0), (.int .i64 0), (.int .i64 0), (.int .i64 0), (.int .i64 0), (.int .i64 0), (.int .i64 0), (.bool false), (.int .i64 0), (.int .i64 0)] []) fun t28 =>
Eff (storeW 25 t2 t28 σ5) fun _ σ6 =>
Ret [vLoadN 25 t2 σ6, some (.int .i64 4)] σ6 Q) (
Som (vLoadN 25 t5 σ5) fun t29 =>
Eff (storeW 25 t2 t29 σ5) fun _ σ6 =>
Ret [vLoadN 25 t2 σ6, some (.int .i64 0)] σ6 Q)) (
wC C (.loop R0) ((((((((((((((E0.set 0 a0).set 2 t2).set 3 (.int .i64 0)).set 10 a0).set 11 t11).set 12 t12).set 14 a0).set 15 t15).set 4 t15).set 16 t15).set 17 t17).set 18 t18).set 19 t19).set 7 (.int .i64 1)) σ2 (blockK 0 (seqK (wC C R1) (retK f6.res Q)))))
theorem f6_eq (C : CW) (R0 R1 : PC) (a0 : AVal) (σ : S) (Q : AVal → S → Prop) : f6 C R0 R1  a0 σ Q = wC C (f6.body R0 R1) (E0.set 0 a0) σ (retK f6.res Q) := by kernel_rfl
theorem f6_ent (a0 : AVal) : enterE [a0] (slotsN 55) E0 = some (E0.set 0 a0) := by kernel_rfl
set_option maxRecDepth 20000 in
theorem f6_wf {tab : Nat → Option PFn} (ht : tab 6 = some f6.fn) {a0 : AVal} {σ : S} {Q : AVal → S → Prop} (h : f6 (WF tab) f6.c0 f6.c1  a0 σ Q) : WF tab 6 [a0] σ Q := wFn_sound ht (wFn_code (f6_ent a0) (Eq.mp (f6_eq (WF tab) f6.c0 f6.c1  a0 σ Q) h))
noncomputable def f7.c0 : PC := (.seq (.ops [oq 118 (.loadN 25 (ot 14)), ⟨none, none, (.e (.store 25 (ot 2) (ot 118)))⟩, oq 3 (.mov (.val (.int .i64 0)))]) .ret)
noncomputable def f7.res : List PRes := [.cellN 25 (sn 2), .tmp (sn 3)]
noncomputable def f7.p0 (C : CW) (Q : AVal → S → Prop) (E : En) (σ : S) : Prop :=
Som (vLoadN 25 (E 14) σ) fun t118 =>
Eff (storeW 25 (E 2) t118 σ) fun _ σ1 =>
Ret [vLoadN 25 (E 2) σ1, some (.int .i64 0)] σ1 Q
theorem f7.p0_eq (C : CW) (Q : AVal → S → Prop) (E : En) (σ : S) : f7.p0 C Q  E σ = wC C f7.c0 E σ (retK f7.res Q) := by kernel_rfl
abbrev f7.J0 (C : CW) (Q : AVal → S → Prop) (E : En) (σ : S) : Prop := wC C f7.c0 E σ (retK f7.res Q)
set_option maxRecDepth 20000 in
theorem f7.p0_of {C : CW} {Q : AVal → S → Prop} {E : En} {σ : S} (h : f7.p0 C Q  E σ) : f7.J0 C Q E σ := Eq.mp (f7.p0_eq C Q  E σ) h
noncomputable def f7.body (R0 : PC) : PC := (.seq (.ops [oa 2 (.alloc [(.int .i64 0), (.int .i64 0), (.int .i64 0), (.int .i64 0), (.int .i64 0), (.int .i64 0), (.int .i64 0), (.int .i64 0), (.int .i64 0), (.int .i64 0), (.int .i64 0), (.int .i64 0), (.int .i64 0), (.int .i64 0), (.int .i64 0), (.int .i64 0), (.int .i64 0), (.int .i64 0), (.int .i64 0), (.int .i64 0), (.int .i64 0), (.int .i64 0), (.bool false), (.int .i64 0), (.int .i64 0)]), oq 3 (.mov (.val (.int .i64 0)))]) (.seq (.seq (.ops [oq 15 (.mov (ot 0)), oq 16 (.lenStr (ot 15)), oq 17 (.bin .gtr .num (ot 16) (.val (.int .i64 400)))]) (.cond (ot 17) (.seq (.ops [oq 18 (.build [(.int .i64 0), (.int .i64 0), (.int .i64 0), (.int .i64 0), (.int .i64 0), (.int .i64 0), (.int .i64 0), (.int .i64 0), (.int .i64 0), (.int .i64 0), (.int .i64 0), (.int .i64 0), (.int .i64 0), (.int .i64 0), (.int .i64 0), (.int .i64 0), (.int .i64 0), (.int .i64 0), (.int .i64 0), (.int .i64 0), (.int .i64 0), (.int .i64 0), (.bool false), (.int .i64 0), (.int .i64 0)] []), ⟨none, none, (.e (.store 25 (ot 2) (ot 18)))⟩, oq 3 (.mov (.val (.int .i64 2)))]) .ret) .skip)) (.seq (.ops [oq 20 (.mov (ot 0)), oe 21 (.call 18 [(ot 20)]), oq 19 (.mov (ot 21)), oq 22 (.extract 0 (ot 19)), oq 23 (.extract 1 (ot 19)), oq 4 (.mov (ot 22)), oq 5 (.mov (ot 23))]) (.seq (.seq (.ops [oq 24 (.mov (ot 5)), oq 25 (.un .not (ot 24))]) (.cond (ot 25) (.seq (.ops [oq 26 (.build [(.int .i64 0), (.int .i64 0), (.int .i64 0), (.int .i64 0), (.int .i64 0), (.int .i64 0), (.int .i64 0), (.int .i64 0), (.int .i64 0), (.int .i64 0), (.int .i64 0), (.int .i64 0), (.int .i64 0), (.int .i64 0), (.int .i64 0), (.int .i64 0), (.int .i64 0), (.int .i64 0), (.int .i64 0), (.int .i64 0), (.int .i64 0), (.int .i64 0), (.bool false), (.int .i64 0), (.int .i64 0)] []), ⟨none, none, (.e (.store 25 (ot 2) (ot 26)))⟩, oq 3 (.mov (.val (.int .i64 4)))]) .ret) .skip)) (.seq (.seq (.ops [oq 27 (.mov (ot 4)), oq 28 (.ixSl 1 (ot 27) (.val (.int .i64 0))), oq 29 (.load1 (ot 28)), oq 30 (.bin .eql .num (ot 29) (.val (.str [99, 97, 108, 108])))]) (.cond (ot 30) (.seq (.seq (.ops [oq 31 (.mov (ot 4)), oq 32 (.lenSl (ot 31)), oq 33 (.bin .lss .num (ot 32) (.val (.int .i64 4)))]) (.cond (ot 33) (.seq (.ops [oq 34 (.build [(.int .i64 0), (.int .i64 0), (.int .i64 0), (.int .i64 0), (.int .i64 0), (.int .i64 0), (.int .i64 0), (.int .i64 0), (.int .i64 0), (.int .i64 0), (.int .i64 0), (.int .i64 0), (.int .i64 0), (.int .i64 0), (.int .i64 0), (.int .i64 0), (.int .i64 0), (.int .i64 0), (.int .i64 0), (.int .i64 0), (.int .i64 0), (.int .i64 0), (.bool false), (.int .i64 0), (.int .i64 0)] []), ⟨none, none, (.e (.store 25 (ot 2) (ot 34)))⟩, oq 3 (.mov (.val (.int .i64 4)))]) .ret) .skip)) (.seq (.ops [oq 36 (.mov (ot 4)), oq 37 (.slSl 1 (ot 36) (some (.val (.int .i64 1))) (some (.val (.int .i64 3))) none), oe 38 (.call 19 [(ot 37), (.val (.int .i64 2))]), oq 35 (.mov (ot 38)), oq 39 (.extract 0 (ot 35)), oq 40 (.extract 1 (ot 35)), oq 6 (.mov (ot 39)), oq 7 (.mov (ot 40))]) (.seq (.ops [oq 42 (.mov (ot 4)), oq 43 (.slSl 1 (ot 42) (some (.val (.int .i64 3))) none none), oe 44 (.call 20 [(ot 43)]), oq 41 (.mov (ot 44)), oq 45 (.extract 0 (ot 41)), oq 46 (.extract 1 (ot 41)), oa 8 (.alloc [(.int .i64 0), (.int .i64 0), (.int .i64 0), (.int .i64 0), (.int .i64 0), (.int .i64 0), (.int .i64 0), (.int .i64 0), (.int .i64 0), (.int .i64 0), (.int .i64 0), (.int .i64 0), (.int .i64 0), (.int .i64 0), (.int .i64 0), (.int .i64 0), (.bool false), (.int .i64 0), (.int .i64 0)]), ⟨none, none, (.e (.store 19 (ot 8) (ot 45)))⟩, oq 9 (.mov (ot 46))]) (.seq (.seq (.ops [oq 47 (.mov (ot 7)), oq 48 (.un .not (ot 47)), oq 49 (.mov (ot 48)), oqg 50 49 false (.mov (ot 9)), oqg 51 49 false (.un .not (ot 50)), oq 52 (.pick (ot 49) (.val (.bool true)) (ot 51))]) (.cond (ot 52) (.seq (.ops [oq 53 (.build [(.int .i64 0), (.int .i64 0), (.int .i64 0), (.int .i64 0), (.int .i64 0), (.int .i64 0), (.int .i64 0), (.int .i64 0), (.int .i64 0), (.int .i64 0), (.int .i64 0), (.int .i64 0), (.int .i64 0), (.int .i64 0), (.int .i64 0), (.int .i64 0), (.int .i64 0), (.int .i64 0), (.int .i64 0), (.int .i64 0), (.int .i64 0), (.int .i64 0), (.bool false), (.int .i64 0), (.int .i64 0)] []), ⟨none, none, (.e (.store 25 (ot 2) (ot 53)))⟩, oq 3 (.mov (.val (.int .i64 4)))]) .ret) .skip)) (.seq (.draw 11 [⟨0, oq 54 (.mov (ot 6)), []⟩, ⟨1, oq 55 (.ixSl 1 (ot 54) (.val (.int .i64 0))), []⟩, ⟨2, oq 56 (.load1 (ot 55)), []⟩, ⟨3, oq 57 (.mov (ot 6)), []⟩, ⟨4, oq 58 (.ixSl 1 (ot 57) (.val (.int .i64 1))), []⟩, ⟨5, oq 59 (.load1 (ot 58)), []⟩, ⟨6, oq 60 (.loadN 19 (ot 8)), []⟩, ⟨7, oq 61 (.build [(.int .i64 0), (.int .i64 0), (.int .i64 0), (.int .i64 0), (.int .i64 0), (.int .i64 0), (.int .i64 0), (.int .i64 0), (.int .i64 0), (.int .i64 0), (.int .i64 0), (.int .i64 0), (.int .i64 0), (.int .i64 0), (.int .i64 0), (.int .i64 0), (.int .i64 0), (.int .i64 0), (.bool false), (.int .i64 0), (.int .i64 0)] [(0, 1, (ot 59)), (2, 19, (ot 60))]), []⟩, ⟨8, oq 62 (.build [(.int .i64 0), (.int .i64 0), (.int .i64 0), (.int .i64 0), (.int .i64 0), (.int .i64 0), (.int .i64 0), (.int .i64 0), (.int .i64 0), (.int .i64 0), (.int .i64 0), (.int .i64 0), (.int .i64 0), (.int .i64 0), (.int .i64 0), (.int .i64 0), (.int .i64 0), (.int .i64 0), (.int .i64 0), (.int .i64 0), (.int .i64 0), (.int .i64 0), (.bool false), (.int .i64 0), (.int .i64 0)] [(0, 1, (.val (.int .i64 9))), (1, 1, (ot 56)), (4, 21, (ot 61))]), []⟩, ⟨9, ⟨none, none, (.e (.store 25 (ot 2) (ot 62)))⟩, []⟩, ⟨10, oq 3 (.mov (.val (.int .i64 0))), []⟩]) .ret))))) .skip)) (.seq (.ops [oq 64 (.mov (ot 4)), oq 65 (.ixSl 1 (ot 64) (.val (.int .i64 0))), oq 66 (.load1 (ot 65)), oe 67 (.call 21 [(ot 66)]), oq 63 (.mov (ot 67)), oq 68 (.extract 0 (ot 63)), oq 69 (.extract 1 (ot 63)), oq 10 (.mov (ot 68)), oq 11 (.mov (ot 69))]) (.seq (.ops [oq 71 (.mov (ot 4)), oq 72 (.slSl 1 (ot 71) (some (.val (.int .i64 1))) none none), oq 73 (.mov (ot 11)), oe 74 (.call 19 [(ot 72), (ot 73)]), oq 70 (.mov (ot 74)), oq 75 (.extract 0 (ot 70)), oq 76 (.extract 1 (ot 70)), oq 12 (.mov (ot 75)), oq 13 (.mov (ot 76))]) (.seq (.seq (.ops [oq 77 (.mov (ot 10)), oq 78 (.bin .eql .num (ot 77) (.val (.int .i64 0))), oq 79 (.mov (ot 78)), oqg 80 79 false (.mov (ot 13)), oqg 81 79 false (.un .not (ot 80)), oq 82 (.pick (ot 79) (.val (.bool true)) (ot 81))]) (.cond (ot 82) (.seq (.ops [oq 83 (.build [(.int .i64 0), (.int .i64 0), (.int .i64 0), (.int .i64 0), (.int .i64 0), (.int .i64 0), (.int .i64 0), (.int .i64 0), (.int .i64 0), (.int .i64 0), (.int .i64 0), (.int .i64 0), (.int .i64 0), (.int .i64 0), (.int .i64 0), (.int .i64 0), (.int .i64 0), (.int .i64 0), (.int .i64 0), (.int .i64 0), (.int .i64 0), (.int .i64 0), (.bool false), (.int .i64 0), (.int .i64 0)] []), ⟨none, none, (.e (.store 25 (ot 2) (ot 83)))⟩, oq 3 (.mov (.val (.int .i64 4)))]) .ret) .skip)) (.seq (.ops [oq 84 (.mov (ot 10)), oq 85 (.mov (ot 12)), oq 86 (.ixSl 1 (ot 85) (.val (.int .i64 0))), oq 87 (.load1 (ot 86)), oq 88 (.build [(.int .i64 0), (.int .i64 0), (.int .i64 0), (.int .i64 0), (.int .i64 0), (.int .i64 0), (.int .i64 0), (.int .i64 0), (.int .i64 0), (.int .i64 0), (.int .i64 0), (.int .i64 0), (.int .i64 0), (.int .i64 0), (.int .i64 0), (.int .i64 0), (.int .i64 0), (.int .i64 0), (.int .i64 0), (.int .i64 0), (.int .i64 0), (.int .i64 0), (.bool false), (.int .i64 0), (.int .i64 0)] [(0, 1, (ot 84)), (1, 1, (ot 87))]), oa 14 (.alloc [(.int .i64 0), (.int .i64 0), (.int .i64 0), (.int .i64 0), (.int .i64 0), (.int .i64 0), (.int .i64 0), (.int .i64 0), (.int .i64 0), (.int .i64 0), (.int .i64 0), (.int .i64 0), (.int .i64 0), (.int .i64 0), (.int .i64 0), (.int .i64 0), (.int .i64 0), (.int .i64 0), (.int .i64 0), (.int .i64 0), (.int .i64 0), (.int .i64 0), (.bool false), (.int .i64 0), (.int .i64 0)]), ⟨none, none, (.e (.store 25 (ot 14) (ot 88)))⟩]) (.seq (.block 0 (.seq (.ops [oq 90 (.mov (ot 11)), oq 91 (.bin .eql .num (ot 90) (.val (.int .i64 3))), oq 89 (.mov (ot 91))]) (.cond (ot 89) (.draw 10 [⟨0, oq 92 (.mov (ot 12)), []⟩, ⟨1, oq 93 (.ixSl 1 (ot 92) (.val (.int .i64 1))), []⟩, ⟨2, oq 94 (.load1 (ot 93)), []⟩, ⟨3, oq 95 (.mov (ot 12)), []⟩, ⟨4, oq 96 (.ixSl 1 (ot 95) (.val (.int .i64 2))), []⟩, ⟨5, oq 97 (.load1 (ot 96)), []⟩, ⟨6, oq 98 (.fieldAddr 2 (ot 14)), []⟩, ⟨7, ⟨none, none, (.e (.store 1 (ot 98) (ot 94)))⟩, [oq 97 (.load1 (ot 96))]⟩, ⟨8, oq 99 (.fieldAddr 3 (ot 14)), []⟩, ⟨9, ⟨none, none, (.e (.store 1 (ot 99) (ot 97)))⟩, []⟩]) (.seq (.ops [oq 101 (.mov (ot 10)), oq 102 (.bin .eql .num (ot 101) (.val (.int .i64 4))), oq 103 (.mov (ot 102)), oqg 104 103 false (.mov (ot 10)), oqg 105 103 false (.bin .eql .num (ot 104) (.val (.int .i64 5))), oq 106 (.pick (ot 103) (.val (.bool true)) (ot 105)), oq 100 (.mov (ot 106))]) (.cond (ot 100) (.ops [oq 107 (.mov (ot 12)), oq 108 (.ixSl 1 (ot 107) (.val (.int .i64 1))), oq 109 (.load1 (ot 108)), oq 110 (.fieldAddr 2 (ot 14)), ⟨none, none, (.e (.store 1 (ot 110) (ot 109)))⟩]) (.seq (.ops [oq 112 (.mov (ot 11)), oq 113 (.bin .eql .num (ot 112) (.val (.int .i64 2))), oq 111 (.mov (ot 113))]) (.cond (ot 111) (.ops [oq 114 (.mov (ot 12)), oq 115 (.ixSl 1 (ot 114) (.val (.int .i64 1))), oq 116 (.load1 (ot 115)), oq 117 (.fieldAddr 3 (ot 14)), ⟨none, none, (.e (.store 1 (ot 117) (ot 116)))⟩]) .skip))))))) R0))))))))))
noncomputable def f7.fn : PFn := .code (slotsN 119) (f7.body f7.c0) f7.res
noncomputable def f7 (C : CW) (R0 : PC) (a0 : AVal) (σ : S) (Q : AVal → S → Prop) : Prop :=
Ala (aAllocV [(.int .i64 0), (.int .i64 0), (.int .i64 0), (.int .i64 0), (.int .i64 0), (.int .i64 0), (.int .i64 0), (.int .i64 0), (.int .i64 0), (.int .i64 0), (.int .i64 0), (.int .i64 0), (.int .i64 0), (.int .i64 0), (.int .i64 0), (.int .i64 0), (.int .i64 0), (.int .i64 0), (.int .i64 0), (.int .i64 0), (.int .i64 0), (.int .i64 0), (.bool false), (.int .i64 0), (.int .i64 0)]) σ fun t2 σ1 =>
Som (vLenStr a0) fun t16 =>
Som (binA .gtr .num t16 (.int .i64 400)) fun t17 =>
WIf t17 (
Som (vBuild [(.int .i64 0), (.int .i64 0), (.int .i64 0), (.int .i64 0), (.int .i64 0), (.int .i64 0), (.int .i64 0), (.int .i64 0), (.int .i64 0), (.int .i64 0), (.int .i64 0), (.int .i64 0), (.int .i64 0), (.int .i64 0), (.int .i64 0), (.int .i64 0), (.int .i64 0), (.int .i64 0), (.int .i64 0), (.int .i64 0), (.int .i64 0), (.int .i64 0), (.bool false), (.int .i64 0), (.int .i64 0)] []) fun t18 =>
Eff (storeW 25 t2 t18 σ1) fun _ σ2 =>
Ret [vLoadN 25 t2 σ2, some (.int .i64 2)] σ2 Q) (
C 18 [a0] σ1 fun t21 σ2 =>
Som (vExtract 0 t21) fun t22 =>
Som (vExtract 1 t21) fun t23 =>
Som (unA .not t23) fun t25 =>
WIf t25 (
Som (vBuild [(.int .i64 0), (.int .i64 0), (.int .i64 0), (.int .i64 0), (.int .i64 0), (.int .i64 0), (.int .i64 0), (.int .i64 0), (.int .i64 0), (.int .i64 0), (.int .i64 0), (.int .i64 0), (.int .i64 0), (.int .i64 0), (.int .i64 0), (.int .i64 0), (.int .i64 0), (.int .i64 0), (.int .i64 0), (.int .i64 0), (.int .i64 0), (.int .i64 0), (.bool false), (.int .i64 0), (.int .i64 0)] []) fun t26 =>
Eff (storeW 25 t2 t26 σ2) fun _ σ3 =>
Ret [vLoadN 25 t2 σ3, some (.int .i64 4)] σ3 Q) (
Som (vIxSl 1 t22 (.int .i64 0)) fun t28 =>
Som (vLoad1 t28 σ2) fun t29 =>
Som (binA .eql .num t29 (.str [99, 97, 108, 108])) fun t30 =>
WIf t30 (
Som (vLenSl t22) fun t32 =>
Som (binA .lss .num t32 (.int .i64 4)) fun t33 =>
WIf t33 (
Som (vBuild [(.int .i64 0), (.int .i64 0), (.int .i64 0), (.int .i64 0), (.int .i64 0), (.int .i64 0), (.int .i64 0), (.int .i64 0), (.int .i64 0), (.int .i64 0), (.int .i64 0), (.int .i64 0), (.int .i64 0), (.int .i64 0), (.int .i64 0), (.int .i64 0), (.int .i64 0), (.int .i64 0), (.int .i64 0), (.int .i64 0), (.int .i64 0), (.int .i64 0), (.bool false), (.int .i64 0), (.int .i64 0)] []) fun t34 =>
Eff (storeW 25 t2 t34 σ2) fun _ σ3 =>
Ret [vLoadN 25 t2 σ3, some (.int .i64 4)] σ3 Q) (
Som (vSlSl 1 t22 (some (.int .i64 1)) (some (.int .i64 3)) none) fun t37 =>
C 19 [t37, (.int .i64 2)] σ2 fun t38 σ3 =>
Som (vExtract 0 t38) fun t39 =>
Som (vExtract 1 t38) fun t40 =>
Som (vSlSl 1 t22 (some (.int .i64 3)) none none) fun t43 =>
C 20 [t43] σ3 fun t44 σ4 =>
Som (vExtract 0 t44) fun t45 =>
Som (vExtract 1 t44) fun t46 =>
Ala (aAllocV [(.int .i64 0), (.int .i64 0), (.int .i64 0), (.int .i64 0), (.int .i64 0), (.int .i64 0), (.int .i64 0), (.int .i64 0), (.int .i64 0), (.int .i64 0), (.int .i64 0), (.int .i64 0), (.int .i64 0), (.int .i64 0), (.int .i64 0), (.int .i64 0), (.bool false), (.int .i64 0), (.int .i64 0)]) σ4 fun t8 σ5 =>
Eff (storeW 19 t8 t45 σ5) fun _ σ6 =>
Som (unA .not t40) fun t48 =>
Som (gq1 (isB t48 false) (some t46)) fun t50 =>
Som (gq1 (isB t48 false) (unA .not t50)) fun t51 =>
Som (vPick t48 (.bool true) t51) fun t52 =>
WIf t52 (
Som (vBuild [(.int .i64 0), (.int .i64 0), (.int .i64 0), (.int .i64 0), (.int .i64 0), (.int .i64 0), (.int .i64 0), (.int .i64 0), (.int .i64 0), (.int .i64 0), (.int .i64 0), (.int .i64 0), (.int .i64 0), (.int .i64 0), (.int .i64 0), (.int .i64 0), (.int .i64 0), (.int .i64 0), (.int .i64 0), (.int .i64 0), (.int .i64 0), (.int .i64 0), (.bool false), (.int .i64 0), (.int .i64 0)] []) fun t53 =>
Eff (storeW 25 t2 t53 σ6) fun _ σ7 =>
Ret [vLoadN 25 t2 σ7, some (.int .i64 4)] σ7 Q) (
Som (vIxSl 1 t39 (.int .i64 0)) fun t55 =>
Som (vLoad1 t55 (σ6.bumpT 11)) fun t56 =>
Som (vIxSl 1 t39 (.int .i64 1)) fun t58 =>
Som (vLoad1 t58 (σ6.bumpT 11)) fun t59 =>
Som (vLoadN 19 t8 (σ6.bumpT 11)) fun t60 =>
Som (vBuild [(.int .i64 0), (.int .i64 0), (.int .i64 0), (.int .i64 0), (.int .i64 0), (.int .i64 0), (.int .i64 0), (.int .i64 0), (.int .i64 0), (.int .i64 0), (.int .i64 0), (.int .i64 0), (.int .i64 0), (.int .i64 0), (.int .i64 0), (.int .i64 0), (.int .i64 0), (.int .i64 0), (.bool false), (.int .i64 0), (.int .i64 0)] [(0, 1, t59), (2, 19, t60)]) fun t61 =>
Som (vBuild [(.int .i64 0), (.int .i64 0), (.int .i64 0), (.int .i64 0), (.int .i64 0), (.int .i64 0), (.int .i64 0), (.int .i64 0), (.int .i64 0), (.int .i64 0), (.int .i64 0), (.int .i64 0), (.int .i64 0), (.int .i64 0), (.int .i64 0), (.int .i64 0), (.int .i64 0), (.int .i64 0), (.int .i64 0), (.int .i64 0), (.int .i64 0), (.int .i64 0), (.bool false), (.int .i64 0), (.int .i64 0)] [(0, 1, (.int .i64 9)), (1, 1, t56), (4, 21, t61)]) fun t62 =>
Eff (storeW 25 t2 t62 (σ6.bumpT 11)) fun _ σ7 =>
Ret [vLoadN 25 t2 σ7, some (.int .i64 0)] σ7 Q))) (
Som (vIxSl 1 t22 (.int .i64 0)) fun t65 =>
Som (vLoad1 t65 σ2) fun t66 =>
C 21 [t66] σ2 fun t67 σ3 =>
Som (vExtract 0 t67) fun t68 =>
Som (vExtract 1 t67) fun t69 =>
Som (vSlSl 1 t22 (some (.int .i64 1)) none none) fun t72 =>
C 19 [t72, t69] σ3 fun t74 σ4 =>
Som (vExtract 0 t74) fun t75 =>
Som (vExtract 1 t74) fun t76 =>
Som (binA .eql .num t68 (.int .i64 0)) fun t78 =>
Som (gq1 (isB t78 false) (some t76)) fun t80 =>
Som (gq1 (isB t78 false) (unA .not t80)) fun t81 =>
Som (vPick t78 (.bool true) t81) fun t82 =>
WIf t82 (
Som (vBuild [(.int .i64 0), (.int .i64 0), (.int .i64 0), (.int .i64 0), (.int .i64 0), (.int .i64 0), (.int .i64 0), (.int .i64 0), (.int .i64 0), (.int .i64 0), (.int .i64 0), (.int .i64 0), (.int .i64 0), (.int .i64 0), (.int .i64 0), (.int .i64 0), (.int .i64 0), (.int .i64 0), (.int .i64 0), (.int .i64 0), (.int .i64 0), (.int .i64 0), (.bool false), (.int .i64 0), (.int .i64 0)] []) fun t83 =>
Eff (storeW 25 t2 t83 σ4) fun _ σ5 =>
Ret [vLoadN 25 t2 σ5, some (.int .i64 4)] σ5 Q) (
Som (vIxSl 1 t75 (.int .i64 0)) fun t86 =>
Som (vLoad1 t86 σ4) fun t87 =>
Som (vBuild [(.int .i64 0), (.int .i64 0), (.int .i64 0), (.int .i64 0), (.int .i64 0), (.int .i64 0), (.int .i64 0), (.int .i64 0), (.int .i64 0), (.int .i64 0), (.int .i64 0), (.int .i64 0), (.int .i64 0), (.int .i64 0), (.int .i64 0), (.int .i64 0), (.int .i64 0), (.int .i64 0), (.int .i64 0), (.int .i64 0), (.int .i64 0), (.int .i64 0), (.bool false), (.int .i64 0), (.int .i64 0)] [(0, 1, t68), (1, 1, t87)]) fun t88 =>
Ala (aAllocV [(.int .i64 0), (.int .i64 0), (.int .i64 0), (.int .i64 0), (.int .i64 0), (.int .i64 0), (.int .i64 0), (.int .i64 0), (.int .i64 0), (.int .i64 0), (.int .i64 0), (.int .i64 0), (.int .i64 0), (.int .i64 0), (.int .i64 0), (.int .i64 0), (.int .i64 0), (.int .i64 0), (.int .i64 0), (.int .i64 0), (.int .i64 0), (.int .i64 0), (.bool false), (.int .i64 0), (.int .i64 0)]) σ4 fun t14 σ5 =>
Eff (storeW 25 t14 t88 σ5) fun _ σ6 =>
Som (binA .eql .num t69 (.int .i64 3)) fun t91 =>
WIf t91 (
Som (vIxSl 1 t75 (.int .i64 1)) fun t93 =>
Som (vLoad1 t93 (σ6.bumpT 10)) fun t94 =>
Som (vIxSl 1 t75 (.int .i64 2)) fun t96 =>
Som (vLoad1 t96 (σ6.bumpT 10)) fun t97 =>
Som (vFieldAddr 2 t14) fun t98 =>
Eff (storeW 1 t98 t94 (σ6.bumpT 10)) fun _ σ7 =>
Sure (SameO (vLoad1 t96 σ7) t97) <|
Som (vFieldAddr 3 t14) fun t99 =>
Eff (storeW 1 t99 t97 σ7) fun _ σ8 =>
wC C R0 ((((((((((((((((((((((((((((((((((((((((((((((((((((((((((((E0.set 0 a0).set 2 t2).set 3 (.int .i64 0)).set 15 a0).set 16 t16).set 17 t17).set 20 a0).set 21 t21).set 19 t21).set 22 t22).set 23 t23).set 4 t22).set 5 t23).set 24 t23).set 25 t25).set 27 t22).set 28 t28).set 29 t29).set 30 t30).set 64 t22).set 65 t65).set 66 t66).set 67 t67).set 63 t67).set 68 t68).set 69 t69).set 10 t68).set 11 t69).set 71 t22).set 72 t72).set 73 t69).set 74 t74).set 70 t74).set 75 t75).set 76 t76).set 12 t75).set 13 t76).set 77 t68).set 78 t78).set 79 t78).set 80 t80).set 81 t81).set 82 t82).set 84 t68).set 85 t75).set 86 t86).set 87 t87).set 88 t88).set 14 t14).set 90 t69).set 91 t91).set 89 t91).set 92 t75).set 93 t93).set 94 t94).set 95 t75).set 96 t96).set 97 t97).set 98 t98).set 99 t99) σ8 (retK f7.res Q)) (
Som (binA .eql .num t68 (.int .i64 4)) fun t102 =>
Som (gq1 (isB t102 false) (some t68)) fun t104 =>
Som (gq1 (isB t102 false) (binA .eql .num t104 (.int .i64 5))) fun t105 =>
Som (vPick t102 (.bool true) t105) fun t106 =>
WIf t106 (
Som (vIxSl 1 t75 (.int .i64 1)) fun t108 =>
Som (vLoad1 t108 σ6) fun t109 =>
Som (vFieldAddr 2 t14) fun t110 =>
Eff (storeW 1 t110 t109 σ6) fun _ σ7 =>
wC C R0 (((((((((((((((((((((((((((((((((((((((((((((((((((((((((((((((E0.set 0 a0).set 2 t2).set 3 (.int .i64 0)).set 15 a0).set 16 t16).set 17 t17).set 20 a0).set 21 t21).set 19 t21).set 22 t22).set 23 t23).set 4 t22).set 5 t23).set 24 t23).set 25 t25).set 27 t22).set 28 t28).set 29 t29).set 30 t30).set 64 t22).set 65 t65).set 66 t66).set 67 t67).set 63 t67).set 68 t68).set 69 t69).set 10 t68).set 11 t69).set 71 t22).set 72 t72).set 73 t69).set 74 t74).set 70 t74).set 75 t75).set 76 t76).set 12 t75).set 13 t76).set 77 t68).set 78 t78).set 79 t78).set 80 t80).set 81 t81).set 82 t82).set 84 t68).set 85 t75).set 86 t86).set 87 t87).set 88 t88).set 14 t14).set 90 t69).set 91 t91).set 89 t91).set 101 t68).set 102 t102).set 103 t102).set 104 t104).set 105 t105).set 106 t106).set 100 t106).set 107 t75).set 108 t108).set 109 t109).set 110 t110) σ7 (retK f7.res Q)) (
Som (binA .eql .num t69 (.int .i64 2)) fun t113 =>
WIf t113 (
Som (vIxSl 1 t75 (.int .i64 1)) fun t115 =>
Som (vLoad1 t115 σ6) fun t116 =>
Som (vFieldAddr 3 t14) fun t117 =>
Eff (storeW 1 t117 t116 σ6) fun _ σ7 =>
wC C R0 ((((((((((((((((((((((((((((((((((((((((((((((((((((((((((((((((((E0.set 0 a0).set 2 t2).set 3 (.int .i64 0)).set 15 a0).set 16 t16).set 17 t17).set 20 a0).set 21 t21).set 19 t21).set 22 t22).set 23 t23).set 4 t22).set 5 t23).set 24 t23).set 25 t25).set 27 t22).set 28 t28).set 29 t29).set 30 t30).set 64 t22).set 65 t65).set 66 t66).set 67 t67).set 63 t67).set 68 t68).set 69 t69).set 10 t68).set 11 t69).set 71 t22).set 72 t72).set 73 t69).set 74 t74).set 70 t74).set 75 t75).set 76 t76).set 12 t75).set 13 t76).set 77 t68).set 78 t78).set 79 t78).set 80 t80).set 81 t81).set 82 t82).set 84 t68).set 85 t75).set 86 t86).set 87 t87).set 88 t88).set 14 t14).set 90 t69).set 91 t91).set 89 t91).set 101 t68).set 102 t102).set 103 t102).set 104 t104).set 105 t105).set 106 t106).set 100 t106).set 112 t69).set 113 t113).set 111 t113).set 114 t75).set 115 t115).set 116 t116).set 117 t117) σ7 (retK f7.res Q)) (
wC C R0 ((((((((((((((((((((((((((((((((((((((((((((((((((((((((((((((E0.set 0 a0).set 2 t2).set 3 (.int .i64 0)).set 15 a0).set 16 t16).set 17 t17).set 20 a0).set 21 t21).set 19 t21).set 22 t22).set 23 t23).set 4 t22).set 5 t23).set 24 t23).set 25 t25).set 27 t22).set 28 t28).set 29 t29).set 30 t30).set 64 t22).set 65 t65).set 66 t66).set 67 t67).set 63 t67).set 68 t68).set 69 t69).set 10 t68).set 11 t69).set 71 t22).set 72 t72).set 73 t69).set 74 t74).set 70 t74).set 75 t75).set 76 t76).set 12 t75).set 13 t76).set 77 t68).set 78 t78).set 79 t78).set 80 t80).set 81 t81).set 82 t82).set 84 t68).set 85 t75).set 86 t86).set 87 t87).set 88 t88).set 14 t14).set 90 t69).set 91 t91).set 89 t91).set 101 t68).set 102 t102).set 103 t102).set 104 t104).set 105 t105).set 106 t106).set 100 t106).set 112 t69).set 113 t113).set 111 t113) σ6 (retK f7.res Q))))))))
theorem f7_eq (C : CW) (R0 : PC) (a0 : AVal) (σ : S) (Q : AVal → S → Prop) : f7 C R0  a0 σ Q = wC C (f7.body R0) (E0.set 0 a0) σ (retK f7.res Q) := by kernel_rfl
theorem f7_ent (a0 : AVal) : enterE [a0] (slotsN 119) E0 = some (E0.set 0 a0) := by kernel_rfl
set_option maxRecDepth 20000 in
theorem f7_wf {tab : Nat → Option PFn} (ht : tab 7 = some f7.fn) {a0 : AVal} {σ : S} {Q : AVal → S → Prop} (h : f7 (WF tab) f7.c0  a0 σ Q) : WF tab 7 [a0] σ Q := wFn_sound ht (wFn_code (f7_ent a0) (Eq.mp (f7_eq (WF tab) f7.c0  a0 σ Q) h))
noncomputable def f13.res : List PRes := [.tmp (sn 4)]
noncomputable def f13.body : PC := (.seq (.ops [oq 4 (.mov (.val .nsl))]) (.seq (.ops [oq 5 (.mov (ot 0)), oq 6 (.mov (ot 1)), oe 7 (.call 29 [(ot 5), (ot 6), (.val (.int .i64 0)), (.val (.int .i64 (-1)))]), oq 4 (.mov (ot 7))]) .ret))
noncomputable def f13.fn : PFn := .code (slotsN 8) f13.body f13.res
noncomputable def f13 (C : CW) (a0 a1 : AVal) (σ : S) (Q : AVal → S → Prop) : Prop :=
C 29 [a0, a1, (.int .i64 0), (.int .i64 (-1))] σ fun t7 σ1 =>
Ret [some t7] σ1 Q
theorem f13_eq (C : CW) (a0 a1 : AVal) (σ : S) (Q : AVal → S → Prop) : f13 C   a0 a1 σ Q = wC C f13.body ((E0.set 0 a0).set 1 a1) σ (retK f13.res Q) := by kernel_rfl
theorem f13_ent (a0 a1 : AVal) : enterE [a0, a1] (slotsN 8) E0 = some ((E0.set 0 a0).set 1 a1) := by kernel_rfl
set_option maxRecDepth 20000 in
theorem f13_wf {tab : Nat → Option PFn} (ht : tab 13 = some f13.fn) {a0 a1 : AVal} {σ : S} {Q : AVal → S → Prop} (h : f13 (WF tab)   a0 a1 σ Q) : WF tab 13 [a0, a1] σ Q := wFn_sound ht (wFn_code (f13_ent a0 a1) (Eq.mp (f13_eq (WF tab)   a0 a1 σ Q) h))
noncomputable def f14.res : List PRes := [.cellN 25 (sn 2), .tmp (sn 3)]
noncomputable def f14.body : PC := (.seq (.ops [oa 2 (.alloc [(.int .i64 0), (.int .i64 0), (.int .i64 0), (.int .i64 0), (.int .i64 0), (.int .i64 0), (.int .i64 0), (.int .i64 0), (.int .i64 0), (.int .i64 0), (.int .i64 0), (.int .i64 0), (.int .i64 0), (.int .i64 0), (.int .i64 0), (.int .i64 0), (.int .i64 0), (.int .i64 0), (.int .i64 0), (.int .i64 0), (.int .i64 0), (.int .i64 0), (.bool false), (.int .i64 0), (.int .i64 0)]), oq 3 (.mov (.val (.bool false)))]) (.seq (.ops [oq 7 (.build [(.int .i64 0), (.int .i64 0), (.int .i64 0), (.int .i64 0), (.int .i64 0), (.int .i64 0), (.int .i64 0), (.int .i64 0), (.int .i64 0), (.int .i64 0), (.int .i64 0), (.int .i64 0), (.int .i64 0), (.int .i64 0), (.int .i64 0), (.int .i64 0), (.int .i64 0), (.int .i64 0), (.int .i64 0), (.int .i64 0), (.int .i64 0), (.int .i64 0), (.bool false), (.int .i64 0), (.int .i64 0)] [(0, 1, (.val (.int .i64 9)))]), oa 4 (.alloc [(.int .i64 0), (.int .i64 0), (.int .i64 0), (.int .i64 0), (.int .i64 0), (.int .i64 0), (.int .i64 0), (.int .i64 0), (.int .i64 0), (.int .i64 0), (.int .i64 0), (.int .i64 0), (.int .i64 0), (.int .i64 0), (.int .i64 0), (.int .i64 0), (.int .i64 0), (.int .i64 0), (.int .i64 0), (.int .i64 0), (.int .i64 0), (.int .i64 0), (.bool false), (.int .i64 0), (.int .i64 0)]), ⟨none, none, (.e (.store 25 (ot 4) (ot 7)))⟩]) (.seq (.seq (.ops [oq 8 (.mov (ot 0)), oq 9 (.lenSl (ot 8)), oq 10 (.bin .lss .num (ot 9) (.val (.int .i64 2))), oq 11 (.mov (ot 10)), oqg 12 11 false (.mov (ot 0)), oqg 13 11 false (.slSl 1 (ot 12) none (some (.val (.int .i64 2))) none), oqg 14 11 false (.fieldAddr 1 (ot 4)), oqg 15 11 false (.fieldAddr 4 (ot 4)), oqg 16 11 false (.fieldAddr 0 (ot 15)), oag 17 11 false (.bslice 1 [.nptr] 2 [(0, 1, (ot 14)), (1, 1, (ot 16))]), oeg 18 11 false (.call 16 [(ot 13), (ot 17)]), oqg 19 11 false (.un .not (ot 18)), oq 20 (.pick (ot 11) (.val (.bool true)) (ot 19))]) (.cond (ot 20) (.seq (.ops [oq 21 (.build [(.int .i64 0), (.int .i64 0), (.int .i64 0), (.int .i64 0), (.int .i64 0), (.int .i64 0), (.int .i64 0), (.int .i64 0), (.int .i64 0), (.int .i64 0), (.int .i64 0), (.int .i64 0), (.int .i64 0), (.int .i64 0), (.int .i64 0), (.int .i64 0), (.int .i64 0), (.int .i64 0), (.int .i64 0), (.int .i64 0), (.int .i64 0), (.int .i64 0), (.bool false), (.int .i64 0), (.int .i64 0)] []), ⟨none, none, (.e (.store 25 (ot 2) (ot 21)))⟩, oq 3 (.mov (.val (.bool false)))]) .ret) .skip)) (.seq (.ops [oq 23 (.mov (ot 0)), oq 24 (.slSl 1 (ot 23) (some (.val (.int .i64 2))) none none), oe 25 (.call 30 [(ot 24)]), oq 22 (.mov (ot 25)), oq 26 (.extract 0 (ot 22)), oq 27 (.extract 1 (ot 22)), oa 5 (.alloc [(.int .i64 0), (.int .i64 0), (.int .i64 0), (.int .i64 0), (.int .i64 0), (.int .i64 0), (.int .i64 0), (.int .i64 0), (.int .i64 0), (.int .i64 0), (.int .i64 0), (.int .i64 0), (.int .i64 0), (.int .i64 0), (.int .i64 0), (.int .i64 0), (.bool false), (.int .i64 0), (.int .i64 0)]), ⟨none, none, (.e (.store 19 (ot 5) (ot 26)))⟩, oq 6 (.mov (ot 27))]) (.seq (.seq (.ops [oq 28 (.mov (ot 6)), oq 29 (.un .not (ot 28))]) (.cond (ot 29) (.seq (.ops [oq 30 (.build [(.int .i64 0), (.int .i64 0), (.int .i64 0), (.int .i64 0), (.int .i64 0), (.int .i64 0), (.int .i64 0), (.int .i64 0), (.int .i64 0), (.int .i64 0), (.int .i64 0), (.int .i64 0), (.int .i64 0), (.int .i64 0), (.int .i64 0), (.int .i64 0), (.int .i64 0), (.int .i64 0), (.int .i64 0), (.int .i64 0), (.int .i64 0), (.int .i64 0), (.bool false), (.int .i64 0), (.int .i64 0)] []), ⟨none, none, (.e (.store 25 (ot 2) (ot 30)))⟩, oq 3 (.mov (.val (.bool false)))]) .ret) .skip)) (.seq (.ops [oq 31 (.loadN 19 (ot 5)), oq 32 (.fieldAddr 4 (ot 4)), oq 33 (.fieldAddr 2 (ot 32)), ⟨none, none, (.e (.store 19 (ot 33) (ot 31)))⟩]) (.seq (.ops [oq 34 (.loadN 25 (ot 4)), ⟨none, none, (.e (.store 25 (ot 2) (ot 34)))⟩, oq 3 (.mov (.val (.bool true)))]) .ret)))))))
noncomputable def f14.fn : PFn := .code (slotsN 35) f14.body f14.res
noncomputable def f14 (C : CW) (a0 : AVal) (σ : S) (Q : AVal → S → Prop) : Prop :=
Ala (aAllocV [(.int .i64 0), (.int .i64 0), (.int .i64 0), (.int .i64 0), (.int .i64 0), (.int .i64 0), (.int .i64 0), (.int .i64 0), (.int .i64 0), (.int .i64 0), (.int .i64 0), (.int .i64 0), (.int .i64 0), (.int .i64 0), (.int .i64 0), (.int .i64 0), (.int .i64 0), (.int .i64 0), (.int .i64 0), (.int .i64 0), (.int .i64 0), (.int .i64 0), (.bool false), (.int .i64 0), (.int .i64 0)]) σ fun t2 σ1 =>
Som (vBuild [(.int .i64 0), (.int .i64 0), (.int .i64 0), (.int .i64 0), (.int .i64 0), (.int .i64 0), (.int .i64 0), (.int .i64 0), (.int .i64 0), (.int .i64 0), (.int .i64 0), (.int .i64 0), (.int .i64 0), (.int .i64 0), (.int .i64 0), (.int .i64 0), (.int .i64 0), (.int .i64 0), (.int .i64 0), (.int .i64 0), (.int .i64 0), (.int .i64 0), (.bool false), (.int .i64 0), (.int .i64 0)] [(0, 1, (.int .i64 9))]) fun t7 =>
Ala (aAllocV [(.int .i64 0), (.int .i64 0), (.int .i64 0), (.int .i64 0), (.int .i64 0), (.int .i64 0), (.int .i64 0), (.int .i64 0), (.int .i64 0), (.int .i64 0), (.int .i64 0), (.int .i64 0), (.int .i64 0), (.int .i64 0), (.int .i64 0), (.int .i64 0), (.int .i64 0), (.int .i64 0), (.int .i64 0), (.int .i64 0), (.int .i64 0), (.int .i64 0), (.bool false), (.int .i64 0), (.int .i64 0)]) σ1 fun t4 σ2 =>
Eff (storeW 25 t4 t7 σ2) fun _ σ3 =>
Som (vLenSl a0) fun t9 =>
Som (binA .lss .num t9 (.int .i64 2)) fun t10 =>
Som (gq1 (isB t10 false) (some a0)) fun t12 =>
Som (gq1 (isB t10 false) (vSlSl 1 t12 none (some (.int .i64 2)) none)) fun t13 =>
Som (gq1 (isB t10 false) (vFieldAddr 1 t4)) fun t14 =>
Som (gq1 (isB t10 false) (vFieldAddr 4 t4)) fun t15 =>
Som (gq1 (isB t10 false) (vFieldAddr 0 t15)) fun t16 =>
gE1 (isB t10 false) (fun K => Ala (aSliceV 1 [.nptr] 2 [(0, 1, t14), (1, 1, t16)]) σ3 K) σ3 fun t17 σ4 =>
gE1 (isB t10 false) (fun K => C 16 [t13, t17] σ4 K) σ4 fun t18 σ5 =>
Som (gq1 (isB t10 false) (unA .not t18)) fun t19 =>
Som (vPick t10 (.bool true) t19) fun t20 =>
WIf t20 (
Som (vBuild [(.int .i64 0), (.int .i64 0), (.int .i64 0), (.int .i64 0), (.int .i64 0), (.int .i64 0), (.int .i64 0), (.int .i64 0), (.int .i64 0), (.int .i64 0), (.int .i64 0), (.int .i64 0), (.int .i64 0), (.int .i64 0), (.int .i64 0), (.int .i64 0), (.int .i64 0), (.int .i64 0), (.int .i64 0), (.int .i64 0), (.int .i64 0), (.int .i64 0), (.bool false), (.int .i64 0), (.int .i64 0)] []) fun t21 =>
Eff (storeW 25 t2 t21 σ5) fun _ σ6 =>
Ret [vLoadN 25 t2 σ6, some (.bool false)] σ6 Q) (
Som (vSlSl 1 a0 (some (.int .i64 2)) none none) fun t24 =>
C 30 [t24] σ5 fun t25 σ6 =>
Som (vExtract 0 t25) fun t26 =>
Som (vExtract 1 t25) fun t27 =>
Ala (aAllocV [(.int .i64 0), (.int .i64 0), (.int .i64 0), (.int .i64 0), (.int .i64 0), (.int .i64 0), (.int .i64 0), (.int .i64 0), (.int .i64 0), (.int .i64 0), (.int .i64 0), (.int .i64 0), (.int .i64 0), (.int .i64 0), (.int .i64 0), (.int .i64 0), (.bool false), (.int .i64 0), (.int .i64 0)]) σ6 fun t5 σ7 =>
Eff (storeW 19 t5 t26 σ7) fun _ σ8 =>
Som (unA .not t27) fun t29 =>
WIf t29 (
Som (vBuild [(.int .i64 0), (.int .i64 0), (.int .i64 0), (.int .i64 0), (.int .i64 0), (.int .i64 0), (.int .i64 0), (.int .i64 0), (.int .i64 0), (.int .i64 0), (.int .i64 0), (.int .i64 0), (.int .i64 0), (.int .i64 0), (.int .i64 0), (.int .i64 0), (.int .i64 0), (.int .i64 0), (.int .i64 0), (.int .i64 0), (.int .i64 0), (.int .i64 0), (.bool false), (.int .i64 0), (.int .i64 0)] []) fun t30 =>
Eff (storeW 25 t2 t30 σ8) fun _ σ9 =>
Ret [vLoadN 25 t2 σ9, some (.bool false)] σ9 Q) (
Som (vLoadN 19 t5 σ8) fun t31 =>
Som (vFieldAddr 4 t4) fun t32 =>
Som (vFieldAddr 2 t32) fun t33 =>
Eff (storeW 19 t33 t31 σ8) fun _ σ9 =>
Som (vLoadN 25 t4 σ9) fun t34 =>
Eff (storeW 25 t2 t34 σ9) fun _ σ10 =>
Ret [vLoadN 25 t2 σ10, some (.bool true)] σ10 Q))
theorem f14_eq (C : CW) (a0 : AVal) (σ : S) (Q : AVal → S → Prop) : f14 C   a0 σ Q = wC C f14.body (E0.set 0 a0) σ (retK f14.res Q) := by kernel_rfl
theorem f14_ent (a0 : AVal) : enterE [a0] (slotsN 35) E0 = some (E0.set 0 a0) := by kernel_rfl
set_option maxRecDepth 20000 in
theorem f14_wf {tab : Nat → Option PFn} (ht : tab 14 = some f14.fn) {a0 : AVal} {σ : S} {Q : AVal → S → Prop} (h : f14 (WF tab)   a0 σ Q) : WF tab 14 [a0] σ Q := wFn_sound ht (wFn_code (f14_ent a0) (Eq.mp (f14_eq (WF tab)   a0 σ Q) h))
noncomputable def f15.res : List PRes := [.tmp (sn 2)]
noncomputable def f15.body : PC := (.seq (.ops [oq 2 (.mov (.val (.str [])))]) (.seq (.seq (.ops [oq 3 (.mov (ot 0))]) (.block 0 (.seq (.ops [oq 5 (.bin .eql .num (ot 3) (.val (.int .i64 1))), oq 4 (.mov (ot 5))]) (.cond (ot 4) (.seq (.ops [oq 2 (.mov (.val (.str [100, 101, 108, 105, 118, 101, 114])))]) .ret) (.seq (.ops [oq 7 (.bin .eql .num (ot 3) (.val (.int .i64 3))), oq 6 (.mov (ot 7))]) (.cond (ot 6) (.seq (.ops [oq 2 (.mov (.val (.str [116, 119, 105, 99, 101])))]) .ret) (.seq (.ops [oq 9 (.bin .eql .num (ot 3) (.val (.int .i64 2))), oq 8 (.mov (ot 9))]) (.cond (ot 8) (.seq (.ops [oq 2 (.mov (.val (.str [100, 114, 111, 112])))]) .ret) (.seq (.ops [oq 11 (.bin .eql .num (ot 3) (.val (.int .i64 7))), oq 10 (.mov (ot 11))]) (.cond (ot 10) (.seq (.ops [oq 2 (.mov (.val (.str [99, 114, 97, 115, 104])))]) .ret) (.seq (.ops [oq 13 (.bin .eql .num (ot 3) (.val (.int .i64 4))), oq 12 (.mov (ot 13))]) (.cond (ot 12) (.seq (.ops [oq 2 (.mov (.val (.str [99, 117, 116])))]) .ret) (.seq (.ops [oq 15 (.bin .eql .num (ot 3) (.val (.int .i64 5))), oq 14 (.mov (ot 15))]) (.cond (ot 14) (.seq (.ops [oq 2 (.mov (.val (.str [109, 101, 110, 100])))]) .ret) (.seq (.ops [oq 17 (.bin .eql .num (ot 3) (.val (.int .i64 6))), oq 16 (.mov (ot 17))]) (.cond (ot 16) (.seq (.ops [oq 2 (.mov (.val (.str [116, 105, 99, 107])))]) .ret) (.seq (.ops [oq 19 (.bin .eql .num (ot 3) (.val (.int .i64 8))), oq 18 (.mov (ot 19))]) (.cond (ot 18) (.seq (.ops [oq 2 (.mov (.val (.str [115, 116, 97, 114, 116])))]) .ret) (.seq (.ops [oq 21 (.bin .eql .num (ot 3) (.val (.int .i64 12))), oq 20 (.mov (ot 21))]) (.cond (ot 20) (.seq (.ops [oq 2 (.mov (.val (.str [97, 114, 109])))]) .ret) (.seq (.ops [oq 23 (.bin .eql .num (ot 3) (.val (.int .i64 10))), oq 22 (.mov (ot 23))]) (.cond (ot 22) (.seq (.ops [oq 2 (.mov (.val (.str [99, 111, 109, 112, 97, 99, 116])))]) .ret) (.seq (.ops [oq 25 (.bin .eql .num (ot 3) (.val (.int .i64 11))), oq 24 (.mov (ot 25))]) (.cond (ot 24) (.seq (.ops [oq 2 (.mov (.val (.str [119, 105, 112, 101])))]) .ret) .skip)))))))))))))))))))))))) (.seq (.ops [oq 2 (.mov (.val (.str [])))]) .ret)))
noncomputable def f15.fn : PFn := .code (slotsN 26) f15.body f15.res
noncomputable def f15 (C : CW) (a0 : AVal) (σ : S) (Q : AVal → S → Prop) : Prop :=
Som (binA .eql .num a0 (.int .i64 1)) fun t5 =>
WIf t5 (
Ret [some (.str [100, 101, 108, 105, 118, 101, 114])] σ Q) (
Som (binA .eql .num a0 (.int .i64 3)) fun t7 =>
WIf t7 (
Ret [some (.str [116, 119, 105, 99, 101])] σ Q) (
Som (binA .eql .num a0 (.int .i64 2)) fun t9 =>
WIf t9 (
Ret [some (.str [100, 114, 111, 112])] σ Q) (
Som (binA .eql .num a0 (.int .i64 7)) fun t11 =>
WIf t11 (
Ret [some (.str [99, 114, 97, 115, 104])] σ Q) (
Som (binA .eql .num a0 (.int .i64 4)) fun t13 =>
WIf t13 (
Ret [some (.str [99, 117, 116])] σ Q) (
Som (binA .eql .num a0 (.int .i64 5)) fun t15 =>
WIf t15 (
Ret [some (.str [109, 101, 110, 100])] σ Q) (
Som (binA .eql .num a0 (.int .i64 6)) fun t17 =>
WIf t17 (
Ret [some (.str [116, 105, 99, 107])] σ Q) (
Som (binA .eql .num a0 (.int .i64 8)) fun t19 =>
WIf t19 (
Ret [some (.str [115, 116, 97, 114, 116])] σ Q) (
Som (binA .eql .num a0 (.int .i64 12)) fun t21 =>
WIf t21 (
Ret [some (.str [97, 114, 109])] σ Q) (
Som (binA .eql .num a0 (.int .i64 10)) fun t23 =>
WIf t23 (
Ret [some (.str [99, 111, 109, 112, 97, 99, 116])] σ Q) (
Som (binA .eql .num a0 (.int .i64 11)) fun t25 =>
WIf t25 (
Ret [some (.str [119, 105, 112, 101])] σ Q) (
Ret [some (.str [])] σ Q)))))))))))
theorem f15_eq (C : CW) (a0 : AVal) (σ : S) (Q : AVal → S → Prop) : f15 C   a0 σ Q = wC C f15.body (E0.set 0 a0) σ (retK f15.res Q) := by kernel_rfl
theorem f15_ent (a0 : AVal) : enterE [a0] (slotsN 26) E0 = some (E0.set 0 a0) := by kernel_rfl
set_option maxRecDepth 20000 in
theorem f15_wf {tab : Nat → Option PFn} (ht : tab 15 = some f15.fn) {a0 : AVal} {σ : S} {Q : AVal → S → Prop} (h : f15 (WF tab)   a0 σ Q) : WF tab 15 [a0] σ Q := wFn_sound ht (wFn_code (f15_ent a0) (Eq.mp (f15_eq (WF tab)   a0 σ Q) h))
noncomputable def f16.c0 : PC := (.seq (.ops [oq 17 (.bin .lss .num (ot 16) (ot 15))]) (.seq (.cond (ot 17) .skip (.exit 0)) (.seq (.block 1 (.seq (.ops [oq 18 (.mov (ot 16)), oq 19 (.ixSl 1 (ot 14) (ot 16)), oq 20 (.load1 (ot 19)), oq 5 (.mov (ot 18)), oq 6 (.mov (ot 20))]) (.seq (.ops [oq 22 (.mov (ot 6)), oe 23 (.call 31 [(ot 22)]), oq 21 (.mov (ot 23)), oq 24 (.extract 0 (ot 21)), oq 25 (.extract 1 (ot 21)), oq 7 (.mov (ot 24)), oq 8 (.mov (ot 25))]) (.seq (.seq (.ops [oq 26 (.mov (ot 8)), oq 27 (.bin .neq .ifc (ot 26) (.val .niface)), oq 28 (.mov (ot 27)), oqg 29 28 false (.mov (ot 7)), oeg 30 28 false (.call 32 [(ot 29)]), oqg 31 28 false (.mov (ot 6)), oqg 32 28 false (.bin .neq .num (ot 30) (ot 31)), oq 33 (.pick (ot 28) (.val (.bool true)) (ot 32))]) (.cond (ot 33) (.seq (.ops [oq 4 (.mov (.val (.bool false)))]) .ret) .skip)) (.ops [oq 34 (.mov (ot 1)), oq 35 (.mov (ot 5)), oq 36 (.ixSl 1 (ot 34) (ot 35)), oq 37 (.load1 (ot 36)), oq 38 (.mov (ot 7)), oq 39 (.nilck (ot 37)), ⟨none, none, (.e (.store 1 (ot 39) (ot 38)))⟩]))))) (.ops [oq 40 (.bin .add .num (ot 16) (.val (.int .i64 1))), oq 16 (.mov (ot 40))]))))
noncomputable def f16.res : List PRes := [.tmp (sn 4)]
noncomputable def f16.p0 (C : CW) (Q : AVal → S → Prop) (R0 : PC) (E : En) (σ : S) : Prop :=
Som (binA .lss .num (E 16) (E 15)) fun t17 =>
WIf t17 (
Som (vIxSl 1 (E 14) (E 16)) fun t19 =>
Som (vLoad1 t19 σ) fun t20 =>
C 31 [t20] σ fun t23 σ1 =>
Som (vExtract 0 t23) fun t24 =>
Som (vExtract 1 t23) fun t25 =>
Som (binA .neq .ifc t25 .niface) fun t27 =>
Som (gq1 (isB t27 false) (some t24)) fun t29 =>
gE1 (isB t27 false) (fun K => C 32 [t29] σ1 K) σ1 fun t30 σ2 =>
Som (gq1 (isB t27 false) (some t20)) fun t31 =>
Som (gq1 (isB t27 false) (binA .neq .num t30 t31)) fun t32 =>
Som (vPick t27 (.bool true) t32) fun t33 =>
WIf t33 (
Ret [some (.bool false)] σ2 Q) (
Som (vIxSl 1 (E 1) (E 16)) fun t36 =>
Som (vLoad1 t36 σ2) fun t37 =>
Som (vNilck t37) fun t39 =>
Eff (storeW 1 t39 t24 σ2) fun _ σ3 =>
Som (binA .add .num (E 16) (.int .i64 1)) fun t40 =>
wC C (.loop R0) (((((((((((((((((((((((((((((E.set 17 t17).set 18 (E 16)).set 19 t19).set 20 t20).set 5 (E 16)).set 6 t20).set 22 t20).set 23 t23).set 21 t23).set 24 t24).set 25 t25).set 7 t24).set 8 t25).set 26 t25).set 27 t27).set 28 t27).set 29 t29).set 30 t30).set 31 t31).set 32 t32).set 33 t33).set 34 (E 1)).set 35 (E 16)).set 36 t36).set 37 t37).set 38 t24).set 39 t39).set 40 t40).set 16 t40) σ3 (blockK 0 (seqK (wC C (.seq (.ops [oq 4 (.mov (.val (.bool true)))]) .ret)) (retK f16.res Q))))) (
Ret [some (.bool true)] σ Q)
theorem f16.p0_eq (C : CW) (Q : AVal → S → Prop) (R0 : PC) (E : En) (σ : S) : f16.p0 C Q R0 E σ = wC C f16.c0 E σ (loopK C R0 (blockK 0 (seqK (wC C (.seq (.ops [oq 4 (.mov (.val (.bool true)))]) .ret)) (retK f16.res Q)))) := by kernel_rfl
abbrev f16.L0 (C : CW) (Q : AVal → S → Prop) (E : En) (σ : S) : Prop := wC C (.loop f16.c0) E σ (blockK 0 (seqK (wC C (.seq (.ops [oq 4 (.mov (.val (.bool true)))]) .ret)) (retK f16.res Q)))
set_option maxRecDepth 20000 in
theorem f16.p0_of {tab : Nat → Option PFn} {Q : AVal → S → Prop} {E : En} {σ : S} (h : f16.p0 (WF tab) Q f16.c0 E σ) : f16.L0 (WF tab) Q E σ := wLoop_step (Eq.mp (f16.p0_eq (WF tab) Q f16.c0 E σ) h)
noncomputable def f16.body (R0 : PC) : PC := (.seq (.ops [oq 4 (.mov (.val (.bool false)))]) (.seq (.seq (.ops [oq 9 (.mov (ot 0)), oq 10 (.lenSl (ot 9)), oq 11 (.mov (ot 1)), oq 12 (.lenSl (ot 11)), oq 13 (.bin .neq .num (ot 10) (ot 12))]) (.cond (ot 13) (.seq (.ops [oq 4 (.mov (.val (.bool false)))]) .ret) .skip)) (.seq (.seq (.ops [oq 14 (.mov (ot 0)), oq 15 (.lenSl (ot 14)), oq 16 (.mov (.val (.int .i64 0)))]) (.block 0 (.loop R0))) (.seq (.ops [oq 4 (.mov (.val (.bool true)))]) .ret))))
noncomputable def f16.fn : PFn := .code (slotsN 41) (f16.body f16.c0) f16.res
noncomputable def f16 (C : CW) (R0 : PC) (a0 a1 : AVal) (σ : S) (Q : AVal → S → Prop) : Prop :=
Som (vLenSl a0) fun t10 =>
Som (vLenSl a1) fun t12 =>
Som (binA .neq .num t10 t12) fun t13 =>
WIf t13 (
Ret [some (.bool false)] σ Q) (
Som (vLenSl a0) fun t15 =>
wC C (.loop R0) (((((((((((E0.set 0 a0).set 1 a1).set 4 (.bool false)).set 9 a0).set 10 t10).set 11 a1).set 12 t12).set 13 t13).set 14 a0).set 15 t15).set 16 (.int .i64 0)) σ (blockK 0 (seqK (wC C (.seq (.ops [oq 4 (.mov (.val (.bool true)))]) .ret)) (retK f16.res Q))))
theorem f16_eq (C : CW) (R0 : PC) (a0 a1 : AVal) (σ : S) (Q : AVal → S → Prop) : f16 C R0  a0 a1 σ Q = wC C (f16.body R0) ((E0.set 0 a0).set 1 a1) σ (retK f16.res Q) := by kernel_rfl
theorem f16_ent (a0 a1 : AVal) : enterE [a0, a1] (slotsN 41) E0 = some ((E0.set 0 a0).set 1 a1) := by kernel_rfl
set_option maxRecDepth 20000 in
theorem f16_wf {tab : Nat → Option PFn} (ht : tab 16 = some f16.fn) {a0 a1 : AVal} {σ : S} {Q : AVal → S → Prop} (h : f16 (WF tab) f16.c0  a0 a1 σ Q) : WF tab 16 [a0, a1] σ Q := wFn_sound ht (wFn_code (f16_ent a0 a1) (Eq.mp (f16_eq (WF tab) f16.c0  a0 a1 σ Q) h))
noncomputable def f17.c3 : PC := (.cond (ot 43) (.seq (.ops [oq 46 (.mov (ot 0)), oq 47 (.nilck (ot 46)), oq 48 (.fieldAddr 1 (ot 47)), oa 49 (.bslice 1 [.nptr] 1 [(0, 1, (ot 48))]), oq 2 (.mov (ot 49))]) .ret) .skip)
noncomputable def f17.t2 (R3 : PC) : PC := (.cond (ot 32) (.seq (.draw 8 [⟨0, oq 36 (.mov (ot 0)), []⟩, ⟨1, oq 37 (.nilck (ot 36)), []⟩, ⟨2, oq 38 (.fieldAddr 1 (ot 37)), []⟩, ⟨3, oq 39 (.mov (ot 0)), []⟩, ⟨4, oq 40 (.nilck (ot 39)), []⟩, ⟨5, oq 41 (.fieldAddr 3 (ot 40)), []⟩, ⟨6, oa 42 (.bslice 1 [.nptr] 2 [(0, 1, (ot 38)), (1, 1, (ot 41))]), []⟩, ⟨7, oq 2 (.mov (ot 42)), []⟩]) .ret) (.seq (.seq (.ops [oq 44 (.bin .eql .num (ot 6) (.val (.int .i64 10))), oq 43 (.mov (ot 44))]) (.cond (ot 43) .skip (.ops [oq 45 (.bin .eql .num (ot 6) (.val (.int .i64 11))), oq 43 (.mov (ot 45))]))) R3))
noncomputable def f17.c2 : PC := f17.t2 f17.c3
noncomputable def f17.t1 (R2 : PC) : PC := (.cond (ot 22) (.seq (.draw 8 [⟨0, oq 25 (.mov (ot 0)), []⟩, ⟨1, oq 26 (.nilck (ot 25)), []⟩, ⟨2, oq 27 (.fieldAddr 1 (ot 26)), []⟩, ⟨3, oq 28 (.mov (ot 0)), []⟩, ⟨4, oq 29 (.nilck (ot 28)), []⟩, ⟨5, oq 30 (.fieldAddr 2 (ot 29)), []⟩, ⟨6, oa 31 (.bslice 1 [.nptr] 2 [(0, 1, (ot 27)), (1, 1, (ot 30))]), []⟩, ⟨7, oq 2 (.mov (ot 31)), []⟩]) .ret) (.seq (.seq (.ops [oq 33 (.bin .eql .num (ot 6) (.val (.int .i64 6))), oq 32 (.mov (ot 33))]) (.cond (ot 32) .skip (.seq (.ops [oq 34 (.bin .eql .num (ot 6) (.val (.int .i64 8))), oq 32 (.mov (ot 34))]) (.cond (ot 32) .skip (.ops [oq 35 (.bin .eql .num (ot 6) (.val (.int .i64 12))), oq 32 (.mov (ot 35))]))))) R2))
noncomputable def f17.c1 : PC := f17.t1 f17.c2
noncomputable def f17.t0 (R1 : PC) : PC := (.cond (ot 7) (.seq (.draw 11 [⟨0, oq 12 (.mov (ot 0)), []⟩, ⟨1, oq 13 (.nilck (ot 12)), []⟩, ⟨2, oq 14 (.fieldAddr 1 (ot 13)), []⟩, ⟨3, oq 15 (.mov (ot 0)), []⟩, ⟨4, oq 16 (.nilck (ot 15)), []⟩, ⟨5, oq 17 (.fieldAddr 2 (ot 16)), []⟩, ⟨6, oq 18 (.mov (ot 0)), []⟩, ⟨7, oq 19 (.nilck (ot 18)), []⟩, ⟨8, oq 20 (.fieldAddr 3 (ot 19)), []⟩, ⟨9, oa 21 (.bslice 1 [.nptr] 3 [(0, 1, (ot 14)), (1, 1, (ot 17)), (2, 1, (ot 20))]), []⟩, ⟨10, oq 2 (.mov (ot 21)), []⟩]) .ret) (.seq (.seq (.ops [oq 23 (.bin .eql .num (ot 6) (.val (.int .i64 4))), oq 22 (.mov (ot 23))]) (.cond (ot 22) .skip (.ops [oq 24 (.bin .eql .num (ot 6) (.val (.int .i64 5))), oq 22 (.mov (ot 24))]))) R1))
noncomputable def f17.c0 : PC := f17.t0 f17.c1
noncomputable def f17.res : List PRes := [.tmp (sn 2)]
noncomputable def f17.p3 (C : CW) (Q : AVal → S → Prop) (E : En) (σ : S) : Prop :=
WIf (E 43) (
Som (vNilck (E 0)) fun t47 =>
Som (vFieldAddr 1 t47) fun t48 =>
Ala (aSliceV 1 [.nptr] 1 [(0, 1, t48)]) σ fun t49 σ1 =>
Ret [some t49] σ1 Q) (
Ret [some .nsl] σ Q)
theorem f17.p3_eq (C : CW) (Q : AVal → S → Prop) (E : En) (σ : S) : f17.p3 C Q  E σ = wC C f17.c3 E σ (blockK 0 (seqK (wC C (.seq (.ops [oq 2 (.mov (.val .nsl))]) .ret)) (retK f17.res Q))) := by kernel_rfl
abbrev f17.J3 (C : CW) (Q : AVal → S → Prop) (E : En) (σ : S) : Prop := wC C f17.c3 E σ (blockK 0 (seqK (wC C (.seq (.ops [oq 2 (.mov (.val .nsl))]) .ret)) (retK f17.res Q)))
set_option maxRecDepth 20000 in
theorem f17.p3_of {C : CW} {Q : AVal → S → Prop} {E : En} {σ : S} (h : f17.p3 C Q  E σ) : f17.J3 C Q E σ := Eq.mp (f17.p3_eq C Q  E σ) h
noncomputable def f17.p2 (C : CW) (Q : AVal → S → Prop) (R3 : PC) (E : En) (σ : S) : Prop :=
WIf (E 32) (
Som (vNilck (E 0)) fun t37 =>
Som (vFieldAddr 1 t37) fun t38 =>
Som (vNilck (E 0)) fun t40 =>
Som (vFieldAddr 3 t40) fun t41 =>
Alb (aSliceV 1 [.nptr] 2 [(0, 1, t38), (1, 1, t41)]) (Pos.plusT 6 σ.next) (σ.bumpT 8) fun t42 σ1 =>
Ret [some t42] σ1 Q) (
Som (binA .eql .num (E 6) (.int .i64 10)) fun t44 =>
WIf t44 (
wC C R3 ((E.set 44 t44).set 43 t44) σ (blockK 0 (seqK (wC C (.seq (.ops [oq 2 (.mov (.val .nsl))]) .ret)) (retK f17.res Q)))) (
Som (binA .eql .num (E 6) (.int .i64 11)) fun t45 =>
wC C R3 ((((E.set 44 t44).set 43 t44).set 45 t45).set 43 t45) σ (blockK 0 (seqK (wC C (.seq (.ops [oq 2 (.mov (.val .nsl))]) .ret)) (retK f17.res Q)))))
theorem f17.p2_eq (C : CW) (Q : AVal → S → Prop) (R3 : PC) (E : En) (σ : S) : f17.p2 C Q R3 E σ = wC C (f17.t2 R3) E σ (blockK 0 (seqK (wC C (.seq (.ops [oq 2 (.mov (.val .nsl))]) .ret)) (retK f17.res Q))) := by kernel_rfl
abbrev f17.J2 (C : CW) (Q : AVal → S → Prop) (E : En) (σ : S) : Prop := wC C f17.c2 E σ (blockK 0 (seqK (wC C (.seq (.ops [oq 2 (.mov (.val .nsl))]) .ret)) (retK f17.res Q)))
set_option maxRecDepth 20000 in
theorem f17.p2_of {C : CW} {Q : AVal → S → Prop} {E : En} {σ : S} (h : f17.p2 C Q f17.c3 E σ) : f17.J2 C Q E σ := Eq.mp (f17.p2_eq C Q f17.c3 E σ) h
noncomputable def f17.p1 (C : CW) (Q : AVal → S → Prop) (R2 : PC) (E : En) (σ : S) : Prop :=
WIf (E 22) (
Som (vNilck (E 0)) fun t26 =>
Som (vFieldAddr 1 t26) fun t27 =>
Som (vNilck (E 0)) fun t29 =>
Som (vFieldAddr 2 t29) fun t30 =>
Alb (aSliceV 1 [.nptr] 2 [(0, 1, t27), (1, 1, t30)]) (Pos.plusT 6 σ.next) (σ.bumpT 8) fun t31 σ1 =>
Ret [some t31] σ1 Q) (
Som (binA .eql .num (E 6) (.int .i64 6)) fun t33 =>
WIf t33 (
wC C R2 ((E.set 33 t33).set 32 t33) σ (blockK 0 (seqK (wC C (.seq (.ops [oq 2 (.mov (.val .nsl))]) .ret)) (retK f17.res Q)))) (
Som (binA .eql .num (E 6) (.int .i64 8)) fun t34 =>
WIf t34 (
wC C R2 ((((E.set 33 t33).set 32 t33).set 34 t34).set 32 t34) σ (blockK 0 (seqK (wC C (.seq (.ops [oq 2 (.mov (.val .nsl))]) .ret)) (retK f17.res Q)))) (
Som (binA .eql .num (E 6) (.int .i64 12)) fun t35 =>
wC C R2 ((((((E.set 33 t33).set 32 t33).set 34 t34).set 32 t34).set 35 t35).set 32 t35) σ (blockK 0 (seqK (wC C (.seq (.ops [oq 2 (.mov (.val .nsl))]) .ret)) (retK f17.res Q))))))
theorem f17.p1_eq (C : CW) (Q : AVal → S → Prop) (R2 : PC) (E : En) (σ : S) : f17.p1 C Q R2 E σ = wC C (f17.t1 R2) E σ (blockK 0 (seqK (wC C (.seq (.ops [oq 2 (.mov (.val .nsl))]) .ret)) (retK f17.res Q))) := by kernel_rfl
abbrev f17.J1 (C : CW) (Q : AVal → S → Prop) (E : En) (σ : S) : Prop := wC C f17.c1 E σ (blockK 0 (seqK (wC C (.seq (.ops [oq 2 (.mov (.val .nsl))]) .ret)) (retK f17.res Q)))
set_option maxRecDepth 20000 in
theorem f17.p1_of {C : CW} {Q : AVal → S → Prop} {E : En} {σ : S} (h : f17.p1 C Q f17.c2 E σ) : f17.J1 C Q E σ := Eq.mp (f17.p1_eq C Q f17.c2 E σ) h
noncomputable def f17.p0 (C : CW) (Q : AVal → S → Prop) (R1 : PC) (E : En) (σ : S) : Prop :=
WIf (E 7) (
Som (vNilck (E 0)) fun t13 =>
Som (vFieldAddr 1 t13) fun t14 =>
Som (vNilck (E 0)) fun t16 =>
Som (vFieldAddr 2 t16) fun t17 =>
Som (vNilck (E 0)) fun t19 =>
Som (vFieldAddr 3 t19) fun t20 =>
Alb (aSliceV 1 [.nptr] 3 [(0, 1, t14), (1, 1, t17), (2, 1, t20)]) (Pos.plusT 9 σ.next) (σ.bumpT 11) fun t21 σ1 =>
Ret [some t21] σ1 Q) (
Som (binA .eql .num (E 6) (.int .i64 4)) fun t23 =>
WIf t23 (
wC C R1 ((E.set 23 t23).set 22 t23) σ (blockK 0 (seqK (wC C (.seq (.ops [oq 2 (.mov (.val .nsl))]) .ret)) (retK f17.res Q)))) (
Som (binA .eql .num (E 6) (.int .i64 5)) fun t24 =>
wC C R1 ((((E.set 23 t23).set 22 t23).set 24 t24).set 22 t24) σ (blockK 0 (seqK (wC C (.seq (.ops [oq 2 (.mov (.val .nsl))]) .ret)) (retK f17.res Q)))))
theorem f17.p0_eq (C : CW) (Q : AVal → S → Prop) (R1 : PC) (E : En) (σ : S) : f17.p0 C Q R1 E σ = wC C (f17.t0 R1) E σ (blockK 0 (seqK (wC C (.seq (.ops [oq 2 (.mov (.val .nsl))]) .ret)) (retK f17.res Q))) := by kernel_rfl
abbrev f17.J0 (C : CW) (Q : AVal → S → Prop) (E : En) (σ : S) : Prop := wC C f17.c0 E σ (blockK 0 (seqK (wC C (.seq (.ops [oq 2 (.mov (.val .nsl))]) .ret)) (retK f17.res Q)))
set_option maxRecDepth 20000 in
theorem f17.p0_of {C : CW} {Q : AVal → S → Prop} {E : En} {σ : S} (h : f17.p0 C Q f17.c1 E σ) : f17.J0 C Q E σ := Eq.mp (f17.p0_eq C Q f17.c1 E σ) h
noncomputable def f17.body (R0 : PC) : PC := (.seq (.ops [oq 2 (.mov (.val .nsl))]) (.seq (.seq (.ops [oq 3 (.mov (ot 0)), oq 4 (.nilck (ot 3)), oq 5 (.fieldAddr 0 (ot 4)), oq 6 (.load1 (ot 5))]) (.block 0 (.seq (.seq (.ops [oq 8 (.bin .eql .num (ot 6) (.val (.int .i64 1))), oq 7 (.mov (ot 8))]) (.cond (ot 7) .skip (.seq (.ops [oq 9 (.bin .eql .num (ot 6) (.val (.int .i64 3))), oq 7 (.mov (ot 9))]) (.cond (ot 7) .skip (.seq (.ops [oq 10 (.bin .eql .num (ot 6) (.val (.int .i64 2))), oq 7 (.mov (ot 10))]) (.cond (ot 7) .skip (.ops [oq 11 (.bin .eql .num (ot 6) (.val (.int .i64 7))), oq 7 (.mov (ot 11))]))))))) R0))) (.seq (.ops [oq 2 (.mov (.val .nsl))]) .ret)))
noncomputable def f17.fn : PFn := .code (slotsN 50) (f17.body f17.c0) f17.res
noncomputable def f17 (C : CW) (R0 : PC) (a0 : AVal) (σ : S) (Q : AVal → S → Prop) : Prop :=
Som (vNilck a0) fun t4 =>
Som (vFieldAddr 0 t4) fun t5 =>
Som (vLoad1 t5 σ) fun t6 =>
Som (binA .eql .num t6 (.int .i64 1)) fun t8 =>
WIf t8 (
wC C R0 ((((((((E0.set 0 a0).set 2 .nsl).set 3 a0).set 4 t4).set 5 t5).set 6 t6).set 8 t8).set 7 t8) σ (blockK 0 (seqK (wC C (.seq (.ops [oq 2 (.mov (.val .nsl))]) .ret)) (retK f17.res Q)))) (
Som (binA .eql .num t6 (.int .i64 3)) fun t9 =>
WIf t9 (
wC C R0 ((((((((((E0.set 0 a0).set 2 .nsl).set 3 a0).set 4 t4).set 5 t5).set 6 t6).set 8 t8).set 7 t8).set 9 t9).set 7 t9) σ (blockK 0 (seqK (wC C (.seq (.ops [oq 2 (.mov (.val .nsl))]) .ret)) (retK f17.res Q)))) (
Som (binA .eql .num t6 (.int .i64 2)) fun t10 =>
WIf t10 (
wC C R0 ((((((((((((E0.set 0 a0).set 2 .nsl).set 3 a0).set 4 t4).set 5 t5).set 6 t6).set 8 t8).set 7 t8).set 9 t9).set 7 t9).set 10 t10).set 7 t10) σ (blockK 0 (seqK (wC C (.seq (.ops [oq 2 (.mov (.val .nsl))]) .ret)) (retK f17.res Q)))) (
Som (binA .eql .num t6 (.int .i64 7)) fun t11 =>
wC C R0 ((((((((((((((E0.set 0 a0).set 2 .nsl).set 3 a0).set 4 t4).set 5 t5).set 6 t6).set 8 t8).set 7 t8).set 9 t9).set 7 t9).set 10 t10).set 7 t10).set 11 t11).set 7 t11) σ (blockK 0 (seqK (wC C (.seq (.ops [oq 2 (.mov (.val .nsl))]) .ret)) (retK f17.res Q))))))
theorem f17_eq (C : CW) (R0 : PC) (a0 : AVal) (σ : S) (Q : AVal → S → Prop) : f17 C R0  a0 σ Q = wC C (f17.body R0) (E0.set 0 a0) σ (retK f17.res Q) := by kernel_rfl
theorem f17_ent (a0 : AVal) : enterE [a0] (slotsN 50) E0 = some (E0.set 0 a0) := by kernel_rfl
set_option maxRecDepth 20000 in
theorem f17_wf {tab : Nat → Option PFn} (ht : tab 17 = some f17.fn) {a0 : AVal} {σ : S} {Q : AVal → S → Prop} (h : f17 (WF tab) f17.c0  a0 σ Q) : WF tab 17 [a0] σ Q := wFn_sound ht (wFn_code (f17_ent a0) (Eq.mp (f17_eq (WF tab) f17.c0  a0 σ Q) h))
noncomputable def f18.c0 : PC := (.seq (.seq (.ops [oq 7 (.mov (ot 6)), oq 8 (.mov (ot 0)), oq 9 (.lenStr (ot 8)), oq 10 (.bin .leq .num (ot 7) (ot 9))]) (.cond (ot 10) .skip (.exit 0))) (.seq (.block 1 (.seq (.ops [oq 13 (.mov (ot 6)), oq 14 (.mov (ot 0)), oq 15 (.lenStr (ot 14)), oq 16 (.bin .eql .num (ot 13) (ot 15)), oq 17 (.mov (ot 16)), oqg 18 17 false (.mov (ot 0)), oqg 19 17 false (.mov (ot 6)), oqg 20 17 false (.idxStr (ot 18) (ot 19)), oqg 21 17 false (.bin .eql .num (ot 20) (.val (.int .u8 32))), oq 22 (.pick (ot 17) (.val (.bool true)) (ot 21))]) (.cond (ot 22) (.seq (.seq (.ops [oq 23 (.mov (ot 6)), oq 24 (.mov (ot 5)), oq 25 (.bin .eql .num (ot 23) (ot 24))]) (.cond (ot 25) (.seq (.ops [oq 2 (.mov (.val .nsl)), oq 3 (.mov (.val (.bool false)))]) .ret) .skip)) (.seq (.ops [oq 26 (.mov (ot 4)), oq 27 (.mov (ot 0)), oq 28 (.mov (ot 5)), oq 29 (.mov (ot 6)), oq 30 (.slStr (ot 27) (some (ot 28)) (some (ot 29))), oa 31 (.bslice 1 [(.str [])] 1 [(0, 1, (ot 30))]), oe 32 (.append 1 16 (ot 26) (ot 31)), oq 4 (.mov (ot 32))]) (.ops [oq 33 (.mov (ot 6)), oq 34 (.bin .add .num (ot 33) (.val (.int .i64 1))), oq 5 (.mov (ot 34))]))) .skip))) (.ops [oq 11 (.mov (ot 6)), oq 12 (.bin .add .num (ot 11) (.val (.int .i64 1))), oq 6 (.mov (ot 12))])))
noncomputable def f18.res : List PRes := [.tmp (sn 2), .tmp (sn 3)]
noncomputable def f18.p0 (C : CW) (Q : AVal → S → Prop) (R0 : PC) (E : En) (σ : S) : Prop :=
Som (vLenStr (E 0)) fun t9 =>
Som (binA .leq .num (E 6) t9) fun t10 =>
WIf t10 (
Som (vLenStr (E 0)) fun t15 =>
Som (binA .eql .num (E 6) t15) fun t16 =>
Som (gq1 (isB t16 false) (some (E 0))) fun t18 =>
Som (gq1 (isB t16 false) (some (E 6))) fun t19 =>
Som (gq1 (isB t16 false) (vIdxStr t18 t19)) fun t20 =>
Som (gq1 (isB t16 false) (binA .eql .num t20 (.int .u8 32))) fun t21 =>
Som (vPick t16 (.bool true) t21) fun t22 =>
WIf t22 (
Som (binA .eql .num (E 6) (E 5)) fun t25 =>
WIf t25 (
Ret [some .nsl, some (.bool false)] σ Q) (
Som (vSlStr (E 0) (some (E 5)) (some (E 6))) fun t30 =>
Ala (aSliceV 1 [(.str [])] 1 [(0, 1, t30)]) σ fun t31 σ1 =>
Eff (appendA 1 1 16 (E 4) t31 σ1) fun t32 σ2 =>
Som (binA .add .num (E 6) (.int .i64 1)) fun t34 =>
Som (binA .add .num (E 6) (.int .i64 1)) fun t12 =>
wC C (.loop R0) (((((((((((((((((((((((((((((((E.set 7 (E 6)).set 8 (E 0)).set 9 t9).set 10 t10).set 13 (E 6)).set 14 (E 0)).set 15 t15).set 16 t16).set 17 t16).set 18 t18).set 19 t19).set 20 t20).set 21 t21).set 22 t22).set 23 (E 6)).set 24 (E 5)).set 25 t25).set 26 (E 4)).set 27 (E 0)).set 28 (E 5)).set 29 (E 6)).set 30 t30).set 31 t31).set 32 t32).set 4 t32).set 33 (E 6)).set 34 t34).set 5 t34).set 11 (E 6)).set 12 t12).set 6 t12) σ2 (blockK 0 (seqK (wC C (.seq (.ops [oq 35 (.mov (ot 4)), oq 2 (.mov (ot 35)), oq 3 (.mov (.val (.bool true)))]) .ret)) (retK f18.res Q))))) (
Som (binA .add .num (E 6) (.int .i64 1)) fun t12 =>
wC C (.loop R0) (((((((((((((((((E.set 7 (E 6)).set 8 (E 0)).set 9 t9).set 10 t10).set 13 (E 6)).set 14 (E 0)).set 15 t15).set 16 t16).set 17 t16).set 18 t18).set 19 t19).set 20 t20).set 21 t21).set 22 t22).set 11 (E 6)).set 12 t12).set 6 t12) σ (blockK 0 (seqK (wC C (.seq (.ops [oq 35 (.mov (ot 4)), oq 2 (.mov (ot 35)), oq 3 (.mov (.val (.bool true)))]) .ret)) (retK f18.res Q))))) (
Ret [some (E 4), some (.bool true)] σ Q)
theorem f18.p0_eq (C : CW) (Q : AVal → S → Prop) (R0 : PC) (E : En) (σ : S) : f18.p0 C Q R0 E σ = wC C f18.c0 E σ (loopK C R0 (blockK 0 (seqK (wC C (.seq (.ops [oq 35 (.mov (ot 4)), oq 2 (.mov (ot 35)), oq 3 (.mov (.val (.bool true)))]) .ret)) (retK f18.res Q)))) := by kernel_rfl
abbrev f18.L0 (C : CW) (Q : AVal → S → Prop) (E : En) (σ : S) : Prop := wC C (.loop f18.c0) E σ (blockK 0 (seqK (wC C (.seq (.ops [oq 35 (.mov (ot 4)), oq 2 (.mov (ot 35)), oq 3 (.mov (.val (.bool true)))]) .ret)) (retK f18.res Q)))
set_option maxRecDepth 20000 in
theorem f18.p0_of {tab : Nat → Option PFn} {Q : AVal → S → Prop} {E : En} {σ : S} (h : f18.p0 (WF tab) Q f18.c0 E σ) : f18.L0 (WF tab) Q E σ := wLoop_step (Eq.mp (f18.p0_eq (WF tab) Q f18.c0 E σ) h)
noncomputable def f18.body (R0 : PC) : PC := (.seq (.ops [oq 2 (.mov (.val .nsl)), oq 3 (.mov (.val (.bool false)))]) (.seq (.ops [oq 4 (.mov (.val .nsl))]) (.seq (.ops [oq 5 (.mov (.val (.int .i64 0)))]) (.seq (.seq (.ops [oq 6 (.mov (.val (.int .i64 0)))]) (.block 0 (.loop R0))) (.seq (.ops [oq 35 (.mov (ot 4)), oq 2 (.mov (ot 35)), oq 3 (.mov (.val (.bool true)))]) .ret)))))
noncomputable def f18.fn : PFn := .code (slotsN 36) (f18.body f18.c0) f18.res
noncomputable def f18 (C : CW) (R0 : PC) (a0 : AVal) (σ : S) (Q : AVal → S → Prop) : Prop :=
wC C (.loop R0) ((((((E0.set 0 a0).set 2 .nsl).set 3 (.bool false)).set 4 .nsl).set 5 (.int .i64 0)).set 6 (.int .i64 0)) σ (blockK 0 (seqK (wC C (.seq (.ops [oq 35 (.mov (ot 4)), oq 2 (.mov (ot 35)), oq 3 (.mov (.val (.bool true)))]) .ret)) (retK f18.res Q)))
theorem f18_eq (C : CW) (R0 : PC) (a0 : AVal) (σ : S) (Q : AVal → S → Prop) : f18 C R0  a0 σ Q = wC C (f18.body R0) (E0.set 0 a0) σ (retK f18.res Q) := by kernel_rfl
theorem f18_ent (a0 : AVal) : enterE [a0] (slotsN 36) E0 = some (E0.set 0 a0) := by kernel_rfl
set_option maxRecDepth 20000 in
theorem f18_wf {tab : Nat → Option PFn} (ht : tab 18 = some f18.fn) {a0 : AVal} {σ : S} {Q : AVal → S → Prop} (h : f18 (WF tab) f18.c0  a0 σ Q) : WF tab 18 [a0] σ Q := wFn_sound ht (wFn_code (f18_ent a0) (Eq.mp (f18_eq (WF tab) f18.c0  a0 σ Q) h))
noncomputable def f19.c0 : PC := (.seq (.seq (.ops [oq 14 (.mov (ot 7)), oq 15 (.mov (ot 1)), oq 16 (.bin .lss .num (ot 14) (ot 15))]) (.cond (ot 16) .skip (.exit 0))) (.seq (.block 1 (.seq (.ops [oq 20 (.mov (ot 0)), oq 21 (.mov (ot 7)), oq 22 (.ixSl 1 (ot 20) (ot 21)), oq 23 (.load1 (ot 22)), oe 24 (.call 33 [(ot 23)]), oq 19 (.mov (ot 24)), oq 25 (.extract 0 (ot 19)), oq 26 (.extract 1 (ot 19)), oq 8 (.mov (ot 25)), oq 9 (.mov (ot 26))]) (.seq (.seq (.ops [oq 27 (.mov (ot 9)), oq 28 (.un .not (ot 27))]) (.cond (ot 28) (.seq (.ops [oq 4 (.mov (.val .nsl)), oq 5 (.mov (.val (.bool false)))]) .ret) .skip)) (.ops [oq 29 (.mov (ot 6)), oq 30 (.mov (ot 8)), oa 31 (.bslice 1 [(.int .i64 0)] 1 [(0, 1, (ot 30))]), oe 32 (.append 1 8 (ot 29) (ot 31)), oq 6 (.mov (ot 32))])))) (.ops [oq 17 (.mov (ot 7)), oq 18 (.bin .add .num (ot 17) (.val (.int .i64 1))), oq 7 (.mov (ot 18))])))
noncomputable def f19.res : List PRes := [.tmp (sn 4), .tmp (sn 5)]
noncomputable def f19.p0 (C : CW) (Q : AVal → S → Prop) (R0 : PC) (E : En) (σ : S) : Prop :=
Som (binA .lss .num (E 7) (E 1)) fun t16 =>
WIf t16 (
Som (vIxSl 1 (E 0) (E 7)) fun t22 =>
Som (vLoad1 t22 σ) fun t23 =>
C 33 [t23] σ fun t24 σ1 =>
Som (vExtract 0 t24) fun t25 =>
Som (vExtract 1 t24) fun t26 =>
Som (unA .not t26) fun t28 =>
WIf t28 (
Ret [some .nsl, some (.bool false)] σ1 Q) (
Ala (aSliceV 1 [(.int .i64 0)] 1 [(0, 1, t25)]) σ1 fun t31 σ2 =>
Eff (appendA 1 1 8 (E 6) t31 σ2) fun t32 σ3 =>
Som (binA .add .num (E 7) (.int .i64 1)) fun t18 =>
wC C (.loop R0) (((((((((((((((((((((((E.set 14 (E 7)).set 15 (E 1)).set 16 t16).set 20 (E 0)).set 21 (E 7)).set 22 t22).set 23 t23).set 24 t24).set 19 t24).set 25 t25).set 26 t26).set 8 t25).set 9 t26).set 27 t26).set 28 t28).set 29 (E 6)).set 30 t25).set 31 t31).set 32 t32).set 6 t32).set 17 (E 7)).set 18 t18).set 7 t18) σ3 (blockK 0 (seqK (wC C (.seq (.ops [oq 33 (.mov (ot 6)), oq 4 (.mov (ot 33)), oq 5 (.mov (.val (.bool true)))]) .ret)) (retK f19.res Q))))) (
Ret [some (E 6), some (.bool true)] σ Q)
theorem f19.p0_eq (C : CW) (Q : AVal → S → Prop) (R0 : PC) (E : En) (σ : S) : f19.p0 C Q R0 E σ = wC C f19.c0 E σ (loopK C R0 (blockK 0 (seqK (wC C (.seq (.ops [oq 33 (.mov (ot 6)), oq 4 (.mov (ot 33)), oq 5 (.mov (.val (.bool true)))]) .ret)) (retK f19.res Q)))) := by kernel_rfl
abbrev f19.L0 (C : CW) (Q : AVal → S → Prop) (E : En) (σ : S) : Prop := wC C (.loop f19.c0) E σ (blockK 0 (seqK (wC C (.seq (.ops [oq 33 (.mov (ot 6)), oq 4 (.mov (ot 33)), oq 5 (.mov (.val (.bool true)))]) .ret)) (retK f19.res Q)))
set_option maxRecDepth 20000 in
theorem f19.p0_of {tab : Nat → Option PFn} {Q : AVal → S → Prop} {E : En} {σ : S} (h : f19.p0 (WF tab) Q f19.c0 E σ) : f19.L0 (WF tab) Q E σ := wLoop_step (Eq.mp (f19.p0_eq (WF tab) Q f19.c0 E σ) h)
noncomputable def f19.body (R0 : PC) : PC := (.seq (.ops [oq 4 (.mov (.val .nsl)), oq 5 (.mov (.val (.bool false)))]) (.seq (.seq (.ops [oq 10 (.mov (ot 0)), oq 11 (.lenSl (ot 10)), oq 12 (.mov (ot 1)), oq 13 (.bin .neq .num (ot 11) (ot 12))]) (.cond (ot 13) (.seq (.ops [oq 4 (.mov (.val .nsl)), oq 5 (.mov (.val (.bool false)))]) .ret) .skip)) (.seq (.ops [oq 6 (.mov (.val .nsl))]) (.seq (.seq (.ops [oq 7 (.mov (.val (.int .i64 0)))]) (.block 0 (.loop R0))) (.seq (.ops [oq 33 (.mov (ot 6)), oq 4 (.mov (ot 33)), oq 5 (.mov (.val (.bool true)))]) .ret)))))
noncomputable def f19.fn : PFn := .code (slotsN 34) (f19.body f19.c0) f19.res
noncomputable def f19 (C : CW) (R0 : PC) (a0 a1 : AVal) (σ : S) (Q : AVal → S → Prop) : Prop :=
Som (vLenSl a0) fun t11 =>
Som (binA .neq .num t11 a1) fun t13 =>
WIf t13 (
Ret [some .nsl, some (.bool false)] σ Q) (
wC C (.loop R0) ((((((((((E0.set 0 a0).set 1 a1).set 4 .nsl).set 5 (.bool false)).set 10 a0).set 11 t11).set 12 a1).set 13 t13).set 6 .nsl).set 7 (.int .i64 0)) σ (blockK 0 (seqK (wC C (.seq (.ops [oq 33 (.mov (ot 6)), oq 4 (.mov (ot 33)), oq 5 (.mov (.val (.bool true)))]) .ret)) (retK f19.res Q))))
theorem f19_eq (C : CW) (R0 : PC) (a0 a1 : AVal) (σ : S) (Q : AVal → S → Prop) : f19 C R0  a0 a1 σ Q = wC C (f19.body R0) ((E0.set 0 a0).set 1 a1) σ (retK f19.res Q) := by kernel_rfl
theorem f19_ent (a0 a1 : AVal) : enterE [a0, a1] (slotsN 34) E0 = some ((E0.set 0 a0).set 1 a1) := by kernel_rfl
set_option maxRecDepth 20000 in
theorem f19_wf {tab : Nat → Option PFn} (ht : tab 19 = some f19.fn) {a0 a1 : AVal} {σ : S} {Q : AVal → S → Prop} (h : f19 (WF tab) f19.c0  a0 a1 σ Q) : WF tab 19 [a0, a1] σ Q := wFn_sound ht (wFn_code (f19_ent a0 a1) (Eq.mp (f19_eq (WF tab) f19.c0  a0 a1 σ Q) h))
end Go.Am
