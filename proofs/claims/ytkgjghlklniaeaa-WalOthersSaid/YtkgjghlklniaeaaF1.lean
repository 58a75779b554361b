/-
  Functions of the program as conditions. Conditions: none.
-/
import Derived.Test.YtkgjghlklniaeaaF0
import Derived.KernelRfl
namespace Go.Am
/-! dray/disk.fresh -/
noncomputable def f35.res : List PRes := [.tmp (sn 2)]
noncomputable def f35.body : PC := (.seq (.ops [oq 2 (.mov (.val .nptr))]) (.seq (.draw 6 [⟨0, oq 3 (.mov (ot 0)), []⟩, ⟨1, oa 4 (.mkslice 1 24 [.nsl] (.val (.int .i64 64)) (.val (.int .i64 64))), []⟩, ⟨2, oa 5 (.mkslice 1 24 [.nsl] (.val (.int .i64 64)) (.val (.int .i64 64))), []⟩, ⟨3, oq 6 (.build [(.int .i64 0), .nsl, .nsl, .nsl, (.int .i64 0), (.bool false)] [(0, 1, (ot 3)), (1, 1, (ot 4)), (2, 1, (ot 5))]), []⟩, ⟨4, oa 7 (.box (ot 6)), []⟩, ⟨5, oq 2 (.mov (ot 7)), []⟩]) .ret))
noncomputable def f35.fn : PFn := .code (slotsN 8) f35.body f35.res
noncomputable def f35 (C : CW) (a0 : AVal) (σ : S) (Q : AVal → S → Prop) : Prop :=
Alb (aMakeV 1 24 [.nsl] (.int .i64 64) (.int .i64 64)) (Pos.plusT 1 σ.next) (σ.bumpT 6) fun t4 σ1 =>
Alb (aMakeV 1 24 [.nsl] (.int .i64 64) (.int .i64 64)) (Pos.plusT 2 σ.next) σ1 fun t5 σ2 =>
Som (vBuild [(.int .i64 0), .nsl, .nsl, .nsl, (.int .i64 0), (.bool false)] [(0, 1, a0), (1, 1, t4), (2, 1, t5)]) fun t6 =>
Alb (aBoxV t6) (Pos.plusT 4 σ.next) σ2 fun t7 σ3 =>
Ret [some t7] σ3 Q
theorem f35_eq (C : CW) (a0 : AVal) (σ : S) (Q : AVal → S → Prop) : f35 C   a0 σ Q = wC C (.seq (.ops [oq 2 (.mov (.val .nptr))]) (.seq (.draw 6 [⟨0, oq 3 (.mov (ot 0)), []⟩, ⟨1, oa 4 (.mkslice 1 24 [.nsl] (.val (.int .i64 64)) (.val (.int .i64 64))), []⟩, ⟨2, oa 5 (.mkslice 1 24 [.nsl] (.val (.int .i64 64)) (.val (.int .i64 64))), []⟩, ⟨3, oq 6 (.build [(.int .i64 0), .nsl, .nsl, .nsl, (.int .i64 0), (.bool false)] [(0, 1, (ot 3)), (1, 1, (ot 4)), (2, 1, (ot 5))]), []⟩, ⟨4, oa 7 (.box (ot 6)), []⟩, ⟨5, oq 2 (.mov (ot 7)), []⟩]) .ret)) (E0.set 0 a0) σ (retK f35.res Q) := by kernel_rfl
theorem f35_ent (a0 : AVal) : enterE [a0] (slotsN 8) E0 = some (E0.set 0 a0) := by kernel_rfl
set_option maxRecDepth 20000 in
theorem f35_wf {tab : Nat → Option PFn} (ht : tab 35 = some f35.fn) {a0 : AVal} {σ : S} {Q : AVal → S → Prop} (h : f35 (WF tab)   a0 σ Q) : WF tab 35 [a0] σ Q := wFn_sound ht (wFn_code (f35_ent a0) (Eq.mp (f35_eq (WF tab)   a0 σ Q) h))
/-! *dray/disk.Disk.counted -/
noncomputable def f36.res : List PRes := [.tmp (sn 2)]
noncomputable def f36.body : PC := (.seq (.ops [oq 2 (.mov (.val (.bool false)))]) (.seq (.seq (.ops [oq 3 (.mov (ot 0)), oq 4 (.nilck (ot 3)), oq 5 (.fieldAddr 5 (ot 4)), oq 6 (.load1 (ot 5))]) (.cond (ot 6) (.seq (.ops [oq 2 (.mov (.val (.bool false)))]) .ret) .skip)) (.seq (.seq (.ops [oq 7 (.mov (ot 0)), oq 8 (.nilck (ot 7)), oq 9 (.fieldAddr 4 (ot 8)), oq 10 (.load1 (ot 9)), oq 11 (.bin .gtr .num (ot 10) (.val (.int .i64 0)))]) (.cond (ot 11) (.seq (.ops [oq 12 (.mov (ot 0)), oq 13 (.nilck (ot 12)), oq 14 (.fieldAddr 4 (ot 13)), oq 15 (.load1 (ot 14)), oq 16 (.bin .sub .num (ot 15) (.val (.int .i64 1))), oq 17 (.nilck (ot 12)), oq 18 (.fieldAddr 4 (ot 17)), ⟨none, none, (.e (.store 1 (ot 18) (ot 16)))⟩]) (.ops [oq 19 (.mov (ot 0)), oq 20 (.mov (ot 0)), oq 21 (.nilck (ot 20)), oq 22 (.fieldAddr 4 (ot 21)), oq 23 (.load1 (ot 22)), oq 24 (.bin .eql .num (ot 23) (.val (.int .i64 0))), oq 25 (.nilck (ot 19)), oq 26 (.fieldAddr 5 (ot 25)), ⟨none, none, (.e (.store 1 (ot 26) (ot 24)))⟩])) .skip)) (.seq (.ops [oq 27 (.mov (ot 0)), oq 28 (.nilck (ot 27)), oq 29 (.fieldAddr 5 (ot 28)), oq 30 (.load1 (ot 29)), oq 31 (.un .not (ot 30)), oq 2 (.mov (ot 31))]) .ret))))
noncomputable def f36.fn : PFn := .code (slotsN 32) f36.body f36.res
noncomputable def f36 (C : CW) (a0 : AVal) (σ : S) (Q : AVal → S → Prop) : Prop :=
Som (vNilck a0) fun t4 =>
Som (vFieldAddr 5 t4) fun t5 =>
Som (vLoad1 t5 σ) fun t6 =>
WIf t6 (
Ret [some (.bool false)] σ Q) (
Som (vNilck a0) fun t8 =>
Som (vFieldAddr 4 t8) fun t9 =>
Som (vLoad1 t9 σ) fun t10 =>
Som (binA .gtr .num t10 (.int .i64 0)) fun t11 =>
WIf t11 (
Som (vNilck a0) fun t13 =>
Som (vFieldAddr 4 t13) fun t14 =>
Som (vLoad1 t14 σ) fun t15 =>
Som (binA .sub .num t15 (.int .i64 1)) fun t16 =>
Som (vNilck a0) fun t17 =>
Som (vFieldAddr 4 t17) fun t18 =>
Eff (storeW 1 t18 t16 σ) fun _ σ1 =>
Som (vNilck a0) fun t21 =>
Som (vFieldAddr 4 t21) fun t22 =>
Som (vLoad1 t22 σ1) fun t23 =>
Som (binA .eql .num t23 (.int .i64 0)) fun t24 =>
Som (vNilck a0) fun t25 =>
Som (vFieldAddr 5 t25) fun t26 =>
Eff (storeW 1 t26 t24 σ1) fun _ σ2 =>
Som (vNilck a0) fun t28 =>
Som (vFieldAddr 5 t28) fun t29 =>
Som (vLoad1 t29 σ2) fun t30 =>
Som (unA .not t30) fun t31 =>
Ret [some t31] σ2 Q) (
Som (vNilck a0) fun t28 =>
Som (vFieldAddr 5 t28) fun t29 =>
Som (vLoad1 t29 σ) fun t30 =>
Som (unA .not t30) fun t31 =>
Ret [some t31] σ Q))
theorem f36_eq (C : CW) (a0 : AVal) (σ : S) (Q : AVal → S → Prop) : f36 C   a0 σ Q = wC C (.seq (.ops [oq 2 (.mov (.val (.bool false)))]) (.seq (.seq (.ops [oq 3 (.mov (ot 0)), oq 4 (.nilck (ot 3)), oq 5 (.fieldAddr 5 (ot 4)), oq 6 (.load1 (ot 5))]) (.cond (ot 6) (.seq (.ops [oq 2 (.mov (.val (.bool false)))]) .ret) .skip)) (.seq (.seq (.ops [oq 7 (.mov (ot 0)), oq 8 (.nilck (ot 7)), oq 9 (.fieldAddr 4 (ot 8)), oq 10 (.load1 (ot 9)), oq 11 (.bin .gtr .num (ot 10) (.val (.int .i64 0)))]) (.cond (ot 11) (.seq (.ops [oq 12 (.mov (ot 0)), oq 13 (.nilck (ot 12)), oq 14 (.fieldAddr 4 (ot 13)), oq 15 (.load1 (ot 14)), oq 16 (.bin .sub .num (ot 15) (.val (.int .i64 1))), oq 17 (.nilck (ot 12)), oq 18 (.fieldAddr 4 (ot 17)), ⟨none, none, (.e (.store 1 (ot 18) (ot 16)))⟩]) (.ops [oq 19 (.mov (ot 0)), oq 20 (.mov (ot 0)), oq 21 (.nilck (ot 20)), oq 22 (.fieldAddr 4 (ot 21)), oq 23 (.load1 (ot 22)), oq 24 (.bin .eql .num (ot 23) (.val (.int .i64 0))), oq 25 (.nilck (ot 19)), oq 26 (.fieldAddr 5 (ot 25)), ⟨none, none, (.e (.store 1 (ot 26) (ot 24)))⟩])) .skip)) (.seq (.ops [oq 27 (.mov (ot 0)), oq 28 (.nilck (ot 27)), oq 29 (.fieldAddr 5 (ot 28)), oq 30 (.load1 (ot 29)), oq 31 (.un .not (ot 30)), oq 2 (.mov (ot 31))]) .ret)))) (E0.set 0 a0) σ (retK f36.res Q) := by kernel_rfl
theorem f36_ent (a0 : AVal) : enterE [a0] (slotsN 32) E0 = some (E0.set 0 a0) := by kernel_rfl
set_option maxRecDepth 20000 in
theorem f36_wf {tab : Nat → Option PFn} (ht : tab 36 = some f36.fn) {a0 : AVal} {σ : S} {Q : AVal → S → Prop} (h : f36 (WF tab)   a0 σ Q) : WF tab 36 [a0] σ Q := wFn_sound ht (wFn_code (f36_ent a0) (Eq.mp (f36_eq (WF tab)   a0 σ Q) h))
/-! dray/disk.there -/
noncomputable def f37.res : List PRes := [.tmp (sn 2)]
noncomputable def f37.body : PC := (.seq (.ops [oq 2 (.mov (.val (.bool false)))]) (.seq (.ops [oq 3 (.mov (ot 0)), oq 4 (.bin .geq .num (ot 3) (.val (.int .i64 0))), oq 5 (.mov (ot 4)), oqg 6 5 true (.mov (ot 0)), oqg 7 5 true (.bin .lss .num (ot 6) (.val (.int .i64 64))), oq 8 (.pick (ot 5) (ot 7) (.val (.bool false))), oq 2 (.mov (ot 8))]) .ret))
noncomputable def f37.fn : PFn := .code (slotsN 9) f37.body f37.res
noncomputable def f37 (C : CW) (a0 : AVal) (σ : S) (Q : AVal → S → Prop) : Prop :=
Som (binA .geq .num a0 (.int .i64 0)) fun t4 =>
Som (gq1 (isB t4 true) (some a0)) fun t6 =>
Som (gq1 (isB t4 true) (binA .lss .num t6 (.int .i64 64))) fun t7 =>
Som (vPick t4 t7 (.bool false)) fun t8 =>
Ret [some t8] σ Q
theorem f37_eq (C : CW) (a0 : AVal) (σ : S) (Q : AVal → S → Prop) : f37 C   a0 σ Q = wC C (.seq (.ops [oq 2 (.mov (.val (.bool false)))]) (.seq (.ops [oq 3 (.mov (ot 0)), oq 4 (.bin .geq .num (ot 3) (.val (.int .i64 0))), oq 5 (.mov (ot 4)), oqg 6 5 true (.mov (ot 0)), oqg 7 5 true (.bin .lss .num (ot 6) (.val (.int .i64 64))), oq 8 (.pick (ot 5) (ot 7) (.val (.bool false))), oq 2 (.mov (ot 8))]) .ret)) (E0.set 0 a0) σ (retK f37.res Q) := by kernel_rfl
theorem f37_ent (a0 : AVal) : enterE [a0] (slotsN 9) E0 = some (E0.set 0 a0) := by kernel_rfl
set_option maxRecDepth 20000 in
theorem f37_wf {tab : Nat → Option PFn} (ht : tab 37 = some f37.fn) {a0 : AVal} {σ : S} {Q : AVal → S → Prop} (h : f37 (WF tab)   a0 σ Q) : WF tab 37 [a0] σ Q := wFn_sound ht (wFn_code (f37_ent a0) (Eq.mp (f37_eq (WF tab)   a0 σ Q) h))
/-! *dray/disk.Disk.held -/
noncomputable def f38.c0 : PC := (.seq (.ops [oq 12 (.bin .lss .num (ot 11) (ot 10))]) (.seq (.cond (ot 12) .skip (.exit 0)) (.seq (.block 1 (.seq (.ops [oq 13 (.ixSl 1 (ot 9) (ot 11)), oq 14 (.load1 (ot 13)), oq 5 (.mov (ot 14))]) (.ops [oq 15 (.mov (ot 3)), oq 16 (.mov (ot 5)), oq 17 (.lenSl (ot 16)), oq 18 (.bin .add .num (ot 15) (ot 17)), oq 3 (.mov (ot 18))]))) (.ops [oq 19 (.bin .add .num (ot 11) (.val (.int .i64 1))), oq 11 (.mov (ot 19))]))))
noncomputable def f38.res : List PRes := [.tmp (sn 2)]
noncomputable def f38.p0 (C : CW) (Q : AVal → S → Prop) (R0 : PC) (E : En) (σ : S) : Prop :=
Som (binA .lss .num (E 11) (E 10)) fun t12 =>
WIf t12 (
Som (vIxSl 1 (E 9) (E 11)) fun t13 =>
Som (vLoad1 t13 σ) fun t14 =>
Som (vLenSl t14) fun t17 =>
Som (binA .add .num (E 3) t17) fun t18 =>
Som (binA .add .num (E 11) (.int .i64 1)) fun t19 =>
wC C (.loop R0) (((((((((((E.set 12 t12).set 13 t13).set 14 t14).set 5 t14).set 15 (E 3)).set 16 t14).set 17 t17).set 18 t18).set 3 t18).set 19 t19).set 11 t19) σ (blockK 0 (seqK (wC C (.seq (.ops [oq 20 (.mov (ot 3)), oq 2 (.mov (ot 20))]) .ret)) (retK f38.res Q)))) (
Ret [some (E 3)] σ Q)
theorem f38.p0_eq (C : CW) (Q : AVal → S → Prop) (R0 : PC) (E : En) (σ : S) : f38.p0 C Q R0 E σ = wC C (.seq (.ops [oq 12 (.bin .lss .num (ot 11) (ot 10))]) (.seq (.cond (ot 12) .skip (.exit 0)) (.seq (.block 1 (.seq (.ops [oq 13 (.ixSl 1 (ot 9) (ot 11)), oq 14 (.load1 (ot 13)), oq 5 (.mov (ot 14))]) (.ops [oq 15 (.mov (ot 3)), oq 16 (.mov (ot 5)), oq 17 (.lenSl (ot 16)), oq 18 (.bin .add .num (ot 15) (ot 17)), oq 3 (.mov (ot 18))]))) (.ops [oq 19 (.bin .add .num (ot 11) (.val (.int .i64 1))), oq 11 (.mov (ot 19))])))) E σ (loopK C R0 (blockK 0 (seqK (wC C (.seq (.ops [oq 20 (.mov (ot 3)), oq 2 (.mov (ot 20))]) .ret)) (retK f38.res Q)))) := by kernel_rfl
abbrev f38.L0 (C : CW) (Q : AVal → S → Prop) (E : En) (σ : S) : Prop := wC C (.loop f38.c0) E σ (blockK 0 (seqK (wC C (.seq (.ops [oq 20 (.mov (ot 3)), oq 2 (.mov (ot 20))]) .ret)) (retK f38.res Q)))
set_option maxRecDepth 20000 in
theorem f38.p0_of {tab : Nat → Option PFn} {Q : AVal → S → Prop} {E : En} {σ : S} (h : f38.p0 (WF tab) Q f38.c0 E σ) : f38.L0 (WF tab) Q E σ := wLoop_step (Eq.mp (f38.p0_eq (WF tab) Q f38.c0 E σ) h)
noncomputable def f38.body : PC := (.seq (.ops [oq 2 (.mov (.val (.int .i64 0)))]) (.seq (.ops [oq 3 (.mov (.val (.int .i64 0)))]) (.seq (.seq (.ops [oq 6 (.mov (ot 0)), oq 7 (.nilck (ot 6)), oq 8 (.fieldAddr 1 (ot 7)), oq 9 (.load1 (ot 8)), oq 10 (.lenSl (ot 9)), oq 11 (.mov (.val (.int .i64 0)))]) (.block 0 (.loop f38.c0))) (.seq (.ops [oq 20 (.mov (ot 3)), oq 2 (.mov (ot 20))]) .ret))))
noncomputable def f38.fn : PFn := .code (slotsN 21) f38.body f38.res
noncomputable def f38 (C : CW) (R0 : PC) (a0 : AVal) (σ : S) (Q : AVal → S → Prop) : Prop :=
Som (vNilck a0) fun t7 =>
Som (vFieldAddr 1 t7) fun t8 =>
Som (vLoad1 t8 σ) fun t9 =>
Som (vLenSl t9) fun t10 =>
wC C (.loop R0) (((((((((E0.set 0 a0).set 2 (.int .i64 0)).set 3 (.int .i64 0)).set 6 a0).set 7 t7).set 8 t8).set 9 t9).set 10 t10).set 11 (.int .i64 0)) σ (blockK 0 (seqK (wC C (.seq (.ops [oq 20 (.mov (ot 3)), oq 2 (.mov (ot 20))]) .ret)) (retK f38.res Q)))
theorem f38_eq (C : CW) (R0 : PC) (a0 : AVal) (σ : S) (Q : AVal → S → Prop) : f38 C R0  a0 σ Q = wC C (.seq (.ops [oq 2 (.mov (.val (.int .i64 0)))]) (.seq (.ops [oq 3 (.mov (.val (.int .i64 0)))]) (.seq (.seq (.ops [oq 6 (.mov (ot 0)), oq 7 (.nilck (ot 6)), oq 8 (.fieldAddr 1 (ot 7)), oq 9 (.load1 (ot 8)), oq 10 (.lenSl (ot 9)), oq 11 (.mov (.val (.int .i64 0)))]) (.block 0 (.loop R0))) (.seq (.ops [oq 20 (.mov (ot 3)), oq 2 (.mov (ot 20))]) .ret)))) (E0.set 0 a0) σ (retK f38.res Q) := by kernel_rfl
theorem f38_ent (a0 : AVal) : enterE [a0] (slotsN 21) E0 = some (E0.set 0 a0) := by kernel_rfl
set_option maxRecDepth 20000 in
theorem f38_wf {tab : Nat → Option PFn} (ht : tab 38 = some f38.fn) {a0 : AVal} {σ : S} {Q : AVal → S → Prop} (h : f38 (WF tab) f38.c0  a0 σ Q) : WF tab 38 [a0] σ Q := wFn_sound ht (wFn_code (f38_ent a0) (Eq.mp (f38_eq (WF tab) f38.c0  a0 σ Q) h))
/-! dray/disk.written -/
noncomputable def f39.res : List PRes := [.tmp (sn 6)]
noncomputable def f39.body : PC := (.seq (.ops [oq 6 (.mov (.val .nsl))]) (.seq (.ops [oq 8 (.mov (ot 0)), oq 9 (.lenSl (ot 8)), oq 10 (.mov (ot 1)), oq 11 (.mov (ot 2)), oq 12 (.lenSl (ot 11)), oq 13 (.bin .add .num (ot 10) (ot 12)), oq 14 (.maxI (ot 9) [(ot 13)]), oa 15 (.mkslice 1 1 [(.int .u8 0)] (ot 14) (ot 14)), oq 7 (.mov (ot 15))]) (.seq (.ops [oq 16 (.mov (ot 7)), oq 17 (.mov (ot 0)), oe 18 (.copy 1 (ot 16) (ot 17))]) (.seq (.ops [oq 19 (.mov (ot 7)), oq 20 (.mov (ot 1)), oq 21 (.slSl 1 (ot 19) (some (ot 20)) none none), oq 22 (.mov (ot 2)), oe 23 (.copy 1 (ot 21) (ot 22))]) (.seq (.ops [oq 24 (.mov (ot 7)), oq 6 (.mov (ot 24))]) .ret)))))
noncomputable def f39.fn : PFn := .code (slotsN 25) f39.body f39.res
noncomputable def f39 (C : CW) (a0 a1 a2 : AVal) (σ : S) (Q : AVal → S → Prop) : Prop :=
Som (vLenSl a0) fun t9 =>
Som (vLenSl a2) fun t12 =>
Som (binA .add .num a1 t12) fun t13 =>
Som (maxA t9 [t13]) fun t14 =>
Ala (aMakeV 1 1 [(.int .u8 0)] t14 t14) σ fun t15 σ1 =>
Eff (copyA 1 t15 a0 σ1) fun t18 σ2 =>
Som (vSlSl 1 t15 (some a1) none none) fun t21 =>
Eff (copyA 1 t21 a2 σ2) fun t23 σ3 =>
Ret [some t15] σ3 Q
theorem f39_eq (C : CW) (a0 a1 a2 : AVal) (σ : S) (Q : AVal → S → Prop) : f39 C   a0 a1 a2 σ Q = wC C (.seq (.ops [oq 6 (.mov (.val .nsl))]) (.seq (.ops [oq 8 (.mov (ot 0)), oq 9 (.lenSl (ot 8)), oq 10 (.mov (ot 1)), oq 11 (.mov (ot 2)), oq 12 (.lenSl (ot 11)), oq 13 (.bin .add .num (ot 10) (ot 12)), oq 14 (.maxI (ot 9) [(ot 13)]), oa 15 (.mkslice 1 1 [(.int .u8 0)] (ot 14) (ot 14)), oq 7 (.mov (ot 15))]) (.seq (.ops [oq 16 (.mov (ot 7)), oq 17 (.mov (ot 0)), oe 18 (.copy 1 (ot 16) (ot 17))]) (.seq (.ops [oq 19 (.mov (ot 7)), oq 20 (.mov (ot 1)), oq 21 (.slSl 1 (ot 19) (some (ot 20)) none none), oq 22 (.mov (ot 2)), oe 23 (.copy 1 (ot 21) (ot 22))]) (.seq (.ops [oq 24 (.mov (ot 7)), oq 6 (.mov (ot 24))]) .ret))))) (((E0.set 0 a0).set 1 a1).set 2 a2) σ (retK f39.res Q) := by kernel_rfl
theorem f39_ent (a0 a1 a2 : AVal) : enterE [a0, a1, a2] (slotsN 25) E0 = some (((E0.set 0 a0).set 1 a1).set 2 a2) := by kernel_rfl
set_option maxRecDepth 20000 in
theorem f39_wf {tab : Nat → Option PFn} (ht : tab 39 = some f39.fn) {a0 a1 a2 : AVal} {σ : S} {Q : AVal → S → Prop} (h : f39 (WF tab)   a0 a1 a2 σ Q) : WF tab 39 [a0, a1, a2] σ Q := wFn_sound ht (wFn_code (f39_ent a0 a1 a2) (Eq.mp (f39_eq (WF tab)   a0 a1 a2 σ Q) h))
/-! *dray/disk.Disk.Off -/
noncomputable def f40.res : List PRes := [.tmp (sn 2)]
noncomputable def f40.body : PC := (.seq (.ops [oq 2 (.mov (.val (.bool false)))]) (.seq (.ops [oq 3 (.mov (ot 0)), oq 4 (.nilck (ot 3)), oq 5 (.fieldAddr 5 (ot 4)), oq 6 (.load1 (ot 5)), oq 2 (.mov (ot 6))]) .ret))
noncomputable def f40.fn : PFn := .code (slotsN 7) f40.body f40.res
noncomputable def f40 (C : CW) (a0 : AVal) (σ : S) (Q : AVal → S → Prop) : Prop :=
Som (vNilck a0) fun t4 =>
Som (vFieldAddr 5 t4) fun t5 =>
Som (vLoad1 t5 σ) fun t6 =>
Ret [some t6] σ Q
theorem f40_eq (C : CW) (a0 : AVal) (σ : S) (Q : AVal → S → Prop) : f40 C   a0 σ Q = wC C (.seq (.ops [oq 2 (.mov (.val (.bool false)))]) (.seq (.ops [oq 3 (.mov (ot 0)), oq 4 (.nilck (ot 3)), oq 5 (.fieldAddr 5 (ot 4)), oq 6 (.load1 (ot 5)), oq 2 (.mov (ot 6))]) .ret)) (E0.set 0 a0) σ (retK f40.res Q) := by kernel_rfl
theorem f40_ent (a0 : AVal) : enterE [a0] (slotsN 7) E0 = some (E0.set 0 a0) := by kernel_rfl
set_option maxRecDepth 20000 in
theorem f40_wf {tab : Nat → Option PFn} (ht : tab 40 = some f40.fn) {a0 : AVal} {σ : S} {Q : AVal → S → Prop} (h : f40 (WF tab)   a0 σ Q) : WF tab 40 [a0] σ Q := wFn_sound ht (wFn_code (f40_ent a0) (Eq.mp (f40_eq (WF tab)   a0 σ Q) h))
/-! dray/wal.read -/
noncomputable def f41.c1 : PC := (.seq (.seq (.ops [oq 103 (.mov (ot 10)), oq 104 (.bin .gtr .num (ot 103) (.val (.int .i64 0)))]) (.cond (ot 104) (.seq (.ops [oq 4 (.mov (.val .nptr))]) .ret) .skip)) (.seq (.ops [oq 105 (.mov (ot 9)), oq 4 (.mov (ot 105))]) .ret))
noncomputable def f41.c0 : PC := (.block 1 (.seq (.ops [oq 64 (.mov (ot 5)), oq 65 (.mov (ot 9)), oq 66 (.nilck (ot 65)), oq 67 (.fieldAddr 5 (ot 66)), oq 68 (.load1 (ot 67)), oe 69 (.call 73 [(ot 64), (ot 68)]), oq 63 (.mov (ot 69)), oq 70 (.extract 0 (ot 63)), oq 71 (.extract 1 (ot 63)), oq 72 (.extract 2 (ot 63)), ⟨none, none, (.e (.store 5 (ot 6) (ot 70)))⟩, oq 7 (.mov (ot 71)), oq 8 (.mov (ot 72))]) (.seq (.seq (.draw 17 [⟨0, oq 73 (.mov (ot 8)), []⟩, ⟨1, oq 74 (.un .not (ot 73)), []⟩, ⟨2, oq 75 (.mov (ot 74)), []⟩, ⟨3, oqg 76 75 false (.fieldAddr 1 (ot 6)), []⟩, ⟨4, oqg 77 75 false (.load1 (ot 76)), []⟩, ⟨5, oqg 78 75 false (.mov (ot 9)), []⟩, ⟨6, oqg 79 75 false (.nilck (ot 78)), []⟩, ⟨7, oqg 80 75 false (.fieldAddr 2 (ot 79)), []⟩, ⟨8, oqg 81 75 false (.load1 (ot 80)), []⟩, ⟨9, oqg 82 75 false (.bin .neq .num (ot 77) (ot 81)), []⟩, ⟨10, oq 83 (.pick (ot 75) (.val (.bool true)) (ot 82)), []⟩, ⟨11, oq 84 (.mov (ot 83)), []⟩, ⟨12, oqg 85 84 false (.mov (ot 9)), []⟩, ⟨13, oqg 86 84 false (.loadN 5 (ot 6)), []⟩, ⟨14, oeg 87 84 false (.call 74 [(ot 85), (ot 86)]), []⟩, ⟨15, oqg 88 84 false (.un .not (ot 87)), []⟩, ⟨16, oq 89 (.pick (ot 84) (.val (.bool true)) (ot 88)), []⟩]) (.cond (ot 89) (.exit 0) .skip)) (.seq (.ops [oq 90 (.mov (ot 9)), oq 91 (.mov (ot 7)), oq 92 (.nilck (ot 90)), oq 93 (.fieldAddr 5 (ot 92)), ⟨none, none, (.e (.store 1 (ot 93) (ot 91)))⟩]) (.seq (.ops [oq 94 (.fieldAddr 0 (ot 6)), oq 95 (.load1 (ot 94)), oq 96 (.bin .eql .num (ot 95) (.val (.int .i64 1))), oq 97 (.mov (ot 96)), oqg 98 97 true (.mov (ot 10)), oqg 99 97 true (.bin .gtr .num (ot 98) (.val (.int .i64 0))), oq 100 (.pick (ot 97) (ot 99) (.val (.bool false)))]) (.cond (ot 100) (.ops [oq 101 (.mov (ot 10)), oq 102 (.bin .sub .num (ot 101) (.val (.int .i64 1))), oq 10 (.mov (ot 102))]) .skip))))))
noncomputable def f41.res : List PRes := [.tmp (sn 4)]
noncomputable def f41.p1 (C : CW) (Q : AVal → S → Prop) (E : En) (σ : S) : Prop :=
Som (binA .gtr .num (E 10) (.int .i64 0)) fun t104 =>
WIf t104 (
Ret [some .nptr] σ Q) (
Ret [some (E 9)] σ Q)
theorem f41.p1_eq (C : CW) (Q : AVal → S → Prop) (E : En) (σ : S) : f41.p1 C Q  E σ = wC C (.seq (.seq (.ops [oq 103 (.mov (ot 10)), oq 104 (.bin .gtr .num (ot 103) (.val (.int .i64 0)))]) (.cond (ot 104) (.seq (.ops [oq 4 (.mov (.val .nptr))]) .ret) .skip)) (.seq (.ops [oq 105 (.mov (ot 9)), oq 4 (.mov (ot 105))]) .ret)) E σ (retK f41.res Q) := by kernel_rfl
abbrev f41.J1 (C : CW) (Q : AVal → S → Prop) (E : En) (σ : S) : Prop := wC C f41.c1 E σ (retK f41.res Q)
set_option maxRecDepth 20000 in
theorem f41.p1_of {C : CW} {Q : AVal → S → Prop} {E : En} {σ : S} (h : f41.p1 C Q  E σ) : f41.J1 C Q E σ := Eq.mp (f41.p1_eq C Q  E σ) h
noncomputable def f41.p0 (C : CW) (Q : AVal → S → Prop) (R1 R0 : PC) (E : En) (σ : S) : Prop :=
Som (vNilck (E 9)) fun t66 =>
Som (vFieldAddr 5 t66) fun t67 =>
Som (vLoad1 t67 σ) fun t68 =>
C 73 [(E 5), t68] σ fun t69 σ1 =>
Som (vExtract 0 t69) fun t70 =>
Som (vExtract 1 t69) fun t71 =>
Som (vExtract 2 t69) fun t72 =>
Eff (storeW 5 (E 6) t70 σ1) fun _ σ2 =>
Som (unA .not t72) fun t74 =>
Som (gq1 (isB t74 false) (vFieldAddr 1 (E 6))) fun t76 =>
Som (gq1 (isB t74 false) (vLoad1 t76 (σ2.bumpT 17))) fun t77 =>
Som (gq1 (isB t74 false) (some (E 9))) fun t78 =>
Som (gq1 (isB t74 false) (vNilck t78)) fun t79 =>
Som (gq1 (isB t74 false) (vFieldAddr 2 t79)) fun t80 =>
Som (gq1 (isB t74 false) (vLoad1 t80 (σ2.bumpT 17))) fun t81 =>
Som (gq1 (isB t74 false) (binA .neq .num t77 t81)) fun t82 =>
Som (vPick t74 (.bool true) t82) fun t83 =>
Som (gq1 (isB t83 false) (some (E 9))) fun t85 =>
Som (gq1 (isB t83 false) (vLoadN 5 (E 6) (σ2.bumpT 17))) fun t86 =>
gE1 (isB t83 false) (fun K => C 74 [t85, t86] (σ2.bumpT 17) K) (σ2.bumpT 17) fun t87 σ3 =>
Som (gq1 (isB t83 false) (unA .not t87)) fun t88 =>
Som (vPick t83 (.bool true) t88) fun t89 =>
WIf t89 (
wC C R1 (((((((((((((((((((((((((((((E.set 64 (E 5)).set 65 (E 9)).set 66 t66).set 67 t67).set 68 t68).set 69 t69).set 63 t69).set 70 t70).set 71 t71).set 72 t72).set 7 t71).set 8 t72).set 73 t72).set 74 t74).set 75 t74).set 76 t76).set 77 t77).set 78 t78).set 79 t79).set 80 t80).set 81 t81).set 82 t82).set 83 t83).set 84 t83).set 85 t85).set 86 t86).set 87 t87).set 88 t88).set 89 t89) σ3 (retK f41.res Q)) (
Som (vNilck (E 9)) fun t92 =>
Som (vFieldAddr 5 t92) fun t93 =>
Eff (storeW 1 t93 t71 σ3) fun _ σ4 =>
Som (vFieldAddr 0 (E 6)) fun t94 =>
Som (vLoad1 t94 σ4) fun t95 =>
Som (binA .eql .num t95 (.int .i64 1)) fun t96 =>
Som (gq1 (isB t96 true) (some (E 10))) fun t98 =>
Som (gq1 (isB t96 true) (binA .gtr .num t98 (.int .i64 0))) fun t99 =>
Som (vPick t96 t99 (.bool false)) fun t100 =>
WIf t100 (
Som (binA .sub .num (E 10) (.int .i64 1)) fun t102 =>
wC C (.loop R0) (((((((((((((((((((((((((((((((((((((((((((E.set 64 (E 5)).set 65 (E 9)).set 66 t66).set 67 t67).set 68 t68).set 69 t69).set 63 t69).set 70 t70).set 71 t71).set 72 t72).set 7 t71).set 8 t72).set 73 t72).set 74 t74).set 75 t74).set 76 t76).set 77 t77).set 78 t78).set 79 t79).set 80 t80).set 81 t81).set 82 t82).set 83 t83).set 84 t83).set 85 t85).set 86 t86).set 87 t87).set 88 t88).set 89 t89).set 90 (E 9)).set 91 t71).set 92 t92).set 93 t93).set 94 t94).set 95 t95).set 96 t96).set 97 t96).set 98 t98).set 99 t99).set 100 t100).set 101 (E 10)).set 102 t102).set 10 t102) σ4 (blockK 0 (seqK (wC C R1) (retK f41.res Q)))) (
wC C (.loop R0) ((((((((((((((((((((((((((((((((((((((((E.set 64 (E 5)).set 65 (E 9)).set 66 t66).set 67 t67).set 68 t68).set 69 t69).set 63 t69).set 70 t70).set 71 t71).set 72 t72).set 7 t71).set 8 t72).set 73 t72).set 74 t74).set 75 t74).set 76 t76).set 77 t77).set 78 t78).set 79 t79).set 80 t80).set 81 t81).set 82 t82).set 83 t83).set 84 t83).set 85 t85).set 86 t86).set 87 t87).set 88 t88).set 89 t89).set 90 (E 9)).set 91 t71).set 92 t92).set 93 t93).set 94 t94).set 95 t95).set 96 t96).set 97 t96).set 98 t98).set 99 t99).set 100 t100) σ4 (blockK 0 (seqK (wC C R1) (retK f41.res Q)))))
theorem f41.p0_eq (C : CW) (Q : AVal → S → Prop) (R1 R0 : PC) (E : En) (σ : S) : f41.p0 C Q R1 R0 E σ = wC C (.block 1 (.seq (.ops [oq 64 (.mov (ot 5)), oq 65 (.mov (ot 9)), oq 66 (.nilck (ot 65)), oq 67 (.fieldAddr 5 (ot 66)), oq 68 (.load1 (ot 67)), oe 69 (.call 73 [(ot 64), (ot 68)]), oq 63 (.mov (ot 69)), oq 70 (.extract 0 (ot 63)), oq 71 (.extract 1 (ot 63)), oq 72 (.extract 2 (ot 63)), ⟨none, none, (.e (.store 5 (ot 6) (ot 70)))⟩, oq 7 (.mov (ot 71)), oq 8 (.mov (ot 72))]) (.seq (.seq (.draw 17 [⟨0, oq 73 (.mov (ot 8)), []⟩, ⟨1, oq 74 (.un .not (ot 73)), []⟩, ⟨2, oq 75 (.mov (ot 74)), []⟩, ⟨3, oqg 76 75 false (.fieldAddr 1 (ot 6)), []⟩, ⟨4, oqg 77 75 false (.load1 (ot 76)), []⟩, ⟨5, oqg 78 75 false (.mov (ot 9)), []⟩, ⟨6, oqg 79 75 false (.nilck (ot 78)), []⟩, ⟨7, oqg 80 75 false (.fieldAddr 2 (ot 79)), []⟩, ⟨8, oqg 81 75 false (.load1 (ot 80)), []⟩, ⟨9, oqg 82 75 false (.bin .neq .num (ot 77) (ot 81)), []⟩, ⟨10, oq 83 (.pick (ot 75) (.val (.bool true)) (ot 82)), []⟩, ⟨11, oq 84 (.mov (ot 83)), []⟩, ⟨12, oqg 85 84 false (.mov (ot 9)), []⟩, ⟨13, oqg 86 84 false (.loadN 5 (ot 6)), []⟩, ⟨14, oeg 87 84 false (.call 74 [(ot 85), (ot 86)]), []⟩, ⟨15, oqg 88 84 false (.un .not (ot 87)), []⟩, ⟨16, oq 89 (.pick (ot 84) (.val (.bool true)) (ot 88)), []⟩]) (.cond (ot 89) (.exit 0) .skip)) (.seq (.ops [oq 90 (.mov (ot 9)), oq 91 (.mov (ot 7)), oq 92 (.nilck (ot 90)), oq 93 (.fieldAddr 5 (ot 92)), ⟨none, none, (.e (.store 1 (ot 93) (ot 91)))⟩]) (.seq (.ops [oq 94 (.fieldAddr 0 (ot 6)), oq 95 (.load1 (ot 94)), oq 96 (.bin .eql .num (ot 95) (.val (.int .i64 1))), oq 97 (.mov (ot 96)), oqg 98 97 true (.mov (ot 10)), oqg 99 97 true (.bin .gtr .num (ot 98) (.val (.int .i64 0))), oq 100 (.pick (ot 97) (ot 99) (.val (.bool false)))]) (.cond (ot 100) (.ops [oq 101 (.mov (ot 10)), oq 102 (.bin .sub .num (ot 101) (.val (.int .i64 1))), oq 10 (.mov (ot 102))]) .skip)))))) E σ (loopK C R0 (blockK 0 (seqK (wC C R1) (retK f41.res Q)))) := by kernel_rfl
abbrev f41.L0 (C : CW) (Q : AVal → S → Prop) (E : En) (σ : S) : Prop := wC C (.loop f41.c0) E σ (blockK 0 (seqK (wC C f41.c1) (retK f41.res Q)))
set_option maxRecDepth 20000 in
theorem f41.p0_of {tab : Nat → Option PFn} {Q : AVal → S → Prop} {E : En} {σ : S} (h : f41.p0 (WF tab) Q f41.c1 f41.c0 E σ) : f41.L0 (WF tab) Q E σ := wLoop_step (Eq.mp (f41.p0_eq (WF tab) Q f41.c1 f41.c0 E σ) h)
noncomputable def f41.body : PC := (.seq (.ops [oq 4 (.mov (.val .nptr))]) (.seq (.ops [oq 11 (.mov (ot 0)), oq 12 (.mov (ot 1)), oe 13 (.call 72 [(ot 11), (ot 12)]), oq 5 (.mov (ot 13))]) (.seq (.ops [oq 15 (.mov (ot 5)), oe 16 (.call 73 [(ot 15), (.val (.int .i64 0))]), oq 14 (.mov (ot 16)), oq 17 (.extract 0 (ot 14)), oq 18 (.extract 1 (ot 14)), oq 19 (.extract 2 (ot 14)), oa 6 (.alloc [(.int .i64 0), (.int .i64 0), (.int .i64 0), (.int .i64 0), (.str [])]), ⟨none, none, (.e (.store 5 (ot 6) (ot 17)))⟩, oq 7 (.mov (ot 18)), oq 8 (.mov (ot 19))]) (.seq (.seq (.ops [oq 20 (.mov (ot 8)), oq 21 (.un .not (ot 20)), oq 22 (.mov (ot 21)), oqg 23 22 false (.fieldAddr 0 (ot 6)), oqg 24 22 false (.load1 (ot 23)), oqg 25 22 false (.bin .neq .num (ot 24) (.val (.int .i64 0))), oq 26 (.pick (ot 22) (.val (.bool true)) (ot 25)), oq 27 (.mov (ot 26)), oqg 28 27 false (.fieldAddr 1 (ot 6)), oqg 29 27 false (.load1 (ot 28)), oqg 30 27 false (.bin .lss .num (ot 29) (.val (.int .i64 1))), oq 31 (.pick (ot 27) (.val (.bool true)) (ot 30)), oq 32 (.mov (ot 31)), oqg 33 32 false (.fieldAddr 1 (ot 6)), oqg 34 32 false (.load1 (ot 33)), oqg 35 32 false (.bin .geq .num (ot 34) (.val (.int .i64 1125899906842624))), oq 36 (.pick (ot 32) (.val (.bool true)) (ot 35)), oq 37 (.mov (ot 36)), oqg 38 37 false (.fieldAddr 2 (ot 6)), oqg 39 37 false (.load1 (ot 38)), oqg 40 37 false (.bin .lss .num (ot 39) (.val (.int .i64 1))), oq 41 (.pick (ot 37) (.val (.bool true)) (ot 40)), oq 42 (.mov (ot 41)), oqg 43 42 false (.fieldAddr 2 (ot 6)), oqg 44 42 false (.load1 (ot 43)), oqg 45 42 false (.bin .gtr .num (ot 44) (.val (.int .i64 1099511627777))), oq 46 (.pick (ot 42) (.val (.bool true)) (ot 45)), oq 47 (.mov (ot 46)), oqg 48 47 false (.fieldAddr 3 (ot 6)), oqg 49 47 false (.load1 (ot 48)), oqg 50 47 false (.bin .lss .num (ot 49) (.val (.int .i64 0))), oq 51 (.pick (ot 47) (.val (.bool true)) (ot 50))]) (.cond (ot 51) (.seq (.ops [oq 4 (.mov (.val .nptr))]) .ret) .skip)) (.seq (.ops [oq 52 (.mov (ot 0)), oq 53 (.mov (ot 1)), oq 54 (.fieldAddr 1 (ot 6)), oq 55 (.load1 (ot 54)), oq 56 (.fieldAddr 2 (ot 6)), oq 57 (.load1 (ot 56)), oq 58 (.mov (ot 7)), oq 59 (.build [.nptr, (.int .i64 0), (.int .i64 0), (.int .i64 0), .nsl, (.int .i64 0), (.int .i64 0)] [(0, 1, (ot 52)), (1, 1, (ot 53)), (2, 1, (ot 55)), (3, 1, (ot 57)), (5, 1, (ot 58))]), oa 60 (.box (ot 59)), oq 9 (.mov (ot 60))]) (.seq (.ops [oq 61 (.fieldAddr 3 (ot 6)), oq 62 (.load1 (ot 61)), oq 10 (.mov (ot 62))]) (.seq .skip (.seq (.block 0 (.loop f41.c0)) f41.c1))))))))
noncomputable def f41.fn : PFn := .code (slotsN 106) f41.body f41.res
noncomputable def f41 (C : CW) (R0 R1 : PC) (a0 a1 : AVal) (σ : S) (Q : AVal → S → Prop) : Prop :=
C 72 [a0, a1] σ fun t13 σ1 =>
C 73 [t13, (.int .i64 0)] σ1 fun t16 σ2 =>
Som (vExtract 0 t16) fun t17 =>
Som (vExtract 1 t16) fun t18 =>
Som (vExtract 2 t16) fun t19 =>
Ala (aAllocV [(.int .i64 0), (.int .i64 0), (.int .i64 0), (.int .i64 0), (.str [])]) σ2 fun t6 σ3 =>
Eff (storeW 5 t6 t17 σ3) fun _ σ4 =>
Som (unA .not t19) fun t21 =>
Som (gq1 (isB t21 false) (vFieldAddr 0 t6)) fun t23 =>
Som (gq1 (isB t21 false) (vLoad1 t23 σ4)) fun t24 =>
Som (gq1 (isB t21 false) (binA .neq .num t24 (.int .i64 0))) fun t25 =>
Som (vPick t21 (.bool true) t25) fun t26 =>
Som (gq1 (isB t26 false) (vFieldAddr 1 t6)) fun t28 =>
Som (gq1 (isB t26 false) (vLoad1 t28 σ4)) fun t29 =>
Som (gq1 (isB t26 false) (binA .lss .num t29 (.int .i64 1))) fun t30 =>
Som (vPick t26 (.bool true) t30) fun t31 =>
Som (gq1 (isB t31 false) (vFieldAddr 1 t6)) fun t33 =>
Som (gq1 (isB t31 false) (vLoad1 t33 σ4)) fun t34 =>
Som (gq1 (isB t31 false) (binA .geq .num t34 (.int .i64 1125899906842624))) fun t35 =>
Som (vPick t31 (.bool true) t35) fun t36 =>
Som (gq1 (isB t36 false) (vFieldAddr 2 t6)) fun t38 =>
Som (gq1 (isB t36 false) (vLoad1 t38 σ4)) fun t39 =>
Som (gq1 (isB t36 false) (binA .lss .num t39 (.int .i64 1))) fun t40 =>
Som (vPick t36 (.bool true) t40) fun t41 =>
Som (gq1 (isB t41 false) (vFieldAddr 2 t6)) fun t43 =>
Som (gq1 (isB t41 false) (vLoad1 t43 σ4)) fun t44 =>
Som (gq1 (isB t41 false) (binA .gtr .num t44 (.int .i64 1099511627777))) fun t45 =>
Som (vPick t41 (.bool true) t45) fun t46 =>
Som (gq1 (isB t46 false) (vFieldAddr 3 t6)) fun t48 =>
Som (gq1 (isB t46 false) (vLoad1 t48 σ4)) fun t49 =>
Som (gq1 (isB t46 false) (binA .lss .num t49 (.int .i64 0))) fun t50 =>
Som (vPick t46 (.bool true) t50) fun t51 =>
WIf t51 (
Ret [some .nptr] σ4 Q) (
Som (vFieldAddr 1 t6) fun t54 =>
Som (vLoad1 t54 σ4) fun t55 =>
Som (vFieldAddr 2 t6) fun t56 =>
Som (vLoad1 t56 σ4) fun t57 =>
Som (vBuild [.nptr, (.int .i64 0), (.int .i64 0), (.int .i64 0), .nsl, (.int .i64 0), (.int .i64 0)] [(0, 1, a0), (1, 1, a1), (2, 1, t55), (3, 1, t57), (5, 1, t18)]) fun t59 =>
Ala (aBoxV t59) σ4 fun t60 σ5 =>
Som (vFieldAddr 3 t6) fun t61 =>
Som (vLoad1 t61 σ5) fun t62 =>
wC C (.loop R0) (((((((((((((((((((((((((((((((((((((((((((((((((((((((((((((E0.set 0 a0).set 1 a1).set 4 .nptr).set 11 a0).set 12 a1).set 13 t13).set 5 t13).set 15 t13).set 16 t16).set 14 t16).set 17 t17).set 18 t18).set 19 t19).set 6 t6).set 7 t18).set 8 t19).set 20 t19).set 21 t21).set 22 t21).set 23 t23).set 24 t24).set 25 t25).set 26 t26).set 27 t26).set 28 t28).set 29 t29).set 30 t30).set 31 t31).set 32 t31).set 33 t33).set 34 t34).set 35 t35).set 36 t36).set 37 t36).set 38 t38).set 39 t39).set 40 t40).set 41 t41).set 42 t41).set 43 t43).set 44 t44).set 45 t45).set 46 t46).set 47 t46).set 48 t48).set 49 t49).set 50 t50).set 51 t51).set 52 a0).set 53 a1).set 54 t54).set 55 t55).set 56 t56).set 57 t57).set 58 t18).set 59 t59).set 60 t60).set 9 t60).set 61 t61).set 62 t62).set 10 t62) σ5 (blockK 0 (seqK (wC C R1) (retK f41.res Q))))
theorem f41_eq (C : CW) (R0 R1 : PC) (a0 a1 : AVal) (σ : S) (Q : AVal → S → Prop) : f41 C R0 R1  a0 a1 σ Q = wC C (.seq (.ops [oq 4 (.mov (.val .nptr))]) (.seq (.ops [oq 11 (.mov (ot 0)), oq 12 (.mov (ot 1)), oe 13 (.call 72 [(ot 11), (ot 12)]), oq 5 (.mov (ot 13))]) (.seq (.ops [oq 15 (.mov (ot 5)), oe 16 (.call 73 [(ot 15), (.val (.int .i64 0))]), oq 14 (.mov (ot 16)), oq 17 (.extract 0 (ot 14)), oq 18 (.extract 1 (ot 14)), oq 19 (.extract 2 (ot 14)), oa 6 (.alloc [(.int .i64 0), (.int .i64 0), (.int .i64 0), (.int .i64 0), (.str [])]), ⟨none, none, (.e (.store 5 (ot 6) (ot 17)))⟩, oq 7 (.mov (ot 18)), oq 8 (.mov (ot 19))]) (.seq (.seq (.ops [oq 20 (.mov (ot 8)), oq 21 (.un .not (ot 20)), oq 22 (.mov (ot 21)), oqg 23 22 false (.fieldAddr 0 (ot 6)), oqg 24 22 false (.load1 (ot 23)), oqg 25 22 false (.bin .neq .num (ot 24) (.val (.int .i64 0))), oq 26 (.pick (ot 22) (.val (.bool true)) (ot 25)), oq 27 (.mov (ot 26)), oqg 28 27 false (.fieldAddr 1 (ot 6)), oqg 29 27 false (.load1 (ot 28)), oqg 30 27 false (.bin .lss .num (ot 29) (.val (.int .i64 1))), oq 31 (.pick (ot 27) (.val (.bool true)) (ot 30)), oq 32 (.mov (ot 31)), oqg 33 32 false (.fieldAddr 1 (ot 6)), oqg 34 32 false (.load1 (ot 33)), oqg 35 32 false (.bin .geq .num (ot 34) (.val (.int .i64 1125899906842624))), oq 36 (.pick (ot 32) (.val (.bool true)) (ot 35)), oq 37 (.mov (ot 36)), oqg 38 37 false (.fieldAddr 2 (ot 6)), oqg 39 37 false (.load1 (ot 38)), oqg 40 37 false (.bin .lss .num (ot 39) (.val (.int .i64 1))), oq 41 (.pick (ot 37) (.val (.bool true)) (ot 40)), oq 42 (.mov (ot 41)), oqg 43 42 false (.fieldAddr 2 (ot 6)), oqg 44 42 false (.load1 (ot 43)), oqg 45 42 false (.bin .gtr .num (ot 44) (.val (.int .i64 1099511627777))), oq 46 (.pick (ot 42) (.val (.bool true)) (ot 45)), oq 47 (.mov (ot 46)), oqg 48 47 false (.fieldAddr 3 (ot 6)), oqg 49 47 false (.load1 (ot 48)), oqg 50 47 false (.bin .lss .num (ot 49) (.val (.int .i64 0))), oq 51 (.pick (ot 47) (.val (.bool true)) (ot 50))]) (.cond (ot 51) (.seq (.ops [oq 4 (.mov (.val .nptr))]) .ret) .skip)) (.seq (.ops [oq 52 (.mov (ot 0)), oq 53 (.mov (ot 1)), oq 54 (.fieldAddr 1 (ot 6)), oq 55 (.load1 (ot 54)), oq 56 (.fieldAddr 2 (ot 6)), oq 57 (.load1 (ot 56)), oq 58 (.mov (ot 7)), oq 59 (.build [.nptr, (.int .i64 0), (.int .i64 0), (.int .i64 0), .nsl, (.int .i64 0), (.int .i64 0)] [(0, 1, (ot 52)), (1, 1, (ot 53)), (2, 1, (ot 55)), (3, 1, (ot 57)), (5, 1, (ot 58))]), oa 60 (.box (ot 59)), oq 9 (.mov (ot 60))]) (.seq (.ops [oq 61 (.fieldAddr 3 (ot 6)), oq 62 (.load1 (ot 61)), oq 10 (.mov (ot 62))]) (.seq .skip (.seq (.block 0 (.loop R0)) R1)))))))) ((E0.set 0 a0).set 1 a1) σ (retK f41.res Q) := by kernel_rfl
theorem f41_ent (a0 a1 : AVal) : enterE [a0, a1] (slotsN 106) E0 = some ((E0.set 0 a0).set 1 a1) := by kernel_rfl
set_option maxRecDepth 20000 in
theorem f41_wf {tab : Nat → Option PFn} (ht : tab 41 = some f41.fn) {a0 a1 : AVal} {σ : S} {Q : AVal → S → Prop} (h : f41 (WF tab) f41.c0 f41.c1  a0 a1 σ Q) : WF tab 41 [a0, a1] σ Q := wFn_sound ht (wFn_code (f41_ent a0 a1) (Eq.mp (f41_eq (WF tab) f41.c0 f41.c1  a0 a1 σ Q) h))
/-! *dray/disk.Disk.Size -/
noncomputable def f42.res : List PRes := [.tmp (sn 4)]
noncomputable def f42.body : PC := (.seq (.ops [oq 4 (.mov (.val (.int .i64 0)))]) (.seq (.seq (.ops [oq 5 (.mov (ot 1)), oe 6 (.call 37 [(ot 5)]), oq 7 (.un .not (ot 6))]) (.cond (ot 7) (.seq (.ops [oq 4 (.mov (.val (.int .i64 0)))]) .ret) .skip)) (.seq (.ops [oq 8 (.mov (ot 0)), oq 9 (.nilck (ot 8)), oq 10 (.fieldAddr 1 (ot 9)), oq 11 (.load1 (ot 10)), oq 12 (.mov (ot 1)), oq 13 (.ixSl 1 (ot 11) (ot 12)), oq 14 (.load1 (ot 13)), oq 15 (.lenSl (ot 14)), oq 4 (.mov (ot 15))]) .ret)))
noncomputable def f42.fn : PFn := .code (slotsN 16) f42.body f42.res
noncomputable def f42 (C : CW) (a0 a1 : AVal) (σ : S) (Q : AVal → S → Prop) : Prop :=
C 37 [a1] σ fun t6 σ1 =>
Som (unA .not t6) fun t7 =>
WIf t7 (
Ret [some (.int .i64 0)] σ1 Q) (
Som (vNilck a0) fun t9 =>
Som (vFieldAddr 1 t9) fun t10 =>
Som (vLoad1 t10 σ1) fun t11 =>
Som (vIxSl 1 t11 a1) fun t13 =>
Som (vLoad1 t13 σ1) fun t14 =>
Som (vLenSl t14) fun t15 =>
Ret [some t15] σ1 Q)
theorem f42_eq (C : CW) (a0 a1 : AVal) (σ : S) (Q : AVal → S → Prop) : f42 C   a0 a1 σ Q = wC C (.seq (.ops [oq 4 (.mov (.val (.int .i64 0)))]) (.seq (.seq (.ops [oq 5 (.mov (ot 1)), oe 6 (.call 37 [(ot 5)]), oq 7 (.un .not (ot 6))]) (.cond (ot 7) (.seq (.ops [oq 4 (.mov (.val (.int .i64 0)))]) .ret) .skip)) (.seq (.ops [oq 8 (.mov (ot 0)), oq 9 (.nilck (ot 8)), oq 10 (.fieldAddr 1 (ot 9)), oq 11 (.load1 (ot 10)), oq 12 (.mov (ot 1)), oq 13 (.ixSl 1 (ot 11) (ot 12)), oq 14 (.load1 (ot 13)), oq 15 (.lenSl (ot 14)), oq 4 (.mov (ot 15))]) .ret))) ((E0.set 0 a0).set 1 a1) σ (retK f42.res Q) := by kernel_rfl
theorem f42_ent (a0 a1 : AVal) : enterE [a0, a1] (slotsN 16) E0 = some ((E0.set 0 a0).set 1 a1) := by kernel_rfl
set_option maxRecDepth 20000 in
theorem f42_wf {tab : Nat → Option PFn} (ht : tab 42 = some f42.fn) {a0 a1 : AVal} {σ : S} {Q : AVal → S → Prop} (h : f42 (WF tab)   a0 a1 σ Q) : WF tab 42 [a0, a1] σ Q := wFn_sound ht (wFn_code (f42_ent a0 a1) (Eq.mp (f42_eq (WF tab)   a0 a1 σ Q) h))
/-! *dray/disk.Disk.Cut -/
noncomputable def f43.res : List PRes := [.tmp (sn 6)]
noncomputable def f43.body : PC := (.seq (.ops [oq 6 (.mov (.val (.int .i64 0)))]) (.seq (.seq (.ops [oq 7 (.mov (ot 0)), oe 8 (.call 36 [(ot 7)]), oq 9 (.un .not (ot 8))]) (.cond (ot 9) (.seq (.ops [oq 6 (.mov (.val (.int .i64 11)))]) .ret) .skip)) (.seq (.seq (.ops [oq 10 (.mov (ot 1)), oe 11 (.call 37 [(ot 10)]), oq 12 (.un .not (ot 11)), oq 13 (.mov (ot 12)), oqg 14 13 false (.mov (ot 2)), oqg 15 13 false (.bin .lss .num (ot 14) (.val (.int .i64 0))), oq 16 (.pick (ot 13) (.val (.bool true)) (ot 15)), oq 17 (.mov (ot 16)), oqg 18 17 false (.mov (ot 2)), oqg 19 17 false (.mov (ot 0)), oqg 20 17 false (.nilck (ot 19)), oqg 21 17 false (.fieldAddr 1 (ot 20)), oqg 22 17 false (.load1 (ot 21)), oqg 23 17 false (.mov (ot 1)), oqg 24 17 false (.ixSl 1 (ot 22) (ot 23)), oqg 25 17 false (.load1 (ot 24)), oqg 26 17 false (.lenSl (ot 25)), oqg 27 17 false (.bin .gtr .num (ot 18) (ot 26)), oq 28 (.pick (ot 17) (.val (.bool true)) (ot 27))]) (.cond (ot 28) (.seq (.ops [oq 6 (.mov (.val (.int .i64 1)))]) .ret) .skip)) (.seq (.draw 17 [⟨0, oq 29 (.mov (ot 0)), []⟩, ⟨1, oq 30 (.nilck (ot 29)), []⟩, ⟨2, oq 31 (.fieldAddr 1 (ot 30)), []⟩, ⟨3, oq 32 (.load1 (ot 31)), []⟩, ⟨4, oq 33 (.mov (ot 1)), []⟩, ⟨5, oq 34 (.mov (ot 0)), []⟩, ⟨6, oq 35 (.nilck (ot 34)), []⟩, ⟨7, oq 36 (.fieldAddr 1 (ot 35)), []⟩, ⟨8, oq 37 (.load1 (ot 36)), []⟩, ⟨9, oq 38 (.mov (ot 1)), []⟩, ⟨10, oq 39 (.ixSl 1 (ot 37) (ot 38)), []⟩, ⟨11, oq 40 (.load1 (ot 39)), []⟩, ⟨12, oq 41 (.mov (ot 2)), []⟩, ⟨13, oq 42 (.slSl 1 (ot 40) none (some (ot 41)) none), []⟩, ⟨14, oe 43 (.append 1 1 (.val .nsl) (ot 42)), [oq 32 (.load1 (ot 31))]⟩, ⟨15, oq 44 (.ixSl 1 (ot 32) (ot 33)), []⟩, ⟨16, ⟨none, none, (.e (.store 1 (ot 44) (ot 43)))⟩, []⟩]) (.seq (.ops [oq 45 (.mov (ot 0)), oq 46 (.mov (ot 0)), oq 47 (.nilck (ot 46)), oq 48 (.fieldAddr 3 (ot 47)), oq 49 (.load1 (ot 48)), oq 50 (.mov (ot 1)), oq 51 (.mov (ot 2)), oq 52 (.build [(.bool false), (.int .i64 0), (.int .i64 0), .nsl] [(0, 1, (.val (.bool true))), (1, 1, (ot 50)), (2, 1, (ot 51))]), oa 53 (.bslice 4 [(.bool false), (.int .i64 0), (.int .i64 0), .nsl] 1 [(0, 4, (ot 52))]), oe 54 (.append 4 48 (ot 49) (ot 53)), oq 55 (.nilck (ot 45)), oq 56 (.fieldAddr 3 (ot 55)), ⟨none, none, (.e (.store 1 (ot 56) (ot 54)))⟩]) (.seq (.ops [oq 6 (.mov (.val (.int .i64 0)))]) .ret))))))
noncomputable def f43.fn : PFn := .code (slotsN 57) f43.body f43.res
noncomputable def f43 (C : CW) (a0 a1 a2 : AVal) (σ : S) (Q : AVal → S → Prop) : Prop :=
C 36 [a0] σ fun t8 σ1 =>
Som (unA .not t8) fun t9 =>
WIf t9 (
Ret [some (.int .i64 11)] σ1 Q) (
C 37 [a1] σ1 fun t11 σ2 =>
Som (unA .not t11) fun t12 =>
Som (gq1 (isB t12 false) (some a2)) fun t14 =>
Som (gq1 (isB t12 false) (binA .lss .num t14 (.int .i64 0))) fun t15 =>
Som (vPick t12 (.bool true) t15) fun t16 =>
Som (gq1 (isB t16 false) (some a2)) fun t18 =>
Som (gq1 (isB t16 false) (some a0)) fun t19 =>
Som (gq1 (isB t16 false) (vNilck t19)) fun t20 =>
Som (gq1 (isB t16 false) (vFieldAddr 1 t20)) fun t21 =>
Som (gq1 (isB t16 false) (vLoad1 t21 σ2)) fun t22 =>
Som (gq1 (isB t16 false) (some a1)) fun t23 =>
Som (gq1 (isB t16 false) (vIxSl 1 t22 t23)) fun t24 =>
Som (gq1 (isB t16 false) (vLoad1 t24 σ2)) fun t25 =>
Som (gq1 (isB t16 false) (vLenSl t25)) fun t26 =>
Som (gq1 (isB t16 false) (binA .gtr .num t18 t26)) fun t27 =>
Som (vPick t16 (.bool true) t27) fun t28 =>
WIf t28 (
Ret [some (.int .i64 1)] σ2 Q) (
Som (vNilck a0) fun t30 =>
Som (vFieldAddr 1 t30) fun t31 =>
Som (vLoad1 t31 (σ2.bumpT 17)) fun t32 =>
Som (vNilck a0) fun t35 =>
Som (vFieldAddr 1 t35) fun t36 =>
Som (vLoad1 t36 (σ2.bumpT 17)) fun t37 =>
Som (vIxSl 1 t37 a1) fun t39 =>
Som (vLoad1 t39 (σ2.bumpT 17)) fun t40 =>
Som (vSlSl 1 t40 none (some a2) none) fun t42 =>
Eff (appendA 1 1 .nsl t42 (σ2.bumpT 17)) fun t43 σ3 =>
Sure (SameO (vLoad1 t31 σ3) t32) <|
Som (vIxSl 1 t32 a1) fun t44 =>
Eff (storeW 1 t44 t43 σ3) fun _ σ4 =>
Som (vNilck a0) fun t47 =>
Som (vFieldAddr 3 t47) fun t48 =>
Som (vLoad1 t48 σ4) fun t49 =>
Som (vBuild [(.bool false), (.int .i64 0), (.int .i64 0), .nsl] [(0, 1, (.bool true)), (1, 1, a1), (2, 1, a2)]) fun t52 =>
Ala (aSliceV 4 [(.bool false), (.int .i64 0), (.int .i64 0), .nsl] 1 [(0, 4, t52)]) σ4 fun t53 σ5 =>
Eff (appendA 4 48 t49 t53 σ5) fun t54 σ6 =>
Som (vNilck a0) fun t55 =>
Som (vFieldAddr 3 t55) fun t56 =>
Eff (storeW 1 t56 t54 σ6) fun _ σ7 =>
Ret [some (.int .i64 0)] σ7 Q))
theorem f43_eq (C : CW) (a0 a1 a2 : AVal) (σ : S) (Q : AVal → S → Prop) : f43 C   a0 a1 a2 σ Q = wC C (.seq (.ops [oq 6 (.mov (.val (.int .i64 0)))]) (.seq (.seq (.ops [oq 7 (.mov (ot 0)), oe 8 (.call 36 [(ot 7)]), oq 9 (.un .not (ot 8))]) (.cond (ot 9) (.seq (.ops [oq 6 (.mov (.val (.int .i64 11)))]) .ret) .skip)) (.seq (.seq (.ops [oq 10 (.mov (ot 1)), oe 11 (.call 37 [(ot 10)]), oq 12 (.un .not (ot 11)), oq 13 (.mov (ot 12)), oqg 14 13 false (.mov (ot 2)), oqg 15 13 false (.bin .lss .num (ot 14) (.val (.int .i64 0))), oq 16 (.pick (ot 13) (.val (.bool true)) (ot 15)), oq 17 (.mov (ot 16)), oqg 18 17 false (.mov (ot 2)), oqg 19 17 false (.mov (ot 0)), oqg 20 17 false (.nilck (ot 19)), oqg 21 17 false (.fieldAddr 1 (ot 20)), oqg 22 17 false (.load1 (ot 21)), oqg 23 17 false (.mov (ot 1)), oqg 24 17 false (.ixSl 1 (ot 22) (ot 23)), oqg 25 17 false (.load1 (ot 24)), oqg 26 17 false (.lenSl (ot 25)), oqg 27 17 false (.bin .gtr .num (ot 18) (ot 26)), oq 28 (.pick (ot 17) (.val (.bool true)) (ot 27))]) (.cond (ot 28) (.seq (.ops [oq 6 (.mov (.val (.int .i64 1)))]) .ret) .skip)) (.seq (.draw 17 [⟨0, oq 29 (.mov (ot 0)), []⟩, ⟨1, oq 30 (.nilck (ot 29)), []⟩, ⟨2, oq 31 (.fieldAddr 1 (ot 30)), []⟩, ⟨3, oq 32 (.load1 (ot 31)), []⟩, ⟨4, oq 33 (.mov (ot 1)), []⟩, ⟨5, oq 34 (.mov (ot 0)), []⟩, ⟨6, oq 35 (.nilck (ot 34)), []⟩, ⟨7, oq 36 (.fieldAddr 1 (ot 35)), []⟩, ⟨8, oq 37 (.load1 (ot 36)), []⟩, ⟨9, oq 38 (.mov (ot 1)), []⟩, ⟨10, oq 39 (.ixSl 1 (ot 37) (ot 38)), []⟩, ⟨11, oq 40 (.load1 (ot 39)), []⟩, ⟨12, oq 41 (.mov (ot 2)), []⟩, ⟨13, oq 42 (.slSl 1 (ot 40) none (some (ot 41)) none), []⟩, ⟨14, oe 43 (.append 1 1 (.val .nsl) (ot 42)), [oq 32 (.load1 (ot 31))]⟩, ⟨15, oq 44 (.ixSl 1 (ot 32) (ot 33)), []⟩, ⟨16, ⟨none, none, (.e (.store 1 (ot 44) (ot 43)))⟩, []⟩]) (.seq (.ops [oq 45 (.mov (ot 0)), oq 46 (.mov (ot 0)), oq 47 (.nilck (ot 46)), oq 48 (.fieldAddr 3 (ot 47)), oq 49 (.load1 (ot 48)), oq 50 (.mov (ot 1)), oq 51 (.mov (ot 2)), oq 52 (.build [(.bool false), (.int .i64 0), (.int .i64 0), .nsl] [(0, 1, (.val (.bool true))), (1, 1, (ot 50)), (2, 1, (ot 51))]), oa 53 (.bslice 4 [(.bool false), (.int .i64 0), (.int .i64 0), .nsl] 1 [(0, 4, (ot 52))]), oe 54 (.append 4 48 (ot 49) (ot 53)), oq 55 (.nilck (ot 45)), oq 56 (.fieldAddr 3 (ot 55)), ⟨none, none, (.e (.store 1 (ot 56) (ot 54)))⟩]) (.seq (.ops [oq 6 (.mov (.val (.int .i64 0)))]) .ret)))))) (((E0.set 0 a0).set 1 a1).set 2 a2) σ (retK f43.res Q) := by kernel_rfl
theorem f43_ent (a0 a1 a2 : AVal) : enterE [a0, a1, a2] (slotsN 57) E0 = some (((E0.set 0 a0).set 1 a1).set 2 a2) := by kernel_rfl
set_option maxRecDepth 20000 in
theorem f43_wf {tab : Nat → Option PFn} (ht : tab 43 = some f43.fn) {a0 a1 a2 : AVal} {σ : S} {Q : AVal → S → Prop} (h : f43 (WF tab)   a0 a1 a2 σ Q) : WF tab 43 [a0, a1, a2] σ Q := wFn_sound ht (wFn_code (f43_ent a0 a1 a2) (Eq.mp (f43_eq (WF tab)   a0 a1 a2 σ Q) h))
/-! *dray/disk.Disk.Sync -/
noncomputable def f44.res : List PRes := [.tmp (sn 2)]
noncomputable def f44.body : PC := (.seq (.ops [oq 2 (.mov (.val (.int .i64 0)))]) (.seq (.seq (.ops [oq 3 (.mov (ot 0)), oe 4 (.call 36 [(ot 3)]), oq 5 (.un .not (ot 4))]) (.cond (ot 5) (.seq (.ops [oq 2 (.mov (.val (.int .i64 11)))]) .ret) .skip)) (.seq (.draw 9 [⟨0, oq 6 (.mov (ot 0)), []⟩, ⟨1, oq 7 (.nilck (ot 6)), []⟩, ⟨2, oq 8 (.fieldAddr 2 (ot 7)), []⟩, ⟨3, oq 9 (.load1 (ot 8)), []⟩, ⟨4, oq 10 (.mov (ot 0)), []⟩, ⟨5, oq 11 (.nilck (ot 10)), []⟩, ⟨6, oq 12 (.fieldAddr 1 (ot 11)), []⟩, ⟨7, oq 13 (.load1 (ot 12)), []⟩, ⟨8, oe 14 (.copy 1 (ot 9) (ot 13)), []⟩]) (.seq (.ops [oq 15 (.mov (ot 0)), oq 16 (.nilck (ot 15)), oq 17 (.fieldAddr 3 (ot 16)), ⟨none, none, (.e (.store 1 (ot 17) (.val .nsl)))⟩]) (.seq (.ops [oq 2 (.mov (.val (.int .i64 0)))]) .ret)))))
noncomputable def f44.fn : PFn := .code (slotsN 18) f44.body f44.res
noncomputable def f44 (C : CW) (a0 : AVal) (σ : S) (Q : AVal → S → Prop) : Prop :=
C 36 [a0] σ fun t4 σ1 =>
Som (unA .not t4) fun t5 =>
WIf t5 (
Ret [some (.int .i64 11)] σ1 Q) (
Som (vNilck a0) fun t7 =>
Som (vFieldAddr 2 t7) fun t8 =>
Som (vLoad1 t8 (σ1.bumpT 9)) fun t9 =>
Som (vNilck a0) fun t11 =>
Som (vFieldAddr 1 t11) fun t12 =>
Som (vLoad1 t12 (σ1.bumpT 9)) fun t13 =>
Eff (copyA 1 t9 t13 (σ1.bumpT 9)) fun t14 σ2 =>
Som (vNilck a0) fun t16 =>
Som (vFieldAddr 3 t16) fun t17 =>
Eff (storeW 1 t17 .nsl σ2) fun _ σ3 =>
Ret [some (.int .i64 0)] σ3 Q)
theorem f44_eq (C : CW) (a0 : AVal) (σ : S) (Q : AVal → S → Prop) : f44 C   a0 σ Q = wC C (.seq (.ops [oq 2 (.mov (.val (.int .i64 0)))]) (.seq (.seq (.ops [oq 3 (.mov (ot 0)), oe 4 (.call 36 [(ot 3)]), oq 5 (.un .not (ot 4))]) (.cond (ot 5) (.seq (.ops [oq 2 (.mov (.val (.int .i64 11)))]) .ret) .skip)) (.seq (.draw 9 [⟨0, oq 6 (.mov (ot 0)), []⟩, ⟨1, oq 7 (.nilck (ot 6)), []⟩, ⟨2, oq 8 (.fieldAddr 2 (ot 7)), []⟩, ⟨3, oq 9 (.load1 (ot 8)), []⟩, ⟨4, oq 10 (.mov (ot 0)), []⟩, ⟨5, oq 11 (.nilck (ot 10)), []⟩, ⟨6, oq 12 (.fieldAddr 1 (ot 11)), []⟩, ⟨7, oq 13 (.load1 (ot 12)), []⟩, ⟨8, oe 14 (.copy 1 (ot 9) (ot 13)), []⟩]) (.seq (.ops [oq 15 (.mov (ot 0)), oq 16 (.nilck (ot 15)), oq 17 (.fieldAddr 3 (ot 16)), ⟨none, none, (.e (.store 1 (ot 17) (.val .nsl)))⟩]) (.seq (.ops [oq 2 (.mov (.val (.int .i64 0)))]) .ret))))) (E0.set 0 a0) σ (retK f44.res Q) := by kernel_rfl
theorem f44_ent (a0 : AVal) : enterE [a0] (slotsN 18) E0 = some (E0.set 0 a0) := by kernel_rfl
set_option maxRecDepth 20000 in
theorem f44_wf {tab : Nat → Option PFn} (ht : tab 44 = some f44.fn) {a0 : AVal} {σ : S} {Q : AVal → S → Prop} (h : f44 (WF tab)   a0 σ Q) : WF tab 44 [a0] σ Q := wFn_sound ht (wFn_code (f44_ent a0) (Eq.mp (f44_eq (WF tab)   a0 σ Q) h))
/-! *dray/wal.Log.anew -/
noncomputable def f45.c1 : PC := (.seq (.seq (.ops [oq 51 (.mov (ot 8)), oe 52 (.call 51 [(ot 7), (ot 51)]), oq 11 (.mov (ot 52))]) (.seq (.ops [oq 53 (.mov (ot 11)), oq 54 (.bin .neq .num (ot 53) (.val (.int .i64 0)))]) (.cond (ot 54) (.seq (.ops [oq 55 (.mov (ot 11)), oq 6 (.mov (ot 55))]) .ret) .skip))) (.seq (.ops [oq 56 (.mov (ot 1)), oq 57 (.mov (ot 2)), oe 58 (.call 75 [(ot 7), (ot 56), (ot 57)])]) (.seq (.seq (.draw 26 [⟨0, oq 59 (.mov (ot 0)), []⟩, ⟨1, oq 60 (.nilck (ot 59)), []⟩, ⟨2, oq 61 (.fieldAddr 0 (ot 60)), []⟩, ⟨3, oq 62 (.load1 (ot 61)), []⟩, ⟨4, oe 63 (.call 44 [(ot 62)]), []⟩, ⟨5, oq 64 (.bin .neq .num (ot 63) (.val (.int .i64 0))), []⟩, ⟨6, oq 65 (.mov (ot 64)), []⟩, ⟨7, oqg 66 65 false (.mov (ot 0)), []⟩, ⟨8, oqg 67 65 false (.nilck (ot 66)), []⟩, ⟨9, oqg 68 65 false (.fieldAddr 0 (ot 67)), []⟩, ⟨10, oqg 69 65 false (.load1 (ot 68)), []⟩, ⟨11, oqg 70 65 false (.mov (ot 0)), []⟩, ⟨12, oqg 71 65 false (.nilck (ot 70)), []⟩, ⟨13, oqg 72 65 false (.fieldAddr 1 (ot 71)), []⟩, ⟨14, oqg 73 65 false (.load1 (ot 72)), []⟩, ⟨15, oeg 74 65 false (.call 43 [(ot 69), (ot 73), (.val (.int .i64 0))]), []⟩, ⟨16, oqg 75 65 false (.bin .neq .num (ot 74) (.val (.int .i64 0))), []⟩, ⟨17, oq 76 (.pick (ot 65) (.val (.bool true)) (ot 75)), []⟩, ⟨18, oq 77 (.mov (ot 76)), []⟩, ⟨19, oqg 78 77 false (.mov (ot 0)), []⟩, ⟨20, oqg 79 77 false (.nilck (ot 78)), []⟩, ⟨21, oqg 80 77 false (.fieldAddr 0 (ot 79)), []⟩, ⟨22, oqg 81 77 false (.load1 (ot 80)), []⟩, ⟨23, oeg 82 77 false (.call 44 [(ot 81)]), []⟩, ⟨24, oqg 83 77 false (.bin .neq .num (ot 82) (.val (.int .i64 0))), []⟩, ⟨25, oq 84 (.pick (ot 77) (.val (.bool true)) (ot 83)), []⟩]) (.cond (ot 84) (.seq (.ops [oq 6 (.mov (.val (.int .i64 11)))]) .ret) .skip)) (.seq (.ops [oq 85 (.mov (ot 0)), oq 86 (.loadN 7 (ot 7)), oq 87 (.nilck (ot 85)), ⟨none, none, (.e (.store 7 (ot 87) (ot 86)))⟩]) (.seq (.ops [oq 6 (.mov (.val (.int .i64 0)))]) .ret)))))
noncomputable def f45.c0 : PC := (.seq (.ops [oq 37 (.bin .lss .num (ot 36) (ot 35))]) (.seq (.cond (ot 37) .skip (.exit 0)) (.seq (.block 1 (.seq (.ops [oq 38 (.mov (ot 36)), oq 39 (.ixSl 1 (ot 34) (ot 36)), oq 40 (.load1 (ot 39)), oq 9 (.mov (ot 38)), oq 10 (.mov (ot 40))]) (.ops [oq 41 (.mov (ot 8)), oq 42 (.fieldAddr 2 (ot 7)), oq 43 (.load1 (ot 42)), oq 44 (.mov (ot 1)), oq 45 (.mov (ot 9)), oq 46 (.bin .add .num (ot 44) (ot 45)), oq 47 (.mov (ot 10)), oe 48 (.call 50 [(.val .nsl), (.val (.int .i64 1)), (ot 43), (ot 46), (.val (.int .i64 0)), (ot 47)]), oe 49 (.append 1 1 (ot 41) (ot 48)), oq 8 (.mov (ot 49))]))) (.ops [oq 50 (.bin .add .num (ot 36) (.val (.int .i64 1))), oq 36 (.mov (ot 50))]))))
noncomputable def f45.res : List PRes := [.tmp (sn 6)]
noncomputable def f45.p1 (C : CW) (Q : AVal → S → Prop) (E : En) (σ : S) : Prop :=
C 51 [(E 7), (E 8)] σ fun t52 σ1 =>
Som (binA .neq .num t52 (.int .i64 0)) fun t54 =>
WIf t54 (
Ret [some t52] σ1 Q) (
C 75 [(E 7), (E 1), (E 2)] σ1 fun t58 σ2 =>
Som (vNilck (E 0)) fun t60 =>
Som (vFieldAddr 0 t60) fun t61 =>
Som (vLoad1 t61 (σ2.bumpT 26)) fun t62 =>
C 44 [t62] (σ2.bumpT 26) fun t63 σ3 =>
Som (binA .neq .num t63 (.int .i64 0)) fun t64 =>
Som (gq1 (isB t64 false) (some (E 0))) fun t66 =>
Som (gq1 (isB t64 false) (vNilck t66)) fun t67 =>
Som (gq1 (isB t64 false) (vFieldAddr 0 t67)) fun t68 =>
Som (gq1 (isB t64 false) (vLoad1 t68 σ3)) fun t69 =>
Som (gq1 (isB t64 false) (some (E 0))) fun t70 =>
Som (gq1 (isB t64 false) (vNilck t70)) fun t71 =>
Som (gq1 (isB t64 false) (vFieldAddr 1 t71)) fun t72 =>
Som (gq1 (isB t64 false) (vLoad1 t72 σ3)) fun t73 =>
gE1 (isB t64 false) (fun K => C 43 [t69, t73, (.int .i64 0)] σ3 K) σ3 fun t74 σ4 =>
Som (gq1 (isB t64 false) (binA .neq .num t74 (.int .i64 0))) fun t75 =>
Som (vPick t64 (.bool true) t75) fun t76 =>
Som (gq1 (isB t76 false) (some (E 0))) fun t78 =>
Som (gq1 (isB t76 false) (vNilck t78)) fun t79 =>
Som (gq1 (isB t76 false) (vFieldAddr 0 t79)) fun t80 =>
Som (gq1 (isB t76 false) (vLoad1 t80 σ4)) fun t81 =>
gE1 (isB t76 false) (fun K => C 44 [t81] σ4 K) σ4 fun t82 σ5 =>
Som (gq1 (isB t76 false) (binA .neq .num t82 (.int .i64 0))) fun t83 =>
Som (vPick t76 (.bool true) t83) fun t84 =>
WIf t84 (
Ret [some (.int .i64 11)] σ5 Q) (
Som (vLoadN 7 (E 7) σ5) fun t86 =>
Som (vNilck (E 0)) fun t87 =>
Eff (storeW 7 t87 t86 σ5) fun _ σ6 =>
Ret [some (.int .i64 0)] σ6 Q))
theorem f45.p1_eq (C : CW) (Q : AVal → S → Prop) (E : En) (σ : S) : f45.p1 C Q  E σ = wC C (.seq (.seq (.ops [oq 51 (.mov (ot 8)), oe 52 (.call 51 [(ot 7), (ot 51)]), oq 11 (.mov (ot 52))]) (.seq (.ops [oq 53 (.mov (ot 11)), oq 54 (.bin .neq .num (ot 53) (.val (.int .i64 0)))]) (.cond (ot 54) (.seq (.ops [oq 55 (.mov (ot 11)), oq 6 (.mov (ot 55))]) .ret) .skip))) (.seq (.ops [oq 56 (.mov (ot 1)), oq 57 (.mov (ot 2)), oe 58 (.call 75 [(ot 7), (ot 56), (ot 57)])]) (.seq (.seq (.draw 26 [⟨0, oq 59 (.mov (ot 0)), []⟩, ⟨1, oq 60 (.nilck (ot 59)), []⟩, ⟨2, oq 61 (.fieldAddr 0 (ot 60)), []⟩, ⟨3, oq 62 (.load1 (ot 61)), []⟩, ⟨4, oe 63 (.call 44 [(ot 62)]), []⟩, ⟨5, oq 64 (.bin .neq .num (ot 63) (.val (.int .i64 0))), []⟩, ⟨6, oq 65 (.mov (ot 64)), []⟩, ⟨7, oqg 66 65 false (.mov (ot 0)), []⟩, ⟨8, oqg 67 65 false (.nilck (ot 66)), []⟩, ⟨9, oqg 68 65 false (.fieldAddr 0 (ot 67)), []⟩, ⟨10, oqg 69 65 false (.load1 (ot 68)), []⟩, ⟨11, oqg 70 65 false (.mov (ot 0)), []⟩, ⟨12, oqg 71 65 false (.nilck (ot 70)), []⟩, ⟨13, oqg 72 65 false (.fieldAddr 1 (ot 71)), []⟩, ⟨14, oqg 73 65 false (.load1 (ot 72)), []⟩, ⟨15, oeg 74 65 false (.call 43 [(ot 69), (ot 73), (.val (.int .i64 0))]), []⟩, ⟨16, oqg 75 65 false (.bin .neq .num (ot 74) (.val (.int .i64 0))), []⟩, ⟨17, oq 76 (.pick (ot 65) (.val (.bool true)) (ot 75)), []⟩, ⟨18, oq 77 (.mov (ot 76)), []⟩, ⟨19, oqg 78 77 false (.mov (ot 0)), []⟩, ⟨20, oqg 79 77 false (.nilck (ot 78)), []⟩, ⟨21, oqg 80 77 false (.fieldAddr 0 (ot 79)), []⟩, ⟨22, oqg 81 77 false (.load1 (ot 80)), []⟩, ⟨23, oeg 82 77 false (.call 44 [(ot 81)]), []⟩, ⟨24, oqg 83 77 false (.bin .neq .num (ot 82) (.val (.int .i64 0))), []⟩, ⟨25, oq 84 (.pick (ot 77) (.val (.bool true)) (ot 83)), []⟩]) (.cond (ot 84) (.seq (.ops [oq 6 (.mov (.val (.int .i64 11)))]) .ret) .skip)) (.seq (.ops [oq 85 (.mov (ot 0)), oq 86 (.loadN 7 (ot 7)), oq 87 (.nilck (ot 85)), ⟨none, none, (.e (.store 7 (ot 87) (ot 86)))⟩]) (.seq (.ops [oq 6 (.mov (.val (.int .i64 0)))]) .ret))))) E σ (retK f45.res Q) := by kernel_rfl
abbrev f45.J1 (C : CW) (Q : AVal → S → Prop) (E : En) (σ : S) : Prop := wC C f45.c1 E σ (retK f45.res Q)
set_option maxRecDepth 20000 in
theorem f45.p1_of {C : CW} {Q : AVal → S → Prop} {E : En} {σ : S} (h : f45.p1 C Q  E σ) : f45.J1 C Q E σ := Eq.mp (f45.p1_eq C Q  E σ) h
noncomputable def f45.p0 (C : CW) (Q : AVal → S → Prop) (R0 R1 : PC) (E : En) (σ : S) : Prop :=
Som (binA .lss .num (E 36) (E 35)) fun t37 =>
WIf t37 (
Som (vIxSl 1 (E 34) (E 36)) fun t39 =>
Som (vLoad1 t39 σ) fun t40 =>
Som (vFieldAddr 2 (E 7)) fun t42 =>
Som (vLoad1 t42 σ) fun t43 =>
Som (binA .add .num (E 1) (E 36)) fun t46 =>
C 50 [.nsl, (.int .i64 1), t43, t46, (.int .i64 0), t40] σ fun t48 σ1 =>
Eff (appendA 1 1 (E 8) t48 σ1) fun t49 σ2 =>
Som (binA .add .num (E 36) (.int .i64 1)) fun t50 =>
wC C (.loop R0) ((((((((((((((((((E.set 37 t37).set 38 (E 36)).set 39 t39).set 40 t40).set 9 (E 36)).set 10 t40).set 41 (E 8)).set 42 t42).set 43 t43).set 44 (E 1)).set 45 (E 36)).set 46 t46).set 47 t40).set 48 t48).set 49 t49).set 8 t49).set 50 t50).set 36 t50) σ2 (blockK 0 (seqK (wC C R1) (retK f45.res Q)))) (
wC C R1 (E.set 37 t37) σ (retK f45.res Q))
theorem f45.p0_eq (C : CW) (Q : AVal → S → Prop) (R0 R1 : PC) (E : En) (σ : S) : f45.p0 C Q R0 R1 E σ = wC C (.seq (.ops [oq 37 (.bin .lss .num (ot 36) (ot 35))]) (.seq (.cond (ot 37) .skip (.exit 0)) (.seq (.block 1 (.seq (.ops [oq 38 (.mov (ot 36)), oq 39 (.ixSl 1 (ot 34) (ot 36)), oq 40 (.load1 (ot 39)), oq 9 (.mov (ot 38)), oq 10 (.mov (ot 40))]) (.ops [oq 41 (.mov (ot 8)), oq 42 (.fieldAddr 2 (ot 7)), oq 43 (.load1 (ot 42)), oq 44 (.mov (ot 1)), oq 45 (.mov (ot 9)), oq 46 (.bin .add .num (ot 44) (ot 45)), oq 47 (.mov (ot 10)), oe 48 (.call 50 [(.val .nsl), (.val (.int .i64 1)), (ot 43), (ot 46), (.val (.int .i64 0)), (ot 47)]), oe 49 (.append 1 1 (ot 41) (ot 48)), oq 8 (.mov (ot 49))]))) (.ops [oq 50 (.bin .add .num (ot 36) (.val (.int .i64 1))), oq 36 (.mov (ot 50))])))) E σ (loopK C R0 (blockK 0 (seqK (wC C R1) (retK f45.res Q)))) := by kernel_rfl
abbrev f45.L0 (C : CW) (Q : AVal → S → Prop) (E : En) (σ : S) : Prop := wC C (.loop f45.c0) E σ (blockK 0 (seqK (wC C f45.c1) (retK f45.res Q)))
set_option maxRecDepth 20000 in
theorem f45.p0_of {tab : Nat → Option PFn} {Q : AVal → S → Prop} {E : En} {σ : S} (h : f45.p0 (WF tab) Q f45.c0 f45.c1 E σ) : f45.L0 (WF tab) Q E σ := wLoop_step (Eq.mp (f45.p0_eq (WF tab) Q f45.c0 f45.c1 E σ) h)
noncomputable def f45.body : PC := (.seq (.ops [oq 6 (.mov (.val (.int .i64 0)))]) (.seq (.draw 18 [⟨0, oq 12 (.mov (ot 0)), []⟩, ⟨1, oq 13 (.nilck (ot 12)), []⟩, ⟨2, oq 14 (.fieldAddr 0 (ot 13)), []⟩, ⟨3, oq 15 (.load1 (ot 14)), []⟩, ⟨4, oq 16 (.mov (ot 0)), []⟩, ⟨5, oq 17 (.nilck (ot 16)), []⟩, ⟨6, oq 18 (.fieldAddr 1 (ot 17)), []⟩, ⟨7, oq 19 (.load1 (ot 18)), []⟩, ⟨8, oq 20 (.bin .sub .num (.val (.int .i64 17)) (ot 19)), []⟩, ⟨9, oq 21 (.mov (ot 0)), []⟩, ⟨10, oq 22 (.nilck (ot 21)), []⟩, ⟨11, oq 23 (.fieldAddr 2 (ot 22)), []⟩, ⟨12, oq 24 (.load1 (ot 23)), []⟩, ⟨13, oq 25 (.bin .add .num (ot 24) (.val (.int .i64 1))), []⟩, ⟨14, oq 26 (.mov (ot 1)), []⟩, ⟨15, oq 27 (.build [.nptr, (.int .i64 0), (.int .i64 0), (.int .i64 0), .nsl, (.int .i64 0), (.int .i64 0)] [(0, 1, (ot 15)), (1, 1, (ot 20)), (2, 1, (ot 25)), (3, 1, (ot 26))]), []⟩, ⟨16, oa 7 (.alloc [.nptr, (.int .i64 0), (.int .i64 0), (.int .i64 0), .nsl, (.int .i64 0), (.int .i64 0)]), []⟩, ⟨17, ⟨none, none, (.e (.store 7 (ot 7) (ot 27)))⟩, []⟩]) (.seq (.ops [oq 28 (.fieldAddr 2 (ot 7)), oq 29 (.load1 (ot 28)), oq 30 (.mov (ot 1)), oq 31 (.mov (ot 2)), oq 32 (.lenSl (ot 31)), oe 33 (.call 50 [(.val .nsl), (.val (.int .i64 0)), (ot 29), (ot 30), (ot 32), (.val (.str []))]), oq 8 (.mov (ot 33))]) (.seq (.seq (.ops [oq 34 (.mov (ot 2)), oq 35 (.lenSl (ot 34)), oq 36 (.mov (.val (.int .i64 0)))]) (.block 0 (.loop f45.c0))) f45.c1))))
noncomputable def f45.fn : PFn := .code (slotsN 88) f45.body f45.res
noncomputable def f45 (C : CW) (R0 R1 : PC) (a0 a1 a2 : AVal) (σ : S) (Q : AVal → S → Prop) : Prop :=
Som (vNilck a0) fun t13 =>
Som (vFieldAddr 0 t13) fun t14 =>
Som (vLoad1 t14 (σ.bumpT 18)) fun t15 =>
Som (vNilck a0) fun t17 =>
Som (vFieldAddr 1 t17) fun t18 =>
Som (vLoad1 t18 (σ.bumpT 18)) fun t19 =>
Som (binA .sub .num (.int .i64 17) t19) fun t20 =>
Som (vNilck a0) fun t22 =>
Som (vFieldAddr 2 t22) fun t23 =>
Som (vLoad1 t23 (σ.bumpT 18)) fun t24 =>
Som (binA .add .num t24 (.int .i64 1)) fun t25 =>
Som (vBuild [.nptr, (.int .i64 0), (.int .i64 0), (.int .i64 0), .nsl, (.int .i64 0), (.int .i64 0)] [(0, 1, t15), (1, 1, t20), (2, 1, t25), (3, 1, a1)]) fun t27 =>
Alb (aAllocV [.nptr, (.int .i64 0), (.int .i64 0), (.int .i64 0), .nsl, (.int .i64 0), (.int .i64 0)]) (Pos.plusT 16 σ.next) (σ.bumpT 18) fun t7 σ1 =>
Eff (storeW 7 t7 t27 σ1) fun _ σ2 =>
Som (vFieldAddr 2 t7) fun t28 =>
Som (vLoad1 t28 σ2) fun t29 =>
Som (vLenSl a2) fun t32 =>
C 50 [.nsl, (.int .i64 0), t29, a1, t32, (.str [])] σ2 fun t33 σ3 =>
Som (vLenSl a2) fun t35 =>
wC C (.loop R0) (((((((((((((((((((((((((((((((E0.set 0 a0).set 1 a1).set 2 a2).set 6 (.int .i64 0)).set 12 a0).set 13 t13).set 14 t14).set 15 t15).set 16 a0).set 17 t17).set 18 t18).set 19 t19).set 20 t20).set 21 a0).set 22 t22).set 23 t23).set 24 t24).set 25 t25).set 26 a1).set 27 t27).set 7 t7).set 28 t28).set 29 t29).set 30 a1).set 31 a2).set 32 t32).set 33 t33).set 8 t33).set 34 a2).set 35 t35).set 36 (.int .i64 0)) σ3 (blockK 0 (seqK (wC C R1) (retK f45.res Q)))
theorem f45_eq (C : CW) (R0 R1 : PC) (a0 a1 a2 : AVal) (σ : S) (Q : AVal → S → Prop) : f45 C R0 R1  a0 a1 a2 σ Q = wC C (.seq (.ops [oq 6 (.mov (.val (.int .i64 0)))]) (.seq (.draw 18 [⟨0, oq 12 (.mov (ot 0)), []⟩, ⟨1, oq 13 (.nilck (ot 12)), []⟩, ⟨2, oq 14 (.fieldAddr 0 (ot 13)), []⟩, ⟨3, oq 15 (.load1 (ot 14)), []⟩, ⟨4, oq 16 (.mov (ot 0)), []⟩, ⟨5, oq 17 (.nilck (ot 16)), []⟩, ⟨6, oq 18 (.fieldAddr 1 (ot 17)), []⟩, ⟨7, oq 19 (.load1 (ot 18)), []⟩, ⟨8, oq 20 (.bin .sub .num (.val (.int .i64 17)) (ot 19)), []⟩, ⟨9, oq 21 (.mov (ot 0)), []⟩, ⟨10, oq 22 (.nilck (ot 21)), []⟩, ⟨11, oq 23 (.fieldAddr 2 (ot 22)), []⟩, ⟨12, oq 24 (.load1 (ot 23)), []⟩, ⟨13, oq 25 (.bin .add .num (ot 24) (.val (.int .i64 1))), []⟩, ⟨14, oq 26 (.mov (ot 1)), []⟩, ⟨15, oq 27 (.build [.nptr, (.int .i64 0), (.int .i64 0), (.int .i64 0), .nsl, (.int .i64 0), (.int .i64 0)] [(0, 1, (ot 15)), (1, 1, (ot 20)), (2, 1, (ot 25)), (3, 1, (ot 26))]), []⟩, ⟨16, oa 7 (.alloc [.nptr, (.int .i64 0), (.int .i64 0), (.int .i64 0), .nsl, (.int .i64 0), (.int .i64 0)]), []⟩, ⟨17, ⟨none, none, (.e (.store 7 (ot 7) (ot 27)))⟩, []⟩]) (.seq (.ops [oq 28 (.fieldAddr 2 (ot 7)), oq 29 (.load1 (ot 28)), oq 30 (.mov (ot 1)), oq 31 (.mov (ot 2)), oq 32 (.lenSl (ot 31)), oe 33 (.call 50 [(.val .nsl), (.val (.int .i64 0)), (ot 29), (ot 30), (ot 32), (.val (.str []))]), oq 8 (.mov (ot 33))]) (.seq (.seq (.ops [oq 34 (.mov (ot 2)), oq 35 (.lenSl (ot 34)), oq 36 (.mov (.val (.int .i64 0)))]) (.block 0 (.loop R0))) R1)))) (((E0.set 0 a0).set 1 a1).set 2 a2) σ (retK f45.res Q) := by kernel_rfl
theorem f45_ent (a0 a1 a2 : AVal) : enterE [a0, a1, a2] (slotsN 88) E0 = some (((E0.set 0 a0).set 1 a1).set 2 a2) := by kernel_rfl
set_option maxRecDepth 20000 in
theorem f45_wf {tab : Nat → Option PFn} (ht : tab 45 = some f45.fn) {a0 a1 a2 : AVal} {σ : S} {Q : AVal → S → Prop} (h : f45 (WF tab) f45.c0 f45.c1  a0 a1 a2 σ Q) : WF tab 45 [a0, a1, a2] σ Q := wFn_sound ht (wFn_code (f45_ent a0 a1 a2) (Eq.mp (f45_eq (WF tab) f45.c0 f45.c1  a0 a1 a2 σ Q) h))
/-! *dray/wal.Log.left -/
noncomputable def f47.res : List PRes := [.tmp (sn 10)]
noncomputable def f47.body : PC := (.seq (.ops [oq 10 (.mov (.val (.int .i64 0)))]) (.seq (.ops [oq 15 (.mov (ot 0)), oe 16 (.call 49 [(ot 15)]), oq 11 (.mov (ot 16))]) (.seq (.ops [oq 17 (.mov (ot 1)), oq 18 (.mov (ot 0)), oq 19 (.nilck (ot 18)), oq 20 (.fieldAddr 2 (ot 19)), oq 21 (.load1 (ot 20)), oq 22 (.mov (ot 2)), oe 23 (.call 50 [(.val .nsl), (ot 17), (ot 21), (ot 22), (.val (.int .i64 0)), (.val (.str []))]), oq 12 (.mov (ot 23))]) (.seq (.ops [oq 24 (.mov (ot 11)), oq 25 (.mov (ot 12)), oe 26 (.append 1 1 (ot 24) (ot 25)), oq 13 (.mov (ot 26))]) (.seq (.seq (.draw 14 [⟨0, oq 27 (.mov (ot 0)), []⟩, ⟨1, oq 28 (.nilck (ot 27)), []⟩, ⟨2, oq 29 (.fieldAddr 5 (ot 28)), []⟩, ⟨3, oq 30 (.load1 (ot 29)), []⟩, ⟨4, oq 31 (.mov (ot 13)), []⟩, ⟨5, oq 32 (.lenSl (ot 31)), []⟩, ⟨6, oq 33 (.bin .add .num (ot 30) (ot 32)), []⟩, ⟨7, oq 34 (.mov (ot 0)), []⟩, ⟨8, oq 35 (.mov (ot 3)), []⟩, ⟨9, oq 36 (.mov (ot 4)), []⟩, ⟨10, oe 37 (.call 76 [(ot 34), (ot 35), (ot 36)]), [oq 30 (.load1 (ot 29))]⟩, ⟨11, oq 38 (.bin .mul .num (.val (.int .i64 2)) (ot 37)), []⟩, ⟨12, oq 39 (.bin .add .num (ot 38) (.val (.int .i64 4096))), []⟩, ⟨13, oq 40 (.bin .gtr .num (ot 33) (ot 39)), []⟩]) (.cond (ot 40) (.seq (.ops [oq 41 (.mov (ot 0)), oq 42 (.mov (ot 3)), oq 43 (.mov (ot 4)), oe 44 (.call 45 [(ot 41), (ot 42), (ot 43)]), oq 10 (.mov (ot 44))]) .ret) .skip)) (.seq (.seq (.ops [oq 45 (.mov (ot 0)), oq 46 (.mov (ot 13)), oe 47 (.call 51 [(ot 45), (ot 46)]), oq 14 (.mov (ot 47))]) (.seq (.ops [oq 48 (.mov (ot 14)), oq 49 (.bin .neq .num (ot 48) (.val (.int .i64 0)))]) (.cond (ot 49) (.seq (.ops [oq 50 (.mov (ot 14)), oq 10 (.mov (ot 50))]) .ret) .skip))) (.seq (.ops [oq 51 (.mov (ot 0)), oq 52 (.mov (ot 3)), oq 53 (.mov (ot 4)), oe 54 (.call 75 [(ot 51), (ot 52), (ot 53)])]) (.seq (.ops [oq 10 (.mov (.val (.int .i64 0)))]) .ret))))))))
noncomputable def f47.fn : PFn := .code (slotsN 55) f47.body f47.res
noncomputable def f47 (C : CW) (a0 a1 a2 a3 a4 : AVal) (σ : S) (Q : AVal → S → Prop) : Prop :=
C 49 [a0] σ fun t16 σ1 =>
Som (vNilck a0) fun t19 =>
Som (vFieldAddr 2 t19) fun t20 =>
Som (vLoad1 t20 σ1) fun t21 =>
C 50 [.nsl, a1, t21, a2, (.int .i64 0), (.str [])] σ1 fun t23 σ2 =>
Eff (appendA 1 1 t16 t23 σ2) fun t26 σ3 =>
Som (vNilck a0) fun t28 =>
Som (vFieldAddr 5 t28) fun t29 =>
Som (vLoad1 t29 (σ3.bumpT 14)) fun t30 =>
Som (vLenSl t26) fun t32 =>
Som (binA .add .num t30 t32) fun t33 =>
C 76 [a0, a3, a4] (σ3.bumpT 14) fun t37 σ4 =>
Sure (SameO (vLoad1 t29 σ4) t30) <|
Som (binA .mul .num (.int .i64 2) t37) fun t38 =>
Som (binA .add .num t38 (.int .i64 4096)) fun t39 =>
Som (binA .gtr .num t33 t39) fun t40 =>
WIf t40 (
C 45 [a0, a3, a4] σ4 fun t44 σ5 =>
Ret [some t44] σ5 Q) (
C 51 [a0, t26] σ4 fun t47 σ5 =>
Som (binA .neq .num t47 (.int .i64 0)) fun t49 =>
WIf t49 (
Ret [some t47] σ5 Q) (
C 75 [a0, a3, a4] σ5 fun t54 σ6 =>
Ret [some (.int .i64 0)] σ6 Q))
theorem f47_eq (C : CW) (a0 a1 a2 a3 a4 : AVal) (σ : S) (Q : AVal → S → Prop) : f47 C   a0 a1 a2 a3 a4 σ Q = wC C (.seq (.ops [oq 10 (.mov (.val (.int .i64 0)))]) (.seq (.ops [oq 15 (.mov (ot 0)), oe 16 (.call 49 [(ot 15)]), oq 11 (.mov (ot 16))]) (.seq (.ops [oq 17 (.mov (ot 1)), oq 18 (.mov (ot 0)), oq 19 (.nilck (ot 18)), oq 20 (.fieldAddr 2 (ot 19)), oq 21 (.load1 (ot 20)), oq 22 (.mov (ot 2)), oe 23 (.call 50 [(.val .nsl), (ot 17), (ot 21), (ot 22), (.val (.int .i64 0)), (.val (.str []))]), oq 12 (.mov (ot 23))]) (.seq (.ops [oq 24 (.mov (ot 11)), oq 25 (.mov (ot 12)), oe 26 (.append 1 1 (ot 24) (ot 25)), oq 13 (.mov (ot 26))]) (.seq (.seq (.draw 14 [⟨0, oq 27 (.mov (ot 0)), []⟩, ⟨1, oq 28 (.nilck (ot 27)), []⟩, ⟨2, oq 29 (.fieldAddr 5 (ot 28)), []⟩, ⟨3, oq 30 (.load1 (ot 29)), []⟩, ⟨4, oq 31 (.mov (ot 13)), []⟩, ⟨5, oq 32 (.lenSl (ot 31)), []⟩, ⟨6, oq 33 (.bin .add .num (ot 30) (ot 32)), []⟩, ⟨7, oq 34 (.mov (ot 0)), []⟩, ⟨8, oq 35 (.mov (ot 3)), []⟩, ⟨9, oq 36 (.mov (ot 4)), []⟩, ⟨10, oe 37 (.call 76 [(ot 34), (ot 35), (ot 36)]), [oq 30 (.load1 (ot 29))]⟩, ⟨11, oq 38 (.bin .mul .num (.val (.int .i64 2)) (ot 37)), []⟩, ⟨12, oq 39 (.bin .add .num (ot 38) (.val (.int .i64 4096))), []⟩, ⟨13, oq 40 (.bin .gtr .num (ot 33) (ot 39)), []⟩]) (.cond (ot 40) (.seq (.ops [oq 41 (.mov (ot 0)), oq 42 (.mov (ot 3)), oq 43 (.mov (ot 4)), oe 44 (.call 45 [(ot 41), (ot 42), (ot 43)]), oq 10 (.mov (ot 44))]) .ret) .skip)) (.seq (.seq (.ops [oq 45 (.mov (ot 0)), oq 46 (.mov (ot 13)), oe 47 (.call 51 [(ot 45), (ot 46)]), oq 14 (.mov (ot 47))]) (.seq (.ops [oq 48 (.mov (ot 14)), oq 49 (.bin .neq .num (ot 48) (.val (.int .i64 0)))]) (.cond (ot 49) (.seq (.ops [oq 50 (.mov (ot 14)), oq 10 (.mov (ot 50))]) .ret) .skip))) (.seq (.ops [oq 51 (.mov (ot 0)), oq 52 (.mov (ot 3)), oq 53 (.mov (ot 4)), oe 54 (.call 75 [(ot 51), (ot 52), (ot 53)])]) (.seq (.ops [oq 10 (.mov (.val (.int .i64 0)))]) .ret)))))))) (((((E0.set 0 a0).set 1 a1).set 2 a2).set 3 a3).set 4 a4) σ (retK f47.res Q) := by kernel_rfl
theorem f47_ent (a0 a1 a2 a3 a4 : AVal) : enterE [a0, a1, a2, a3, a4] (slotsN 55) E0 = some (((((E0.set 0 a0).set 1 a1).set 2 a2).set 3 a3).set 4 a4) := by kernel_rfl
set_option maxRecDepth 20000 in
theorem f47_wf {tab : Nat → Option PFn} (ht : tab 47 = some f47.fn) {a0 a1 a2 a3 a4 : AVal} {σ : S} {Q : AVal → S → Prop} (h : f47 (WF tab)   a0 a1 a2 a3 a4 σ Q) : WF tab 47 [a0, a1, a2, a3, a4] σ Q := wFn_sound ht (wFn_code (f47_ent a0 a1 a2 a3 a4) (Eq.mp (f47_eq (WF tab)   a0 a1 a2 a3 a4 σ Q) h))
/-! *dray/wal.Log.takes -/
noncomputable def f48.res : List PRes := [.tmp (sn 6)]
noncomputable def f48.body : PC := (.seq (.ops [oq 6 (.mov (.val (.bool false)))]) (.seq (.seq (.ops [oq 7 (.mov (ot 0)), oq 8 (.nilck (ot 7)), oq 9 (.fieldAddr 4 (ot 8)), oq 10 (.load1 (ot 9)), oq 11 (.lenSl (ot 10)), oq 12 (.bin .gtr .num (ot 11) (.val (.int .i64 0))), oq 13 (.mov (ot 12)), oqg 14 13 true (.mov (ot 1)), oqg 15 13 true (.mov (ot 0)), oeg 16 13 true (.call 15 [(ot 15)]), oqg 17 13 true (.bin .add .num (ot 16) (.val (.int .i64 1))), oqg 18 13 true (.bin .neq .num (ot 14) (ot 17)), oq 19 (.pick (ot 13) (ot 18) (.val (.bool false))), oq 20 (.mov (ot 19)), oqg 21 20 false (.mov (ot 0)), oqg 22 20 false (.nilck (ot 21)), oqg 23 20 false (.fieldAddr 4 (ot 22)), oqg 24 20 false (.load1 (ot 23)), oqg 25 20 false (.lenSl (ot 24)), oqg 26 20 false (.bin .eql .num (ot 25) (.val (.int .i64 0))), oqg 27 20 false (.mov (ot 26)), oqg 28 27 true (.mov (ot 1)), oqg 29 27 true (.bin .lss .num (ot 28) (.val (.int .i64 1))), oqg 30 27 true (.mov (ot 29)), oqg 31 30 false (.mov (ot 1)), oqg 32 30 false (.bin .gtr .num (ot 31) (.val (.int .i64 1099511627777))), oqg 33 27 true (.pick (ot 30) (.val (.bool true)) (ot 32)), oqg 34 20 false (.pick (ot 27) (ot 33) (.val (.bool false))), oq 35 (.pick (ot 20) (.val (.bool true)) (ot 34))]) (.cond (ot 35) (.seq (.ops [oq 6 (.mov (.val (.bool false)))]) .ret) .skip)) (.seq (.ops [oq 36 (.mov (ot 1)), oq 37 (.mov (ot 2)), oq 38 (.bin .add .num (ot 36) (ot 37)), oq 39 (.bin .sub .num (ot 38) (.val (.int .i64 1))), oq 40 (.bin .leq .num (ot 39) (.val (.int .i64 1099511627776))), oq 6 (.mov (ot 40))]) .ret)))
noncomputable def f48.fn : PFn := .code (slotsN 41) f48.body f48.res
noncomputable def f48 (C : CW) (a0 a1 a2 : AVal) (σ : S) (Q : AVal → S → Prop) : Prop :=
Som (vNilck a0) fun t8 =>
Som (vFieldAddr 4 t8) fun t9 =>
Som (vLoad1 t9 σ) fun t10 =>
Som (vLenSl t10) fun t11 =>
Som (binA .gtr .num t11 (.int .i64 0)) fun t12 =>
Som (gq1 (isB t12 true) (some a1)) fun t14 =>
Som (gq1 (isB t12 true) (some a0)) fun t15 =>
gE1 (isB t12 true) (fun K => C 15 [t15] σ K) σ fun t16 σ1 =>
Som (gq1 (isB t12 true) (binA .add .num t16 (.int .i64 1))) fun t17 =>
Som (gq1 (isB t12 true) (binA .neq .num t14 t17)) fun t18 =>
Som (vPick t12 t18 (.bool false)) fun t19 =>
Som (gq1 (isB t19 false) (some a0)) fun t21 =>
Som (gq1 (isB t19 false) (vNilck t21)) fun t22 =>
Som (gq1 (isB t19 false) (vFieldAddr 4 t22)) fun t23 =>
Som (gq1 (isB t19 false) (vLoad1 t23 σ1)) fun t24 =>
Som (gq1 (isB t19 false) (vLenSl t24)) fun t25 =>
Som (gq1 (isB t19 false) (binA .eql .num t25 (.int .i64 0))) fun t26 =>
Som (gq1 (isB t19 false) (some t26)) fun t27 =>
Som (gq1 (isB t27 true) (some a1)) fun t28 =>
Som (gq1 (isB t27 true) (binA .lss .num t28 (.int .i64 1))) fun t29 =>
Som (gq1 (isB t27 true) (some t29)) fun t30 =>
Som (gq1 (isB t30 false) (some a1)) fun t31 =>
Som (gq1 (isB t30 false) (binA .gtr .num t31 (.int .i64 1099511627777))) fun t32 =>
Som (gq1 (isB t27 true) (vPick t30 (.bool true) t32)) fun t33 =>
Som (gq1 (isB t19 false) (vPick t27 t33 (.bool false))) fun t34 =>
Som (vPick t19 (.bool true) t34) fun t35 =>
WIf t35 (
Ret [some (.bool false)] σ1 Q) (
Som (binA .add .num a1 a2) fun t38 =>
Som (binA .sub .num t38 (.int .i64 1)) fun t39 =>
Som (binA .leq .num t39 (.int .i64 1099511627776)) fun t40 =>
Ret [some t40] σ1 Q)
theorem f48_eq (C : CW) (a0 a1 a2 : AVal) (σ : S) (Q : AVal → S → Prop) : f48 C   a0 a1 a2 σ Q = wC C (.seq (.ops [oq 6 (.mov (.val (.bool false)))]) (.seq (.seq (.ops [oq 7 (.mov (ot 0)), oq 8 (.nilck (ot 7)), oq 9 (.fieldAddr 4 (ot 8)), oq 10 (.load1 (ot 9)), oq 11 (.lenSl (ot 10)), oq 12 (.bin .gtr .num (ot 11) (.val (.int .i64 0))), oq 13 (.mov (ot 12)), oqg 14 13 true (.mov (ot 1)), oqg 15 13 true (.mov (ot 0)), oeg 16 13 true (.call 15 [(ot 15)]), oqg 17 13 true (.bin .add .num (ot 16) (.val (.int .i64 1))), oqg 18 13 true (.bin .neq .num (ot 14) (ot 17)), oq 19 (.pick (ot 13) (ot 18) (.val (.bool false))), oq 20 (.mov (ot 19)), oqg 21 20 false (.mov (ot 0)), oqg 22 20 false (.nilck (ot 21)), oqg 23 20 false (.fieldAddr 4 (ot 22)), oqg 24 20 false (.load1 (ot 23)), oqg 25 20 false (.lenSl (ot 24)), oqg 26 20 false (.bin .eql .num (ot 25) (.val (.int .i64 0))), oqg 27 20 false (.mov (ot 26)), oqg 28 27 true (.mov (ot 1)), oqg 29 27 true (.bin .lss .num (ot 28) (.val (.int .i64 1))), oqg 30 27 true (.mov (ot 29)), oqg 31 30 false (.mov (ot 1)), oqg 32 30 false (.bin .gtr .num (ot 31) (.val (.int .i64 1099511627777))), oqg 33 27 true (.pick (ot 30) (.val (.bool true)) (ot 32)), oqg 34 20 false (.pick (ot 27) (ot 33) (.val (.bool false))), oq 35 (.pick (ot 20) (.val (.bool true)) (ot 34))]) (.cond (ot 35) (.seq (.ops [oq 6 (.mov (.val (.bool false)))]) .ret) .skip)) (.seq (.ops [oq 36 (.mov (ot 1)), oq 37 (.mov (ot 2)), oq 38 (.bin .add .num (ot 36) (ot 37)), oq 39 (.bin .sub .num (ot 38) (.val (.int .i64 1))), oq 40 (.bin .leq .num (ot 39) (.val (.int .i64 1099511627776))), oq 6 (.mov (ot 40))]) .ret))) (((E0.set 0 a0).set 1 a1).set 2 a2) σ (retK f48.res Q) := by kernel_rfl
theorem f48_ent (a0 a1 a2 : AVal) : enterE [a0, a1, a2] (slotsN 41) E0 = some (((E0.set 0 a0).set 1 a1).set 2 a2) := by kernel_rfl
set_option maxRecDepth 20000 in
theorem f48_wf {tab : Nat → Option PFn} (ht : tab 48 = some f48.fn) {a0 a1 a2 : AVal} {σ : S} {Q : AVal → S → Prop} (h : f48 (WF tab)   a0 a1 a2 σ Q) : WF tab 48 [a0, a1, a2] σ Q := wFn_sound ht (wFn_code (f48_ent a0 a1 a2) (Eq.mp (f48_eq (WF tab)   a0 a1 a2 σ Q) h))
/-! *dray/wal.Log.begun -/
noncomputable def f49.res : List PRes := [.tmp (sn 2)]
noncomputable def f49.body : PC := (.seq (.ops [oq 2 (.mov (.val .nsl))]) (.seq (.seq (.ops [oq 3 (.mov (ot 0)), oq 4 (.nilck (ot 3)), oq 5 (.fieldAddr 5 (ot 4)), oq 6 (.load1 (ot 5)), oq 7 (.bin .gtr .num (ot 6) (.val (.int .i64 0)))]) (.cond (ot 7) (.seq (.ops [oq 2 (.mov (.val .nsl))]) .ret) .skip)) (.seq (.ops [oq 8 (.mov (ot 0)), oq 9 (.mov (ot 0)), oq 10 (.nilck (ot 9)), oq 11 (.fieldAddr 2 (ot 10)), oq 12 (.load1 (ot 11)), oq 13 (.maxI (ot 12) [(.val (.int .i64 1))]), oq 14 (.nilck (ot 8)), oq 15 (.fieldAddr 2 (ot 14)), ⟨none, none, (.e (.store 1 (ot 15) (ot 13)))⟩]) (.seq (.draw 10 [⟨0, oq 16 (.mov (ot 0)), []⟩, ⟨1, oq 17 (.nilck (ot 16)), []⟩, ⟨2, oq 18 (.fieldAddr 2 (ot 17)), []⟩, ⟨3, oq 19 (.load1 (ot 18)), []⟩, ⟨4, oq 20 (.mov (ot 0)), []⟩, ⟨5, oq 21 (.nilck (ot 20)), []⟩, ⟨6, oq 22 (.fieldAddr 3 (ot 21)), []⟩, ⟨7, oq 23 (.load1 (ot 22)), []⟩, ⟨8, oe 24 (.call 50 [(.val .nsl), (.val (.int .i64 0)), (ot 19), (ot 23), (.val (.int .i64 0)), (.val (.str []))]), []⟩, ⟨9, oq 2 (.mov (ot 24)), []⟩]) .ret))))
noncomputable def f49.fn : PFn := .code (slotsN 25) f49.body f49.res
noncomputable def f49 (C : CW) (a0 : AVal) (σ : S) (Q : AVal → S → Prop) : Prop :=
Som (vNilck a0) fun t4 =>
Som (vFieldAddr 5 t4) fun t5 =>
Som (vLoad1 t5 σ) fun t6 =>
Som (binA .gtr .num t6 (.int .i64 0)) fun t7 =>
WIf t7 (
Ret [some .nsl] σ Q) (
Som (vNilck a0) fun t10 =>
Som (vFieldAddr 2 t10) fun t11 =>
Som (vLoad1 t11 σ) fun t12 =>
Som (maxA t12 [(.int .i64 1)]) fun t13 =>
Som (vNilck a0) fun t14 =>
Som (vFieldAddr 2 t14) fun t15 =>
Eff (storeW 1 t15 t13 σ) fun _ σ1 =>
Som (vNilck a0) fun t17 =>
Som (vFieldAddr 2 t17) fun t18 =>
Som (vLoad1 t18 (σ1.bumpT 10)) fun t19 =>
Som (vNilck a0) fun t21 =>
Som (vFieldAddr 3 t21) fun t22 =>
Som (vLoad1 t22 (σ1.bumpT 10)) fun t23 =>
C 50 [.nsl, (.int .i64 0), t19, t23, (.int .i64 0), (.str [])] (σ1.bumpT 10) fun t24 σ2 =>
Ret [some t24] σ2 Q)
theorem f49_eq (C : CW) (a0 : AVal) (σ : S) (Q : AVal → S → Prop) : f49 C   a0 σ Q = wC C (.seq (.ops [oq 2 (.mov (.val .nsl))]) (.seq (.seq (.ops [oq 3 (.mov (ot 0)), oq 4 (.nilck (ot 3)), oq 5 (.fieldAddr 5 (ot 4)), oq 6 (.load1 (ot 5)), oq 7 (.bin .gtr .num (ot 6) (.val (.int .i64 0)))]) (.cond (ot 7) (.seq (.ops [oq 2 (.mov (.val .nsl))]) .ret) .skip)) (.seq (.ops [oq 8 (.mov (ot 0)), oq 9 (.mov (ot 0)), oq 10 (.nilck (ot 9)), oq 11 (.fieldAddr 2 (ot 10)), oq 12 (.load1 (ot 11)), oq 13 (.maxI (ot 12) [(.val (.int .i64 1))]), oq 14 (.nilck (ot 8)), oq 15 (.fieldAddr 2 (ot 14)), ⟨none, none, (.e (.store 1 (ot 15) (ot 13)))⟩]) (.seq (.draw 10 [⟨0, oq 16 (.mov (ot 0)), []⟩, ⟨1, oq 17 (.nilck (ot 16)), []⟩, ⟨2, oq 18 (.fieldAddr 2 (ot 17)), []⟩, ⟨3, oq 19 (.load1 (ot 18)), []⟩, ⟨4, oq 20 (.mov (ot 0)), []⟩, ⟨5, oq 21 (.nilck (ot 20)), []⟩, ⟨6, oq 22 (.fieldAddr 3 (ot 21)), []⟩, ⟨7, oq 23 (.load1 (ot 22)), []⟩, ⟨8, oe 24 (.call 50 [(.val .nsl), (.val (.int .i64 0)), (ot 19), (ot 23), (.val (.int .i64 0)), (.val (.str []))]), []⟩, ⟨9, oq 2 (.mov (ot 24)), []⟩]) .ret)))) (E0.set 0 a0) σ (retK f49.res Q) := by kernel_rfl
theorem f49_ent (a0 : AVal) : enterE [a0] (slotsN 25) E0 = some (E0.set 0 a0) := by kernel_rfl
set_option maxRecDepth 20000 in
theorem f49_wf {tab : Nat → Option PFn} (ht : tab 49 = some f49.fn) {a0 : AVal} {σ : S} {Q : AVal → S → Prop} (h : f49 (WF tab)   a0 σ Q) : WF tab 49 [a0] σ Q := wFn_sound ht (wFn_code (f49_ent a0) (Eq.mp (f49_eq (WF tab)   a0 σ Q) h))
/-! dray/wal.framed -/
noncomputable def f50.res : List PRes := [.tmp (sn 12)]
noncomputable def f50.body : PC := (.seq (.ops [oq 12 (.mov (.val .nsl))]) (.seq (.ops [oq 14 (.mov (ot 1)), oe 15 (.call 77 [(.val .nsl), (ot 14)]), oq 16 (.mov (ot 2)), oe 17 (.call 77 [(ot 15), (ot 16)]), oq 18 (.mov (ot 3)), oe 19 (.call 77 [(ot 17), (ot 18)]), oq 20 (.mov (ot 4)), oe 21 (.call 77 [(ot 19), (ot 20)]), oq 13 (.mov (ot 21))]) (.seq (.ops [oq 22 (.mov (ot 0)), oq 23 (.mov (ot 13)), oq 24 (.mov (ot 5)), oe 25 (.append 1 1 (ot 23) (ot 24)), oe 26 (.call 78 [(ot 22), (ot 25)]), oq 12 (.mov (ot 26))]) .ret)))
noncomputable def f50.fn : PFn := .code (slotsN 27) f50.body f50.res
noncomputable def f50 (C : CW) (a0 a1 a2 a3 a4 a5 : AVal) (σ : S) (Q : AVal → S → Prop) : Prop :=
C 77 [.nsl, a1] σ fun t15 σ1 =>
C 77 [t15, a2] σ1 fun t17 σ2 =>
C 77 [t17, a3] σ2 fun t19 σ3 =>
C 77 [t19, a4] σ3 fun t21 σ4 =>
Eff (appendA 1 1 t21 a5 σ4) fun t25 σ5 =>
C 78 [a0, t25] σ5 fun t26 σ6 =>
Ret [some t26] σ6 Q
theorem f50_eq (C : CW) (a0 a1 a2 a3 a4 a5 : AVal) (σ : S) (Q : AVal → S → Prop) : f50 C   a0 a1 a2 a3 a4 a5 σ Q = wC C (.seq (.ops [oq 12 (.mov (.val .nsl))]) (.seq (.ops [oq 14 (.mov (ot 1)), oe 15 (.call 77 [(.val .nsl), (ot 14)]), oq 16 (.mov (ot 2)), oe 17 (.call 77 [(ot 15), (ot 16)]), oq 18 (.mov (ot 3)), oe 19 (.call 77 [(ot 17), (ot 18)]), oq 20 (.mov (ot 4)), oe 21 (.call 77 [(ot 19), (ot 20)]), oq 13 (.mov (ot 21))]) (.seq (.ops [oq 22 (.mov (ot 0)), oq 23 (.mov (ot 13)), oq 24 (.mov (ot 5)), oe 25 (.append 1 1 (ot 23) (ot 24)), oe 26 (.call 78 [(ot 22), (ot 25)]), oq 12 (.mov (ot 26))]) .ret))) ((((((E0.set 0 a0).set 1 a1).set 2 a2).set 3 a3).set 4 a4).set 5 a5) σ (retK f50.res Q) := by kernel_rfl
theorem f50_ent (a0 a1 a2 a3 a4 a5 : AVal) : enterE [a0, a1, a2, a3, a4, a5] (slotsN 27) E0 = some ((((((E0.set 0 a0).set 1 a1).set 2 a2).set 3 a3).set 4 a4).set 5 a5) := by kernel_rfl
set_option maxRecDepth 20000 in
theorem f50_wf {tab : Nat → Option PFn} (ht : tab 50 = some f50.fn) {a0 a1 a2 a3 a4 a5 : AVal} {σ : S} {Q : AVal → S → Prop} (h : f50 (WF tab)   a0 a1 a2 a3 a4 a5 σ Q) : WF tab 50 [a0, a1, a2, a3, a4, a5] σ Q := wFn_sound ht (wFn_code (f50_ent a0 a1 a2 a3 a4 a5) (Eq.mp (f50_eq (WF tab)   a0 a1 a2 a3 a4 a5 σ Q) h))
/-! *dray/wal.Log.put -/
noncomputable def f51.res : List PRes := [.tmp (sn 4)]
noncomputable def f51.body : PC := (.seq (.ops [oq 4 (.mov (.val (.int .i64 0)))]) (.seq (.draw 15 [⟨0, oq 6 (.mov (ot 0)), []⟩, ⟨1, oq 7 (.nilck (ot 6)), []⟩, ⟨2, oq 8 (.fieldAddr 0 (ot 7)), []⟩, ⟨3, oq 9 (.load1 (ot 8)), []⟩, ⟨4, oq 10 (.mov (ot 0)), []⟩, ⟨5, oq 11 (.nilck (ot 10)), []⟩, ⟨6, oq 12 (.fieldAddr 1 (ot 11)), []⟩, ⟨7, oq 13 (.load1 (ot 12)), []⟩, ⟨8, oq 14 (.mov (ot 0)), []⟩, ⟨9, oq 15 (.nilck (ot 14)), []⟩, ⟨10, oq 16 (.fieldAddr 5 (ot 15)), []⟩, ⟨11, oq 17 (.load1 (ot 16)), []⟩, ⟨12, oq 18 (.mov (ot 1)), []⟩, ⟨13, oe 19 (.call 10 [(ot 9), (ot 13), (ot 17), (ot 18)]), []⟩, ⟨14, oq 5 (.mov (ot 19)), []⟩]) (.seq (.seq (.ops [oq 20 (.mov (ot 5)), oq 21 (.bin .eql .num (ot 20) (.val (.int .i64 0)))]) (.cond (ot 21) (.ops [oq 22 (.mov (ot 0)), oq 23 (.nilck (ot 22)), oq 24 (.fieldAddr 5 (ot 23)), oq 25 (.load1 (ot 24)), oq 26 (.mov (ot 1)), oq 27 (.lenSl (ot 26)), oq 28 (.bin .add .num (ot 25) (ot 27)), oq 29 (.nilck (ot 22)), oq 30 (.fieldAddr 5 (ot 29)), ⟨none, none, (.e (.store 1 (ot 30) (ot 28)))⟩]) .skip)) (.seq (.ops [oq 31 (.mov (ot 5)), oq 4 (.mov (ot 31))]) .ret))))
noncomputable def f51.fn : PFn := .code (slotsN 32) f51.body f51.res
noncomputable def f51 (C : CW) (a0 a1 : AVal) (σ : S) (Q : AVal → S → Prop) : Prop :=
Som (vNilck a0) fun t7 =>
Som (vFieldAddr 0 t7) fun t8 =>
Som (vLoad1 t8 (σ.bumpT 15)) fun t9 =>
Som (vNilck a0) fun t11 =>
Som (vFieldAddr 1 t11) fun t12 =>
Som (vLoad1 t12 (σ.bumpT 15)) fun t13 =>
Som (vNilck a0) fun t15 =>
Som (vFieldAddr 5 t15) fun t16 =>
Som (vLoad1 t16 (σ.bumpT 15)) fun t17 =>
C 10 [t9, t13, t17, a1] (σ.bumpT 15) fun t19 σ1 =>
Som (binA .eql .num t19 (.int .i64 0)) fun t21 =>
WIf t21 (
Som (vNilck a0) fun t23 =>
Som (vFieldAddr 5 t23) fun t24 =>
Som (vLoad1 t24 σ1) fun t25 =>
Som (vLenSl a1) fun t27 =>
Som (binA .add .num t25 t27) fun t28 =>
Som (vNilck a0) fun t29 =>
Som (vFieldAddr 5 t29) fun t30 =>
Eff (storeW 1 t30 t28 σ1) fun _ σ2 =>
Ret [some t19] σ2 Q) (
Ret [some t19] σ1 Q)
theorem f51_eq (C : CW) (a0 a1 : AVal) (σ : S) (Q : AVal → S → Prop) : f51 C   a0 a1 σ Q = wC C (.seq (.ops [oq 4 (.mov (.val (.int .i64 0)))]) (.seq (.draw 15 [⟨0, oq 6 (.mov (ot 0)), []⟩, ⟨1, oq 7 (.nilck (ot 6)), []⟩, ⟨2, oq 8 (.fieldAddr 0 (ot 7)), []⟩, ⟨3, oq 9 (.load1 (ot 8)), []⟩, ⟨4, oq 10 (.mov (ot 0)), []⟩, ⟨5, oq 11 (.nilck (ot 10)), []⟩, ⟨6, oq 12 (.fieldAddr 1 (ot 11)), []⟩, ⟨7, oq 13 (.load1 (ot 12)), []⟩, ⟨8, oq 14 (.mov (ot 0)), []⟩, ⟨9, oq 15 (.nilck (ot 14)), []⟩, ⟨10, oq 16 (.fieldAddr 5 (ot 15)), []⟩, ⟨11, oq 17 (.load1 (ot 16)), []⟩, ⟨12, oq 18 (.mov (ot 1)), []⟩, ⟨13, oe 19 (.call 10 [(ot 9), (ot 13), (ot 17), (ot 18)]), []⟩, ⟨14, oq 5 (.mov (ot 19)), []⟩]) (.seq (.seq (.ops [oq 20 (.mov (ot 5)), oq 21 (.bin .eql .num (ot 20) (.val (.int .i64 0)))]) (.cond (ot 21) (.ops [oq 22 (.mov (ot 0)), oq 23 (.nilck (ot 22)), oq 24 (.fieldAddr 5 (ot 23)), oq 25 (.load1 (ot 24)), oq 26 (.mov (ot 1)), oq 27 (.lenSl (ot 26)), oq 28 (.bin .add .num (ot 25) (ot 27)), oq 29 (.nilck (ot 22)), oq 30 (.fieldAddr 5 (ot 29)), ⟨none, none, (.e (.store 1 (ot 30) (ot 28)))⟩]) .skip)) (.seq (.ops [oq 31 (.mov (ot 5)), oq 4 (.mov (ot 31))]) .ret)))) ((E0.set 0 a0).set 1 a1) σ (retK f51.res Q) := by kernel_rfl
theorem f51_ent (a0 a1 : AVal) : enterE [a0, a1] (slotsN 32) E0 = some ((E0.set 0 a0).set 1 a1) := by kernel_rfl
set_option maxRecDepth 20000 in
theorem f51_wf {tab : Nat → Option PFn} (ht : tab 51 = some f51.fn) {a0 a1 : AVal} {σ : S} {Q : AVal → S → Prop} (h : f51 (WF tab)   a0 a1 σ Q) : WF tab 51 [a0, a1] σ Q := wFn_sound ht (wFn_code (f51_ent a0 a1) (Eq.mp (f51_eq (WF tab)   a0 a1 σ Q) h))
/-! *dray/wal.Log.add -/
noncomputable def f52.res : List PRes := []
noncomputable def f52.body : PC := (.seq (.ops [oq 6 (.mov (ot 0)), oq 7 (.mov (ot 1)), oe 8 (.call 79 [(ot 6), (ot 7)])]) (.seq (.ops [oq 9 (.mov (ot 0)), oq 10 (.mov (ot 0)), oq 11 (.nilck (ot 10)), oq 12 (.fieldAddr 4 (ot 11)), oq 13 (.load1 (ot 12)), oq 14 (.mov (ot 2)), oa 15 (.bslice 1 [(.str [])] 1 [(0, 1, (ot 14))]), oe 16 (.append 1 16 (ot 13) (ot 15)), oq 17 (.nilck (ot 9)), oq 18 (.fieldAddr 4 (ot 17)), ⟨none, none, (.e (.store 1 (ot 18) (ot 16)))⟩]) (.draw 15 [⟨0, oq 19 (.mov (ot 0)), []⟩, ⟨1, oq 20 (.nilck (ot 19)), []⟩, ⟨2, oq 21 (.fieldAddr 6 (ot 20)), []⟩, ⟨3, oq 22 (.load1 (ot 21)), []⟩, ⟨4, oq 23 (.mov (ot 0)), []⟩, ⟨5, oq 24 (.nilck (ot 23)), []⟩, ⟨6, oq 25 (.fieldAddr 2 (ot 24)), []⟩, ⟨7, oq 26 (.load1 (ot 25)), []⟩, ⟨8, oq 27 (.mov (ot 1)), []⟩, ⟨9, oq 28 (.mov (ot 2)), []⟩, ⟨10, oe 29 (.call 80 [(ot 26), (ot 27), (ot 28)]), [oq 22 (.load1 (ot 21))]⟩, ⟨11, oq 30 (.bin .add .num (ot 22) (ot 29)), []⟩, ⟨12, oq 31 (.nilck (ot 19)), []⟩, ⟨13, oq 32 (.fieldAddr 6 (ot 31)), []⟩, ⟨14, ⟨none, none, (.e (.store 1 (ot 32) (ot 30)))⟩, []⟩])))
noncomputable def f52.fn : PFn := .code (slotsN 33) f52.body f52.res
noncomputable def f52 (C : CW) (a0 a1 a2 : AVal) (σ : S) (Q : AVal → S → Prop) : Prop :=
C 79 [a0, a1] σ fun t8 σ1 =>
Som (vNilck a0) fun t11 =>
Som (vFieldAddr 4 t11) fun t12 =>
Som (vLoad1 t12 σ1) fun t13 =>
Ala (aSliceV 1 [(.str [])] 1 [(0, 1, a2)]) σ1 fun t15 σ2 =>
Eff (appendA 1 16 t13 t15 σ2) fun t16 σ3 =>
Som (vNilck a0) fun t17 =>
Som (vFieldAddr 4 t17) fun t18 =>
Eff (storeW 1 t18 t16 σ3) fun _ σ4 =>
Som (vNilck a0) fun t20 =>
Som (vFieldAddr 6 t20) fun t21 =>
Som (vLoad1 t21 (σ4.bumpT 15)) fun t22 =>
Som (vNilck a0) fun t24 =>
Som (vFieldAddr 2 t24) fun t25 =>
Som (vLoad1 t25 (σ4.bumpT 15)) fun t26 =>
C 80 [t26, a1, a2] (σ4.bumpT 15) fun t29 σ5 =>
Sure (SameO (vLoad1 t21 σ5) t22) <|
Som (binA .add .num t22 t29) fun t30 =>
Som (vNilck a0) fun t31 =>
Som (vFieldAddr 6 t31) fun t32 =>
Eff (storeW 1 t32 t30 σ5) fun _ σ6 =>
Ret [] σ6 Q
theorem f52_eq (C : CW) (a0 a1 a2 : AVal) (σ : S) (Q : AVal → S → Prop) : f52 C   a0 a1 a2 σ Q = wC C (.seq (.ops [oq 6 (.mov (ot 0)), oq 7 (.mov (ot 1)), oe 8 (.call 79 [(ot 6), (ot 7)])]) (.seq (.ops [oq 9 (.mov (ot 0)), oq 10 (.mov (ot 0)), oq 11 (.nilck (ot 10)), oq 12 (.fieldAddr 4 (ot 11)), oq 13 (.load1 (ot 12)), oq 14 (.mov (ot 2)), oa 15 (.bslice 1 [(.str [])] 1 [(0, 1, (ot 14))]), oe 16 (.append 1 16 (ot 13) (ot 15)), oq 17 (.nilck (ot 9)), oq 18 (.fieldAddr 4 (ot 17)), ⟨none, none, (.e (.store 1 (ot 18) (ot 16)))⟩]) (.draw 15 [⟨0, oq 19 (.mov (ot 0)), []⟩, ⟨1, oq 20 (.nilck (ot 19)), []⟩, ⟨2, oq 21 (.fieldAddr 6 (ot 20)), []⟩, ⟨3, oq 22 (.load1 (ot 21)), []⟩, ⟨4, oq 23 (.mov (ot 0)), []⟩, ⟨5, oq 24 (.nilck (ot 23)), []⟩, ⟨6, oq 25 (.fieldAddr 2 (ot 24)), []⟩, ⟨7, oq 26 (.load1 (ot 25)), []⟩, ⟨8, oq 27 (.mov (ot 1)), []⟩, ⟨9, oq 28 (.mov (ot 2)), []⟩, ⟨10, oe 29 (.call 80 [(ot 26), (ot 27), (ot 28)]), [oq 22 (.load1 (ot 21))]⟩, ⟨11, oq 30 (.bin .add .num (ot 22) (ot 29)), []⟩, ⟨12, oq 31 (.nilck (ot 19)), []⟩, ⟨13, oq 32 (.fieldAddr 6 (ot 31)), []⟩, ⟨14, ⟨none, none, (.e (.store 1 (ot 32) (ot 30)))⟩, []⟩]))) (((E0.set 0 a0).set 1 a1).set 2 a2) σ (retK f52.res Q) := by kernel_rfl
theorem f52_ent (a0 a1 a2 : AVal) : enterE [a0, a1, a2] (slotsN 33) E0 = some (((E0.set 0 a0).set 1 a1).set 2 a2) := by kernel_rfl
set_option maxRecDepth 20000 in
theorem f52_wf {tab : Nat → Option PFn} (ht : tab 52 = some f52.fn) {a0 a1 a2 : AVal} {σ : S} {Q : AVal → S → Prop} (h : f52 (WF tab)   a0 a1 a2 σ Q) : WF tab 52 [a0, a1, a2] σ Q := wFn_sound ht (wFn_code (f52_ent a0 a1 a2) (Eq.mp (f52_eq (WF tab)   a0 a1 a2 σ Q) h))
/-! *dray/disk.Disk.Read -/
noncomputable def f72.res : List PRes := [.tmp (sn 4)]
noncomputable def f72.body : PC := (.seq (.ops [oq 4 (.mov (.val .nsl))]) (.seq (.seq (.ops [oq 5 (.mov (ot 0)), oq 6 (.nilck (ot 5)), oq 7 (.fieldAddr 5 (ot 6)), oq 8 (.load1 (ot 7)), oq 9 (.mov (ot 8)), oqg 10 9 false (.mov (ot 1)), oeg 11 9 false (.call 37 [(ot 10)]), oqg 12 9 false (.un .not (ot 11)), oq 13 (.pick (ot 9) (.val (.bool true)) (ot 12))]) (.cond (ot 13) (.seq (.ops [oq 4 (.mov (.val .nsl))]) .ret) .skip)) (.seq (.ops [oq 14 (.mov (ot 0)), oq 15 (.nilck (ot 14)), oq 16 (.fieldAddr 1 (ot 15)), oq 17 (.load1 (ot 16)), oq 18 (.mov (ot 1)), oq 19 (.ixSl 1 (ot 17) (ot 18)), oq 20 (.load1 (ot 19)), oe 21 (.append 1 1 (.val .nsl) (ot 20)), oq 4 (.mov (ot 21))]) .ret)))
noncomputable def f72.fn : PFn := .code (slotsN 22) f72.body f72.res
noncomputable def f72 (C : CW) (a0 a1 : AVal) (σ : S) (Q : AVal → S → Prop) : Prop :=
Som (vNilck a0) fun t6 =>
Som (vFieldAddr 5 t6) fun t7 =>
Som (vLoad1 t7 σ) fun t8 =>
Som (gq1 (isB t8 false) (some a1)) fun t10 =>
gE1 (isB t8 false) (fun K => C 37 [t10] σ K) σ fun t11 σ1 =>
Som (gq1 (isB t8 false) (unA .not t11)) fun t12 =>
Som (vPick t8 (.bool true) t12) fun t13 =>
WIf t13 (
Ret [some .nsl] σ1 Q) (
Som (vNilck a0) fun t15 =>
Som (vFieldAddr 1 t15) fun t16 =>
Som (vLoad1 t16 σ1) fun t17 =>
Som (vIxSl 1 t17 a1) fun t19 =>
Som (vLoad1 t19 σ1) fun t20 =>
Eff (appendA 1 1 .nsl t20 σ1) fun t21 σ2 =>
Ret [some t21] σ2 Q)
theorem f72_eq (C : CW) (a0 a1 : AVal) (σ : S) (Q : AVal → S → Prop) : f72 C   a0 a1 σ Q = wC C (.seq (.ops [oq 4 (.mov (.val .nsl))]) (.seq (.seq (.ops [oq 5 (.mov (ot 0)), oq 6 (.nilck (ot 5)), oq 7 (.fieldAddr 5 (ot 6)), oq 8 (.load1 (ot 7)), oq 9 (.mov (ot 8)), oqg 10 9 false (.mov (ot 1)), oeg 11 9 false (.call 37 [(ot 10)]), oqg 12 9 false (.un .not (ot 11)), oq 13 (.pick (ot 9) (.val (.bool true)) (ot 12))]) (.cond (ot 13) (.seq (.ops [oq 4 (.mov (.val .nsl))]) .ret) .skip)) (.seq (.ops [oq 14 (.mov (ot 0)), oq 15 (.nilck (ot 14)), oq 16 (.fieldAddr 1 (ot 15)), oq 17 (.load1 (ot 16)), oq 18 (.mov (ot 1)), oq 19 (.ixSl 1 (ot 17) (ot 18)), oq 20 (.load1 (ot 19)), oe 21 (.append 1 1 (.val .nsl) (ot 20)), oq 4 (.mov (ot 21))]) .ret))) ((E0.set 0 a0).set 1 a1) σ (retK f72.res Q) := by kernel_rfl
theorem f72_ent (a0 a1 : AVal) : enterE [a0, a1] (slotsN 22) E0 = some ((E0.set 0 a0).set 1 a1) := by kernel_rfl
set_option maxRecDepth 20000 in
theorem f72_wf {tab : Nat → Option PFn} (ht : tab 72 = some f72.fn) {a0 a1 : AVal} {σ : S} {Q : AVal → S → Prop} (h : f72 (WF tab)   a0 a1 σ Q) : WF tab 72 [a0, a1] σ Q := wFn_sound ht (wFn_code (f72_ent a0 a1) (Eq.mp (f72_eq (WF tab)   a0 a1 σ Q) h))
end Go.Am
