/-
  Functions of the program as conditions. Conditions: none.
-/
import Derived.Test.YtkgjghlklniaeaaF2
import Derived.KernelRfl
namespace Go.Am
/-! dray/sum.Add -/
noncomputable def f111.c1 : PC := (.seq (.ops [oq 22 (.bin .lss .num (ot 21) (.val (.int .i64 8)))]) (.seq (.cond (ot 22) .skip (.exit 2)) (.seq (.block 3 (.seq (.ops [oq 23 (.mov (ot 5)), oq 24 (.bin .and .num (ot 23) (.val (.int .u32 1))), oq 8 (.mov (ot 24))]) (.ops [oq 25 (.mov (ot 5)), oq 26 (.bin .shr .num (ot 25) (.val (.int .u64 1))), oq 27 (.mov (ot 8)), oq 28 (.bin .mul .num (.val (.int .u32 3988292384)) (ot 27)), oq 29 (.bin .xor .num (ot 26) (ot 28)), oq 5 (.mov (ot 29))]))) (.ops [oq 30 (.bin .add .num (ot 21) (.val (.int .i64 1))), oq 21 (.mov (ot 30))]))))
noncomputable def f111.c0 : PC := (.seq (.ops [oq 14 (.bin .lss .num (ot 13) (ot 12))]) (.seq (.cond (ot 14) .skip (.exit 0)) (.seq (.block 1 (.seq (.ops [oq 15 (.ixSl 1 (ot 11) (ot 13)), oq 16 (.load1 (ot 15)), oq 7 (.mov (ot 16))]) (.seq (.ops [oq 17 (.mov (ot 5)), oq 18 (.mov (ot 7)), oq 19 (.toInt .u32 (ot 18)), oq 20 (.bin .xor .num (ot 17) (ot 19)), oq 5 (.mov (ot 20))]) (.seq (.ops [oq 21 (.mov (.val (.int .i64 0)))]) (.block 2 (.loop f111.c1)))))) (.ops [oq 31 (.bin .add .num (ot 13) (.val (.int .i64 1))), oq 13 (.mov (ot 31))]))))
noncomputable def f111.res : List PRes := [.tmp (sn 4)]
noncomputable def f111.p1 (C : CW) (Q : AVal → S → Prop) (R1 R0 : PC) (E : En) (σ : S) : Prop :=
Som (binA .lss .num (E 21) (.int .i64 8)) fun t22 =>
WIf t22 (
Som (binA .and .num (E 5) (.int .u32 1)) fun t24 =>
Som (binA .shr .num (E 5) (.int .u64 1)) fun t26 =>
Som (binA .mul .num (.int .u32 3988292384) t24) fun t28 =>
Som (binA .xor .num t26 t28) fun t29 =>
Som (binA .add .num (E 21) (.int .i64 1)) fun t30 =>
wC C (.loop R1) ((((((((((((E.set 22 t22).set 23 (E 5)).set 24 t24).set 8 t24).set 25 (E 5)).set 26 t26).set 27 t24).set 28 t28).set 29 t29).set 5 t29).set 30 t30).set 21 t30) σ (blockK 2 (blockK 1 (seqK (wC C (.ops [oq 31 (.bin .add .num (ot 13) (.val (.int .i64 1))), oq 13 (.mov (ot 31))])) (loopK C R0 (blockK 0 (seqK (wC C (.seq (.ops [oq 32 (.mov (ot 5)), oq 33 (.un .xor (ot 32)), oq 4 (.mov (ot 33))]) .ret)) (retK f111.res Q)))))))) (
Som (binA .add .num (E 13) (.int .i64 1)) fun t31 =>
wC C (.loop R0) (((E.set 22 t22).set 31 t31).set 13 t31) σ (blockK 0 (seqK (wC C (.seq (.ops [oq 32 (.mov (ot 5)), oq 33 (.un .xor (ot 32)), oq 4 (.mov (ot 33))]) .ret)) (retK f111.res Q))))
theorem f111.p1_eq (C : CW) (Q : AVal → S → Prop) (R1 R0 : PC) (E : En) (σ : S) : f111.p1 C Q R1 R0 E σ = wC C (.seq (.ops [oq 22 (.bin .lss .num (ot 21) (.val (.int .i64 8)))]) (.seq (.cond (ot 22) .skip (.exit 2)) (.seq (.block 3 (.seq (.ops [oq 23 (.mov (ot 5)), oq 24 (.bin .and .num (ot 23) (.val (.int .u32 1))), oq 8 (.mov (ot 24))]) (.ops [oq 25 (.mov (ot 5)), oq 26 (.bin .shr .num (ot 25) (.val (.int .u64 1))), oq 27 (.mov (ot 8)), oq 28 (.bin .mul .num (.val (.int .u32 3988292384)) (ot 27)), oq 29 (.bin .xor .num (ot 26) (ot 28)), oq 5 (.mov (ot 29))]))) (.ops [oq 30 (.bin .add .num (ot 21) (.val (.int .i64 1))), oq 21 (.mov (ot 30))])))) E σ (loopK C R1 (blockK 2 (blockK 1 (seqK (wC C (.ops [oq 31 (.bin .add .num (ot 13) (.val (.int .i64 1))), oq 13 (.mov (ot 31))])) (loopK C R0 (blockK 0 (seqK (wC C (.seq (.ops [oq 32 (.mov (ot 5)), oq 33 (.un .xor (ot 32)), oq 4 (.mov (ot 33))]) .ret)) (retK f111.res Q)))))))) := by kernel_rfl
abbrev f111.L1 (C : CW) (Q : AVal → S → Prop) (E : En) (σ : S) : Prop := wC C (.loop f111.c1) E σ (blockK 2 (blockK 1 (seqK (wC C (.ops [oq 31 (.bin .add .num (ot 13) (.val (.int .i64 1))), oq 13 (.mov (ot 31))])) (loopK C f111.c0 (blockK 0 (seqK (wC C (.seq (.ops [oq 32 (.mov (ot 5)), oq 33 (.un .xor (ot 32)), oq 4 (.mov (ot 33))]) .ret)) (retK f111.res Q)))))))
set_option maxRecDepth 20000 in
theorem f111.p1_of {tab : Nat → Option PFn} {Q : AVal → S → Prop} {E : En} {σ : S} (h : f111.p1 (WF tab) Q f111.c1 f111.c0 E σ) : f111.L1 (WF tab) Q E σ := wLoop_step (Eq.mp (f111.p1_eq (WF tab) Q f111.c1 f111.c0 E σ) h)
noncomputable def f111.p0 (C : CW) (Q : AVal → S → Prop) (R1 R0 : PC) (E : En) (σ : S) : Prop :=
Som (binA .lss .num (E 13) (E 12)) fun t14 =>
WIf t14 (
Som (vIxSl 1 (E 11) (E 13)) fun t15 =>
Som (vLoad1 t15 σ) fun t16 =>
Som (vToInt .u32 t16) fun t19 =>
Som (binA .xor .num (E 5) t19) fun t20 =>
wC C (.loop R1) ((((((((((E.set 14 t14).set 15 t15).set 16 t16).set 7 t16).set 17 (E 5)).set 18 t16).set 19 t19).set 20 t20).set 5 t20).set 21 (.int .i64 0)) σ (blockK 2 (blockK 1 (seqK (wC C (.ops [oq 31 (.bin .add .num (ot 13) (.val (.int .i64 1))), oq 13 (.mov (ot 31))])) (loopK C R0 (blockK 0 (seqK (wC C (.seq (.ops [oq 32 (.mov (ot 5)), oq 33 (.un .xor (ot 32)), oq 4 (.mov (ot 33))]) .ret)) (retK f111.res Q)))))))) (
Som (unA .xor (E 5)) fun t33 =>
Ret [some t33] σ Q)
theorem f111.p0_eq (C : CW) (Q : AVal → S → Prop) (R1 R0 : PC) (E : En) (σ : S) : f111.p0 C Q R1 R0 E σ = wC C (.seq (.ops [oq 14 (.bin .lss .num (ot 13) (ot 12))]) (.seq (.cond (ot 14) .skip (.exit 0)) (.seq (.block 1 (.seq (.ops [oq 15 (.ixSl 1 (ot 11) (ot 13)), oq 16 (.load1 (ot 15)), oq 7 (.mov (ot 16))]) (.seq (.ops [oq 17 (.mov (ot 5)), oq 18 (.mov (ot 7)), oq 19 (.toInt .u32 (ot 18)), oq 20 (.bin .xor .num (ot 17) (ot 19)), oq 5 (.mov (ot 20))]) (.seq (.ops [oq 21 (.mov (.val (.int .i64 0)))]) (.block 2 (.loop R1)))))) (.ops [oq 31 (.bin .add .num (ot 13) (.val (.int .i64 1))), oq 13 (.mov (ot 31))])))) E σ (loopK C R0 (blockK 0 (seqK (wC C (.seq (.ops [oq 32 (.mov (ot 5)), oq 33 (.un .xor (ot 32)), oq 4 (.mov (ot 33))]) .ret)) (retK f111.res Q)))) := by kernel_rfl
abbrev f111.L0 (C : CW) (Q : AVal → S → Prop) (E : En) (σ : S) : Prop := wC C (.loop f111.c0) E σ (blockK 0 (seqK (wC C (.seq (.ops [oq 32 (.mov (ot 5)), oq 33 (.un .xor (ot 32)), oq 4 (.mov (ot 33))]) .ret)) (retK f111.res Q)))
set_option maxRecDepth 20000 in
theorem f111.p0_of {tab : Nat → Option PFn} {Q : AVal → S → Prop} {E : En} {σ : S} (h : f111.p0 (WF tab) Q f111.c1 f111.c0 E σ) : f111.L0 (WF tab) Q E σ := wLoop_step (Eq.mp (f111.p0_eq (WF tab) Q f111.c1 f111.c0 E σ) h)
noncomputable def f111.body : PC := (.seq (.ops [oq 4 (.mov (.val (.int .u32 0)))]) (.seq (.ops [oq 9 (.mov (ot 0)), oq 10 (.un .xor (ot 9)), oq 5 (.mov (ot 10))]) (.seq (.seq (.ops [oq 11 (.mov (ot 1)), oq 12 (.lenSl (ot 11)), oq 13 (.mov (.val (.int .i64 0)))]) (.block 0 (.loop f111.c0))) (.seq (.ops [oq 32 (.mov (ot 5)), oq 33 (.un .xor (ot 32)), oq 4 (.mov (ot 33))]) .ret))))
noncomputable def f111.fn : PFn := .code (slotsN 34) f111.body f111.res
noncomputable def f111 (C : CW) (R0 : PC) (a0 a1 : AVal) (σ : S) (Q : AVal → S → Prop) : Prop :=
Som (unA .xor a0) fun t10 =>
Som (vLenSl a1) fun t12 =>
wC C (.loop R0) (((((((((E0.set 0 a0).set 1 a1).set 4 (.int .u32 0)).set 9 a0).set 10 t10).set 5 t10).set 11 a1).set 12 t12).set 13 (.int .i64 0)) σ (blockK 0 (seqK (wC C (.seq (.ops [oq 32 (.mov (ot 5)), oq 33 (.un .xor (ot 32)), oq 4 (.mov (ot 33))]) .ret)) (retK f111.res Q)))
theorem f111_eq (C : CW) (R0 : PC) (a0 a1 : AVal) (σ : S) (Q : AVal → S → Prop) : f111 C R0  a0 a1 σ Q = wC C (.seq (.ops [oq 4 (.mov (.val (.int .u32 0)))]) (.seq (.ops [oq 9 (.mov (ot 0)), oq 10 (.un .xor (ot 9)), oq 5 (.mov (ot 10))]) (.seq (.seq (.ops [oq 11 (.mov (ot 1)), oq 12 (.lenSl (ot 11)), oq 13 (.mov (.val (.int .i64 0)))]) (.block 0 (.loop R0))) (.seq (.ops [oq 32 (.mov (ot 5)), oq 33 (.un .xor (ot 32)), oq 4 (.mov (ot 33))]) .ret)))) ((E0.set 0 a0).set 1 a1) σ (retK f111.res Q) := by kernel_rfl
theorem f111_ent (a0 a1 : AVal) : enterE [a0, a1] (slotsN 34) E0 = some ((E0.set 0 a0).set 1 a1) := by kernel_rfl
set_option maxRecDepth 20000 in
theorem f111_wf {tab : Nat → Option PFn} (ht : tab 111 = some f111.fn) {a0 a1 : AVal} {σ : S} {Q : AVal → S → Prop} (h : f111 (WF tab) f111.c0  a0 a1 σ Q) : WF tab 111 [a0, a1] σ Q := wFn_sound ht (wFn_code (f111_ent a0 a1) (Eq.mp (f111_eq (WF tab) f111.c0  a0 a1 σ Q) h))
/-! dray/wire.zag -/
noncomputable def f112.res : List PRes := [.tmp (sn 2)]
noncomputable def f112.body : PC := (.seq (.ops [oq 2 (.mov (.val (.int .i64 0)))]) (.seq (.ops [oq 3 (.mov (ot 0)), oq 4 (.bin .shr .num (ot 3) (.val (.int .u64 1))), oq 5 (.toInt .i64 (ot 4)), oq 6 (.mov (ot 0)), oq 7 (.bin .and .num (ot 6) (.val (.int .u64 1))), oq 8 (.toInt .i64 (ot 7)), oq 9 (.un .neg (ot 8)), oq 10 (.bin .xor .num (ot 5) (ot 9)), oq 2 (.mov (ot 10))]) .ret))
noncomputable def f112.fn : PFn := .code (slotsN 11) f112.body f112.res
noncomputable def f112 (C : CW) (a0 : AVal) (σ : S) (Q : AVal → S → Prop) : Prop :=
Som (binA .shr .num a0 (.int .u64 1)) fun t4 =>
Som (vToInt .i64 t4) fun t5 =>
Som (binA .and .num a0 (.int .u64 1)) fun t7 =>
Som (vToInt .i64 t7) fun t8 =>
Som (unA .neg t8) fun t9 =>
Som (binA .xor .num t5 t9) fun t10 =>
Ret [some t10] σ Q
theorem f112_eq (C : CW) (a0 : AVal) (σ : S) (Q : AVal → S → Prop) : f112 C   a0 σ Q = wC C (.seq (.ops [oq 2 (.mov (.val (.int .i64 0)))]) (.seq (.ops [oq 3 (.mov (ot 0)), oq 4 (.bin .shr .num (ot 3) (.val (.int .u64 1))), oq 5 (.toInt .i64 (ot 4)), oq 6 (.mov (ot 0)), oq 7 (.bin .and .num (ot 6) (.val (.int .u64 1))), oq 8 (.toInt .i64 (ot 7)), oq 9 (.un .neg (ot 8)), oq 10 (.bin .xor .num (ot 5) (ot 9)), oq 2 (.mov (ot 10))]) .ret)) (E0.set 0 a0) σ (retK f112.res Q) := by kernel_rfl
theorem f112_ent (a0 : AVal) : enterE [a0] (slotsN 11) E0 = some (E0.set 0 a0) := by kernel_rfl
set_option maxRecDepth 20000 in
theorem f112_wf {tab : Nat → Option PFn} (ht : tab 112 = some f112.fn) {a0 : AVal} {σ : S} {Q : AVal → S → Prop} (h : f112 (WF tab)   a0 σ Q) : WF tab 112 [a0] σ Q := wFn_sound ht (wFn_code (f112_ent a0) (Eq.mp (f112_eq (WF tab)   a0 σ Q) h))
end Go.Am
