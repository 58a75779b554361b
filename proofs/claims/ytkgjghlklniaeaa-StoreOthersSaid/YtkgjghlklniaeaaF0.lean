/-
  Functions of the program as conditions. Conditions: none.
-/
import Derived.Test.YtkgjghlklniaeaaK33
import Derived.KernelRfl
namespace Go.Am
abbrev om (d s : Nat) : POp := oq d (.mov (ot s))
abbrev on (d s : Nat) : POp := oq d (.nilck (ot s))
abbrev ox (d k s : Nat) : POp := oq d (.fieldAddr k (ot s))
abbrev ol (d s : Nat) : POp := oq d (.load1 (ot s))
abbrev oi (n : Nat) : Opd := .val (.int .i64 n)
abbrev oT : Opd := .val (.bool true)
abbrev oF : Opd := .val (.bool false)
abbrev os (o : EOp) : POp := ⟨none, none, .e o⟩
abbrev ob (d : Nat) (o : BinOp) (x y : Opd) : POp := oq d (.bin o .num x y)
abbrev so (l : List POp) (c : PC) : PC := .seq (.ops l) c
instance (n : Nat) : OfNat Opd n := ⟨ot n⟩
abbrev i6 (n : Int) : AVal := .int .i64 n
noncomputable abbrev sN (x : AVal) (K : AVal → Prop) : Prop := Som (vNilck x) K
noncomputable abbrev sF (k : Nat) (x : AVal) (K : AVal → Prop) : Prop := Som (vFieldAddr k x) K
noncomputable abbrev sL (x : AVal) (σ : S) (K : AVal → Prop) : Prop := Som (vLoad1 x σ) K
noncomputable abbrev sB (o : BinOp) (x y : AVal) (K : AVal → Prop) : Prop := Som (binA o .num x y) K
noncomputable abbrev sP (x y z : AVal) (K : AVal → Prop) : Prop := Som (vPick x y z) K
noncomputable abbrev sT (x : AVal) (o : Option AVal) (K : AVal → Prop) : Prop := Som (gq1 (isB x true) o) K
noncomputable abbrev sU (x : AVal) (o : Option AVal) (K : AVal → Prop) : Prop := Som (gq1 (isB x false) o) K
noncomputable abbrev sS (n : Nat) (x y : AVal) (σ : S) (K : AVal → S → Prop) : Prop := Eff (storeW n x y σ) K
noncomputable abbrev En.q (E : En) (a : Nat) (x : AVal) (b : Nat) (y : AVal) (c : Nat) (z : AVal) (d : Nat) (w : AVal) : En := (((E.set a x).set b y).set c z).set d w
theorem wf_of {tab : Nat → Option PFn} {f : Nat} {n : Nat} {body : PC} {res : List PRes} {args : List AVal} {E : En} {σ : S} {Q : AVal → S → Prop} {X : Prop} (ht : tab f = some (.code (slotsN n) body res))
    (he : enterE args (slotsN n) E0 = some E) (hx : X = wC (WF tab) body E σ (retK res Q)) (h : X) : WF tab f args σ Q := wFn_sound ht (wFn_code he (Eq.mp hx h))
set_option maxRecDepth 20000
variable {tab : Nat → Option PFn} {C : CW} {E : En} {σ : S} {Q : AVal → S → Prop}
noncomputable def f8.c0 : PC := (so [om 28 9, om 29 0, oe 30 (.call 11 [29, (oi 0), (oi 47)]), om 31 1, om 32 2, oe 33 (.call 10 [28, 30, 31, 32])] (so [om 35 9, oe 36 (.call 29 [35]), om 34 36, oq 37 (.extract 0 34), oq 38 (.extract 1 34), om 11 37, om 10 38] (.seq (so [om 39 10, ob 40 .neq 39 (oi 0), om 41 40, oqg 42 41 false (.mov 11), oqg 43 41 false (.bin .eql .ptr 42 (.val .nptr)), oq 44 (.pick 41 oT 43)] (.cond 44 (so [om 45 11, oq 46 (.bin .eql .ptr 45 (.val .nptr)), om 47 46, oqg 48 47 true (.mov 10), oqg 49 47 true (.bin .neq .num 48 (oi 0)), oq 50 (.pick 47 49 oF), om 51 50, oeg 52 51 true (.call 30 []), oq 53 (.pick 51 52 oF), om 8 53] .ret) .skip)) (.seq (so [om 54 11, oe 55 (.call 32 [54]), oe 56 (.call 31 [55]), oq 57 (.un .not 56)] (.cond 57 (so [oq 8 (.mov oF)] .ret) .skip)) (so [ox 58 0 7, os (.store 1 58 (oi 1))] (.seq (.draw 6 [⟨0, om 59 11, []⟩, ⟨1, om 60 11, []⟩, ⟨3, oq 62 (.loadN 15 7), []⟩, ⟨2, oe 61 (.call 32 [60]), [oq 62 (.loadN 15 7)]⟩, ⟨4, oe 63 (.call 34 [61, 62]), []⟩, ⟨5, oe 64 (.call 33 [59, 63]), []⟩]) (so [om 65 11, oe 66 (.call 32 [65]), oe 67 (.call 31 [66]), om 68 67, oeg 69 68 true (.call 30 []), oq 70 (.pick 68 69 oF), om 8 70] .ret)))))))
noncomputable def f8.res : List PRes := [.tmp (sn 8)]
noncomputable def f8.p0 (C : CW) (Q : AVal → S → Prop) (E : En) (σ : S) : Prop :=
C 11 [(E 0), (i6 0), (i6 47)] σ fun t30 σ1 =>
C 10 [(E 9), t30, (E 1), (E 2)] σ1 fun t33 σ2 =>
C 29 [(E 9)] σ2 fun t36 σ3 =>
Som (vExtract 0 t36) fun t37 =>
Som (vExtract 1 t36) fun t38 =>
sB .neq t38 (i6 0) fun t40 =>
sU t40 (some t37) fun t42 =>
sU t40 (binA .eql .ptr t42 .nptr) fun t43 =>
sP t40 (.bool true) t43 fun t44 =>
WIf t44 (
Som (binA .eql .ptr t37 .nptr) fun t46 =>
sT t46 (some t38) fun t48 =>
sT t46 (binA .neq .num t48 (i6 0)) fun t49 =>
sP t46 t49 (.bool false) fun t50 =>
gE1 (isB t50 true) (fun K => C 30 [] σ3 K) σ3 fun t52 σ4 =>
sP t50 t52 (.bool false) fun t53 =>
Ret [some t53] σ4 Q) (
C 32 [t37] σ3 fun t55 σ4 =>
C 31 [t55] σ4 fun t56 σ5 =>
Som (unA .not t56) fun t57 =>
WIf t57 (
Ret [some (.bool false)] σ5 Q) (
sF 0 (E 7) fun t58 =>
sS 1 t58 (i6 1) σ5 fun _ σ6 =>
Som (vLoadN 15 (E 7) (σ6.bumpT 6)) fun t62 =>
C 32 [t37] (σ6.bumpT 6) fun t61 σ7 =>
Sure (SameO (vLoadN 15 (E 7) σ7) t62) <|
C 34 [t61, t62] σ7 fun t63 σ8 =>
C 33 [t37, t63] σ8 fun t64 σ9 =>
C 32 [t37] σ9 fun t66 σ10 =>
C 31 [t66] σ10 fun t67 σ11 =>
gE1 (isB t67 true) (fun K => C 30 [] σ11 K) σ11 fun t69 σ12 =>
sP t67 t69 (.bool false) fun t70 =>
Ret [some t70] σ12 Q))
theorem f8.p0_eq : f8.p0 C Q E σ = wC C f8.c0 E σ (retK f8.res Q) := by kernel_rfl
abbrev f8.J0 (C : CW) (Q : AVal → S → Prop) (E : En) (σ : S) : Prop := wC C f8.c0 E σ (retK f8.res Q)
theorem f8.p0_of (h : f8.p0 C Q E σ) : f8.J0 C Q E σ := Eq.mp f8.p0_eq h
noncomputable def f8.body (R0 : PC) : PC := (so [oa 7 (.box 3), oq 8 (.mov oF)] (so [oe 13 (.call 9 [(oi 1048576)]), om 12 13, oq 14 (.extract 0 12), oq 15 (.extract 1 12), om 9 14, om 10 15] (.seq (so [om 16 10, ob 17 .neq 16 (oi 0), om 18 17, oqg 19 18 false (.mov 9), oqg 20 18 false (.bin .eql .ptr 19 (.val .nptr)), oq 21 (.pick 18 oT 20)] (.cond 21 (so [oq 8 (.mov oF)] .ret) .skip)) (.seq (so [om 22 1, ob 23 .lss 22 (oi 0), om 24 23, oqg 25 24 false (.mov 1), oqg 26 24 false (.bin .gtr .num 25 (oi 3000)), oq 27 (.pick 24 oT 26)] (.cond 27 (.ops [oq 1 (.mov (oi 0))]) .skip)) R0))))
noncomputable def f8.fn : PFn := .code (slotsN 71) (f8.body f8.c0) f8.res
noncomputable def f8 (C : CW) (R0 : PC) (a0 a1 a2 a3 : AVal) (σ : S) (Q : AVal → S → Prop) : Prop :=
Ala (aBoxV a3) σ fun t7 σ1 =>
C 9 [(i6 1048576)] σ1 fun t13 σ2 =>
Som (vExtract 0 t13) fun t14 =>
Som (vExtract 1 t13) fun t15 =>
sB .neq t15 (i6 0) fun t17 =>
sU t17 (some t14) fun t19 =>
sU t17 (binA .eql .ptr t19 .nptr) fun t20 =>
sP t17 (.bool true) t20 fun t21 =>
WIf t21 (
Ret [some (.bool false)] σ2 Q) (
sB .lss a1 (i6 0) fun t23 =>
sU t23 (some a1) fun t25 =>
sU t23 (binA .gtr .num t25 (i6 3000)) fun t26 =>
sP t23 (.bool true) t26 fun t27 =>
WIf t27 (
wC C R0 (((((((E0.q 0 a0 1 a1 2 a2 3 a3).q 7 t7 8 (.bool false) 13 t13 12 t13).q 14 t14 15 t15 9 t14 10 t15).q 16 t15 17 t17 18 t17 19 t19).q 20 t20 21 t21 22 a1 23 t23).q 24 t23 25 t25 26 t26 27 t27).set 1 (i6 0)) σ2 (retK f8.res Q)) (
wC C R0 ((((((E0.q 0 a0 1 a1 2 a2 3 a3).q 7 t7 8 (.bool false) 13 t13 12 t13).q 14 t14 15 t15 9 t14 10 t15).q 16 t15 17 t17 18 t17 19 t19).q 20 t20 21 t21 22 a1 23 t23).q 24 t23 25 t25 26 t26 27 t27) σ2 (retK f8.res Q)))
theorem f8_eq {R0 : PC} {a0 a1 a2 a3 : AVal} : f8 C R0 a0 a1 a2 a3 σ Q = wC C (f8.body R0) (E0.q 0 a0 1 a1 2 a2 3 a3) σ (retK f8.res Q) := by kernel_rfl
theorem f8_wf (ht : tab 8 = some f8.fn) {a0 a1 a2 a3 : AVal} (h : f8 (WF tab) f8.c0 a0 a1 a2 a3 σ Q) : WF tab 8 [a0, a1, a2, a3] σ Q := wf_of ht (by kernel_rfl) f8_eq h
noncomputable def f9.res : List PRes := [.tmp (sn 2), .tmp (sn 3)]
noncomputable def f9.body : PC := (so [oq 2 (.mov (.val .nptr)), oq 3 (.mov (oi 0))] (.seq (so [om 4 0, ob 5 .lss 4 (oi 0), om 6 5, oqg 7 6 false (.mov 0), oqg 8 6 false (.bin .gtr .num 7 (oi 1048576)), oq 9 (.pick 6 oT 8)] (.cond 9 (so [oq 2 (.mov (.val .nptr)), oq 3 (.mov (oi 1))] .ret) .skip)) (so [om 10 0, oe 11 (.call 35 [10]), om 2 11, oq 3 (.mov (oi 0))] .ret)))
noncomputable def f9.fn : PFn := .code (slotsN 12) f9.body f9.res
noncomputable def f9 (C : CW) (a0 : AVal) (σ : S) (Q : AVal → S → Prop) : Prop :=
sB .lss a0 (i6 0) fun t5 =>
sU t5 (some a0) fun t7 =>
sU t5 (binA .gtr .num t7 (i6 1048576)) fun t8 =>
sP t5 (.bool true) t8 fun t9 =>
WIf t9 (
Ret [some .nptr, some (i6 1)] σ Q) (
C 35 [a0] σ fun t11 σ1 =>
Ret [some t11, some (i6 0)] σ1 Q)
theorem f9_eq {a0 : AVal} : f9 C a0 σ Q = wC C f9.body (E0.set 0 a0) σ (retK f9.res Q) := by kernel_rfl
theorem f9_wf (ht : tab 9 = some f9.fn) {a0 : AVal} (h : f9 (WF tab) a0 σ Q) : WF tab 9 [a0] σ Q := wf_of ht (by kernel_rfl) f9_eq h
noncomputable def f10.res : List PRes := [.tmp (sn 8)]
noncomputable def f10.body : PC := (so [oq 8 (.mov (oi 0))] (.seq (so [om 10 0, oe 11 (.call 36 [10]), oq 12 (.un .not 11)] (.cond 12 (so [oq 8 (.mov (oi 11))] .ret) .skip)) (.seq (so [om 13 1, oe 14 (.call 37 [13]), oq 15 (.un .not 14), om 16 15, oqg 17 16 false (.mov 2), oqg 18 16 false (.bin .lss .num 17 (oi 0)), oq 19 (.pick 16 oT 18), om 20 19, oqg 21 20 false (.mov 2), oqg 22 20 false (.bin .gtr .num 21 (oi 1048576)), oq 23 (.pick 20 oT 22)] (.cond 23 (so [oq 8 (.mov (oi 1))] .ret) .skip)) (so [om 24 0, on 25 24, ox 26 1 25, ol 27 26, om 28 1, oq 29 (.ixSl 1 27 28), ol 30 29, oq 31 (.lenSl 30), om 9 31] (.seq (.seq (.draw 22 [⟨0, om 32 2, []⟩, ⟨1, om 33 3, []⟩, ⟨2, oq 34 (.lenSl 33), []⟩, ⟨3, ob 35 .add 32 34, []⟩, ⟨4, om 36 9, []⟩, ⟨5, ob 37 .gtr 35 36, []⟩, ⟨6, om 38 37, []⟩, ⟨7, oqg 39 38 true (.mov 0), []⟩, ⟨9, oqg 41 38 true (.mov 9), []⟩, ⟨11, oqg 43 38 true (.mov 2), []⟩, ⟨13, oqg 45 38 true (.mov 3), []⟩, ⟨14, oqg 46 38 true (.lenSl 45), []⟩, ⟨16, oqg 48 38 true (.mov 0), []⟩, ⟨17, oqg 49 38 true (.nilck 48), []⟩, ⟨18, oqg 50 38 true (.fieldAddr 0 49), []⟩, ⟨19, oqg 51 38 true (.load1 50), []⟩, ⟨8, oeg 40 38 true (.call 38 [39]), [oqg 51 38 true (.load1 50)]⟩, ⟨10, oqg 42 38 true (.bin .sub .num 40 41), []⟩, ⟨12, oqg 44 38 true (.bin .add .num 42 43), []⟩, ⟨15, oqg 47 38 true (.bin .add .num 44 46), []⟩, ⟨20, oqg 52 38 true (.bin .gtr .num 47 51), []⟩, ⟨21, oq 53 (.pick 38 52 oF), []⟩]) (.cond 53 (so [oq 8 (.mov (oi 10))] .ret) .skip)) (.seq (.draw 17 [⟨0, om 54 0, []⟩, ⟨1, on 55 54, []⟩, ⟨2, ox 56 1 55, []⟩, ⟨3, ol 57 56, []⟩, ⟨4, om 58 1, []⟩, ⟨5, om 59 0, []⟩, ⟨6, on 60 59, []⟩, ⟨7, ox 61 1 60, []⟩, ⟨8, ol 62 61, []⟩, ⟨9, om 63 1, []⟩, ⟨10, oq 64 (.ixSl 1 62 63), []⟩, ⟨11, ol 65 64, []⟩, ⟨12, om 66 2, []⟩, ⟨13, om 67 3, []⟩, ⟨14, oe 68 (.call 39 [65, 66, 67]), [ol 57 56]⟩, ⟨15, oq 69 (.ixSl 1 57 58), []⟩, ⟨16, os (.store 1 69 68), []⟩]) (.seq (.draw 15 [⟨0, om 70 0, []⟩, ⟨1, om 71 0, []⟩, ⟨2, on 72 71, []⟩, ⟨3, ox 73 3 72, []⟩, ⟨4, ol 74 73, []⟩, ⟨5, om 75 1, []⟩, ⟨6, om 76 2, []⟩, ⟨7, om 77 3, []⟩, ⟨8, oe 78 (.append 1 1 (.val .nsl) 77), [ol 74 73]⟩, ⟨9, oq 79 (.build [(.bool false), (i6 0), (i6 0), .nsl] [(1, 1, 75), (2, 1, 76), (3, 1, 78)]), []⟩, ⟨10, oa 80 (.bslice 4 [(.bool false), (i6 0), (i6 0), .nsl] 1 [(0, 4, 79)]), []⟩, ⟨11, oe 81 (.append 4 48 74 80), []⟩, ⟨12, on 82 70, []⟩, ⟨13, ox 83 3 82, []⟩, ⟨14, os (.store 1 83 81), []⟩]) (so [oq 8 (.mov (oi 0))] .ret))))))))
noncomputable def f10.fn : PFn := .code (slotsN 84) f10.body f10.res
noncomputable def f10 (C : CW) (a0 a1 a2 a3 : AVal) (σ : S) (Q : AVal → S → Prop) : Prop :=
C 36 [a0] σ fun t11 σ1 =>
Som (unA .not t11) fun t12 =>
WIf t12 (
Ret [some (i6 11)] σ1 Q) (
C 37 [a1] σ1 fun t14 σ2 =>
Som (unA .not t14) fun t15 =>
sU t15 (some a2) fun t17 =>
sU t15 (binA .lss .num t17 (i6 0)) fun t18 =>
sP t15 (.bool true) t18 fun t19 =>
sU t19 (some a2) fun t21 =>
sU t19 (binA .gtr .num t21 (i6 1048576)) fun t22 =>
sP t19 (.bool true) t22 fun t23 =>
WIf t23 (
Ret [some (i6 1)] σ2 Q) (
sN a0 fun t25 =>
sF 1 t25 fun t26 =>
sL t26 σ2 fun t27 =>
Som (vIxSl 1 t27 a1) fun t29 =>
sL t29 σ2 fun t30 =>
Som (vLenSl t30) fun t31 =>
Som (vLenSl a3) fun t34 =>
sB .add a2 t34 fun t35 =>
sB .gtr t35 t31 fun t37 =>
sT t37 (some a0) fun t39 =>
sT t37 (some t31) fun t41 =>
sT t37 (some a2) fun t43 =>
sT t37 (some a3) fun t45 =>
sT t37 (vLenSl t45) fun t46 =>
sT t37 (some a0) fun t48 =>
sT t37 (vNilck t48) fun t49 =>
sT t37 (vFieldAddr 0 t49) fun t50 =>
sT t37 (vLoad1 t50 (σ2.bumpT 22)) fun t51 =>
gE1 (isB t37 true) (fun K => C 38 [t39] (σ2.bumpT 22) fun t40 σ3 => Sure ((notB (isB t37 true) || SameO (vLoad1 t50 σ3) t51)) (K t40 σ3)) (σ2.bumpT 22) fun t40 σ3 =>
sT t37 (binA .sub .num t40 t41) fun t42 =>
sT t37 (binA .add .num t42 t43) fun t44 =>
sT t37 (binA .add .num t44 t46) fun t47 =>
sT t37 (binA .gtr .num t47 t51) fun t52 =>
sP t37 t52 (.bool false) fun t53 =>
WIf t53 (
Ret [some (i6 10)] σ3 Q) (
sN a0 fun t55 =>
sF 1 t55 fun t56 =>
sL t56 (σ3.bumpT 17) fun t57 =>
sN a0 fun t60 =>
sF 1 t60 fun t61 =>
sL t61 (σ3.bumpT 17) fun t62 =>
Som (vIxSl 1 t62 a1) fun t64 =>
sL t64 (σ3.bumpT 17) fun t65 =>
C 39 [t65, a2, a3] (σ3.bumpT 17) fun t68 σ4 =>
Sure (SameO (vLoad1 t56 σ4) t57) <|
Som (vIxSl 1 t57 a1) fun t69 =>
sS 1 t69 t68 σ4 fun _ σ5 =>
sN a0 fun t72 =>
sF 3 t72 fun t73 =>
sL t73 (σ5.bumpT 15) fun t74 =>
Eff (appendA 1 1 .nsl a3 (σ5.bumpT 15)) fun t78 σ6 =>
Sure (SameO (vLoad1 t73 σ6) t74) <|
Som (vBuild [(.bool false), (i6 0), (i6 0), .nsl] [(1, 1, a1), (2, 1, a2), (3, 1, t78)]) fun t79 =>
Alb (aSliceV 4 [(.bool false), (i6 0), (i6 0), .nsl] 1 [(0, 4, t79)]) (Pos.plusT 10 σ5.next) σ6 fun t80 σ7 =>
Eff (appendA 4 48 t74 t80 σ7) fun t81 σ8 =>
sN a0 fun t82 =>
sF 3 t82 fun t83 =>
sS 1 t83 t81 σ8 fun _ σ9 =>
Ret [some (i6 0)] σ9 Q)))
theorem f10_eq {a0 a1 a2 a3 : AVal} : f10 C a0 a1 a2 a3 σ Q = wC C f10.body (E0.q 0 a0 1 a1 2 a2 3 a3) σ (retK f10.res Q) := by kernel_rfl
theorem f10_wf (ht : tab 10 = some f10.fn) {a0 a1 a2 a3 : AVal} (h : f10 (WF tab) a0 a1 a2 a3 σ Q) : WF tab 10 [a0, a1, a2, a3] σ Q := wf_of ht (by kernel_rfl) f10_eq h
noncomputable def f11.res : List PRes := [.tmp (sn 6)]
noncomputable def f11.body : PC := (so [oq 6 (.mov (oi 0))] (so [om 7 0, om 8 2, om 9 1, ob 10 .sub 8 9, ob 11 .add 10 (oi 1), ob 12 .rem 7 11, om 0 12] (.seq (so [om 13 0, ob 14 .lss 13 (oi 0)] (.cond 14 (.ops [om 15 0, om 16 2, ob 17 .add 15 16, om 18 1, ob 19 .sub 17 18, ob 20 .add 19 (oi 1), om 0 20]) .skip)) (so [om 21 1, om 22 0, ob 23 .add 21 22, om 6 23] .ret))))
noncomputable def f11.fn : PFn := .code (slotsN 24) f11.body f11.res
noncomputable def f11 (C : CW) (a0 a1 a2 : AVal) (σ : S) (Q : AVal → S → Prop) : Prop :=
sB .sub a2 a1 fun t10 =>
sB .add t10 (i6 1) fun t11 =>
sB .rem a0 t11 fun t12 =>
sB .lss t12 (i6 0) fun t14 =>
WIf t14 (
sB .add t12 a2 fun t17 =>
sB .sub t17 a1 fun t19 =>
sB .add t19 (i6 1) fun t20 =>
sB .add a1 t20 fun t23 =>
Ret [some t23] σ Q) (
sB .add a1 t12 fun t23 =>
Ret [some t23] σ Q)
theorem f11_eq {a0 a1 a2 : AVal} : f11 C a0 a1 a2 σ Q = wC C f11.body (((E0.set 0 a0).set 1 a1).set 2 a2) σ (retK f11.res Q) := by kernel_rfl
theorem f11_wf (ht : tab 11 = some f11.fn) {a0 a1 a2 : AVal} (h : f11 (WF tab) a0 a1 a2 σ Q) : WF tab 11 [a0, a1, a2] σ Q := wf_of ht (by kernel_rfl) f11_eq h
noncomputable def f12.c4 : PC := (.seq (so [om 67 0, oe 68 (.call 44 [67]), ob 69 .neq 68 (oi 0)] (.cond 69 (so [oq 2 (.mov (.val .nptr)), oq 3 (.mov (oi 11))] .ret) .skip)) (.seq (.seq (.draw 24 [⟨0, om 70 4, []⟩, ⟨1, on 71 70, []⟩, ⟨2, ox 72 5 71, []⟩, ⟨3, ol 73 72, []⟩, ⟨4, om 74 4, []⟩, ⟨5, on 75 74, []⟩, ⟨6, ox 76 6 75, []⟩, ⟨7, ol 77 76, []⟩, ⟨8, ob 78 .mul (oi 2) 77, []⟩, ⟨9, ob 79 .add 78 (oi 4096), []⟩, ⟨10, ob 80 .gtr 73 79, []⟩, ⟨11, om 81 80, []⟩, ⟨12, oqg 82 81 true (.mov 4), []⟩, ⟨13, oqg 83 81 true (.mov 4), []⟩, ⟨14, oqg 84 81 true (.nilck 83), []⟩, ⟨15, oqg 85 81 true (.fieldAddr 3 84), []⟩, ⟨16, oqg 86 81 true (.load1 85), []⟩, ⟨17, oqg 87 81 true (.mov 4), []⟩, ⟨18, oqg 88 81 true (.nilck 87), []⟩, ⟨19, oqg 89 81 true (.fieldAddr 4 88), []⟩, ⟨20, oqg 90 81 true (.load1 89), []⟩, ⟨21, oeg 91 81 true (.call 45 [82, 86, 90]), []⟩, ⟨22, oqg 92 81 true (.bin .eql .num 91 (oi 11)), []⟩, ⟨23, oq 93 (.pick 81 92 oF), []⟩]) (.cond 93 (so [oq 2 (.mov (.val .nptr)), oq 3 (.mov (oi 11))] .ret) .skip)) (so [om 94 4, om 2 94, oq 3 (.mov (oi 0))] .ret)))
noncomputable def f12.c3 : PC := (so [om 55 0, om 56 8, oe 57 (.call 42 [55, 56]), om 58 9, ob 59 .gtr 57 58, om 60 59, oqg 61 60 true (.mov 0), oqg 62 60 true (.mov 8), oqg 63 60 true (.mov 9), oeg 64 60 true (.call 43 [61, 62, 63]), oqg 65 60 true (.bin .neq .num 64 (oi 0)), oq 66 (.pick 60 65 oF)] (.cond 66 (so [oq 2 (.mov (.val .nptr)), oq 3 (.mov (oi 11))] .ret) .skip))
noncomputable def f12.t2 (R3 : PC) : PC := (.seq (so [om 41 8, ob 42 .leq 41 (oi 47)] (.cond 42 .skip (.exit 2))) (.seq (.block 3 (so [oq 9 (.mov (oi 0))] (.seq (so [om 45 8, om 46 4, on 47 46, ox 48 1 47, ol 49 48, ob 50 .eql 45 49] (.cond 50 (.ops [om 51 4, on 52 51, ox 53 5 52, ol 54 53, om 9 54]) .skip)) R3))) (.ops [om 43 8, ob 44 .add 43 (oi 1), om 8 44])))
noncomputable def f12.c2 : PC := f12.t2 f12.c3
noncomputable def f12.t1 (R2 R4 : PC) : PC := (.seq (so [oq 8 (.mov (oi 8))] (.block 2 (.loop R2))) R4)
noncomputable def f12.c1 : PC := f12.t1 f12.c2 f12.c4
noncomputable def f12.c0 : PC := (so [ob 20 .lss 19 18] (.seq (.cond 20 .skip (.exit 0)) (.seq (.block 1 (so [oq 21 (.ixSl 1 17 19), ol 22 21, om 6 22] (so [om 23 0, om 24 6, oe 25 (.call 41 [23, 24]), om 7 25] (.seq (.draw 13 [⟨0, om 26 7, []⟩, ⟨1, oq 27 (.bin .neq .ptr 26 (.val .nptr)), []⟩, ⟨2, om 28 27, []⟩, ⟨3, oqg 29 28 true (.mov 7), []⟩, ⟨4, oqg 30 28 true (.nilck 29), []⟩, ⟨5, oqg 31 28 true (.fieldAddr 2 30), []⟩, ⟨6, oqg 32 28 true (.load1 31), []⟩, ⟨7, oqg 33 28 true (.mov 4), []⟩, ⟨8, oqg 34 28 true (.nilck 33), []⟩, ⟨9, oqg 35 28 true (.fieldAddr 2 34), []⟩, ⟨10, oqg 36 28 true (.load1 35), []⟩, ⟨11, oqg 37 28 true (.bin .gtr .num 32 36), []⟩, ⟨12, oq 38 (.pick 28 37 oF), []⟩]) (.cond 38 (.ops [om 39 7, om 4 39]) .skip))))) (.ops [ob 40 .add 19 (oi 1), om 19 40]))))
noncomputable def f12.res : List PRes := [.tmp (sn 2), .tmp (sn 3)]
noncomputable def f12.p4 (C : CW) (Q : AVal → S → Prop) (E : En) (σ : S) : Prop :=
C 44 [(E 0)] σ fun t68 σ1 =>
sB .neq t68 (i6 0) fun t69 =>
WIf t69 (
Ret [some .nptr, some (i6 11)] σ1 Q) (
sN (E 4) fun t71 =>
sF 5 t71 fun t72 =>
sL t72 (σ1.bumpT 24) fun t73 =>
sN (E 4) fun t75 =>
sF 6 t75 fun t76 =>
sL t76 (σ1.bumpT 24) fun t77 =>
sB .mul (i6 2) t77 fun t78 =>
sB .add t78 (i6 4096) fun t79 =>
sB .gtr t73 t79 fun t80 =>
sT t80 (some (E 4)) fun t82 =>
sT t80 (some (E 4)) fun t83 =>
sT t80 (vNilck t83) fun t84 =>
sT t80 (vFieldAddr 3 t84) fun t85 =>
sT t80 (vLoad1 t85 (σ1.bumpT 24)) fun t86 =>
sT t80 (some (E 4)) fun t87 =>
sT t80 (vNilck t87) fun t88 =>
sT t80 (vFieldAddr 4 t88) fun t89 =>
sT t80 (vLoad1 t89 (σ1.bumpT 24)) fun t90 =>
gE1 (isB t80 true) (fun K => C 45 [t82, t86, t90] (σ1.bumpT 24) K) (σ1.bumpT 24) fun t91 σ2 =>
sT t80 (binA .eql .num t91 (i6 11)) fun t92 =>
sP t80 t92 (.bool false) fun t93 =>
WIf t93 (
Ret [some .nptr, some (i6 11)] σ2 Q) (
Ret [some (E 4), some (i6 0)] σ2 Q))
theorem f12.p4_eq : f12.p4 C Q E σ = wC C f12.c4 E σ (retK f12.res Q) := by kernel_rfl
abbrev f12.J4 (C : CW) (Q : AVal → S → Prop) (E : En) (σ : S) : Prop := wC C f12.c4 E σ (retK f12.res Q)
theorem f12.p4_of (h : f12.p4 C Q E σ) : f12.J4 C Q E σ := Eq.mp f12.p4_eq h
noncomputable def f12.p3 (C : CW) (Q : AVal → S → Prop) (R2 R4 : PC) (E : En) (σ : S) : Prop :=
C 42 [(E 0), (E 8)] σ fun t57 σ1 =>
sB .gtr t57 (E 9) fun t59 =>
sT t59 (some (E 0)) fun t61 =>
sT t59 (some (E 8)) fun t62 =>
sT t59 (some (E 9)) fun t63 =>
gE1 (isB t59 true) (fun K => C 43 [t61, t62, t63] σ1 K) σ1 fun t64 σ2 =>
sT t59 (binA .neq .num t64 (i6 0)) fun t65 =>
sP t59 t65 (.bool false) fun t66 =>
WIf t66 (
Ret [some .nptr, some (i6 11)] σ2 Q) (
sB .add (E 8) (i6 1) fun t44 =>
wC C (.loop R2) ((((((E.q 55 (E 0) 56 (E 8) 57 t57 58 (E 9)).q 59 t59 60 t59 61 t61 62 t62).q 63 t63 64 t64 65 t65 66 t66).set 43 (E 8)).set 44 t44).set 8 t44) σ2 (blockK 2 (seqK (wC C R4) (retK f12.res Q))))
theorem f12.p3_eq {R2 R4 : PC} : f12.p3 C Q R2 R4 E σ = wC C f12.c3 E σ (blockK 3 (seqK (wC C (.ops [om 43 8, ob 44 .add 43 (oi 1), om 8 44])) (loopK C R2 (blockK 2 (seqK (wC C R4) (retK f12.res Q)))))) := by kernel_rfl
abbrev f12.J3 (C : CW) (Q : AVal → S → Prop) (E : En) (σ : S) : Prop := wC C f12.c3 E σ (blockK 3 (seqK (wC C (.ops [om 43 8, ob 44 .add 43 (oi 1), om 8 44])) (loopK C f12.c2 (blockK 2 (seqK (wC C f12.c4) (retK f12.res Q))))))
theorem f12.p3_of (h : f12.p3 C Q f12.c2 f12.c4 E σ) : f12.J3 C Q E σ := Eq.mp f12.p3_eq h
noncomputable def f12.p2 (C : CW) (Q : AVal → S → Prop) (R3 R2 R4 : PC) (E : En) (σ : S) : Prop :=
sB .leq (E 8) (i6 47) fun t42 =>
WIf t42 (
sN (E 4) fun t47 =>
sF 1 t47 fun t48 =>
sL t48 σ fun t49 =>
sB .eql (E 8) t49 fun t50 =>
WIf t50 (
sN (E 4) fun t52 =>
sF 5 t52 fun t53 =>
sL t53 σ fun t54 =>
wC C R3 (((((E.q 41 (E 8) 42 t42 9 (i6 0) 45 (E 8)).q 46 (E 4) 47 t47 48 t48 49 t49).q 50 t50 51 (E 4) 52 t52 53 t53).set 54 t54).set 9 t54) σ (blockK 3 (seqK (wC C (.ops [om 43 8, ob 44 .add 43 (oi 1), om 8 44])) (loopK C R2 (blockK 2 (seqK (wC C R4) (retK f12.res Q))))))) (
wC C R3 (((E.q 41 (E 8) 42 t42 9 (i6 0) 45 (E 8)).q 46 (E 4) 47 t47 48 t48 49 t49).set 50 t50) σ (blockK 3 (seqK (wC C (.ops [om 43 8, ob 44 .add 43 (oi 1), om 8 44])) (loopK C R2 (blockK 2 (seqK (wC C R4) (retK f12.res Q)))))))) (
wC C R4 ((E.set 41 (E 8)).set 42 t42) σ (retK f12.res Q))
theorem f12.p2_eq {R3 R2 R4 : PC} : f12.p2 C Q R3 R2 R4 E σ = wC C (f12.t2 R3) E σ (loopK C R2 (blockK 2 (seqK (wC C R4) (retK f12.res Q)))) := by kernel_rfl
abbrev f12.L2 (C : CW) (Q : AVal → S → Prop) (E : En) (σ : S) : Prop := wC C (.loop f12.c2) E σ (blockK 2 (seqK (wC C f12.c4) (retK f12.res Q)))
theorem f12.p2_of (h : f12.p2 (WF tab) Q f12.c3 f12.c2 f12.c4 E σ) : f12.L2 (WF tab) Q E σ := wLoop_step (Eq.mp f12.p2_eq h)
noncomputable def f12.p1 (C : CW) (Q : AVal → S → Prop) (R2 R4 : PC) (E : En) (σ : S) : Prop :=
wC C (.loop R2) (E.set 8 (i6 8)) σ (blockK 2 (seqK (wC C R4) (retK f12.res Q)))
theorem f12.p1_eq {R2 R4 : PC} : f12.p1 C Q R2 R4 E σ = wC C (f12.t1 R2 R4) E σ (retK f12.res Q) := by kernel_rfl
abbrev f12.J1 (C : CW) (Q : AVal → S → Prop) (E : En) (σ : S) : Prop := wC C f12.c1 E σ (retK f12.res Q)
theorem f12.p1_of (h : f12.p1 C Q f12.c2 f12.c4 E σ) : f12.J1 C Q E σ := Eq.mp f12.p1_eq h
noncomputable def f12.p0 (C : CW) (Q : AVal → S → Prop) (R0 R1 : PC) (E : En) (σ : S) : Prop :=
sB .lss (E 19) (E 18) fun t20 =>
WIf t20 (
Som (vIxSl 1 (E 17) (E 19)) fun t21 =>
sL t21 σ fun t22 =>
C 41 [(E 0), t22] σ fun t25 σ1 =>
Som (binA .neq .ptr t25 .nptr) fun t27 =>
sT t27 (some t25) fun t29 =>
sT t27 (vNilck t29) fun t30 =>
sT t27 (vFieldAddr 2 t30) fun t31 =>
sT t27 (vLoad1 t31 (σ1.bumpT 13)) fun t32 =>
sT t27 (some (E 4)) fun t33 =>
sT t27 (vNilck t33) fun t34 =>
sT t27 (vFieldAddr 2 t34) fun t35 =>
sT t27 (vLoad1 t35 (σ1.bumpT 13)) fun t36 =>
sT t27 (binA .gtr .num t32 t36) fun t37 =>
sP t27 t37 (.bool false) fun t38 =>
WIf t38 (
sB .add (E 19) (i6 1) fun t40 =>
wC C (.loop R0) (((((((E.q 20 t20 21 t21 22 t22 6 t22).q 23 (E 0) 24 t22 25 t25 7 t25).q 26 t25 27 t27 28 t27 29 t29).q 30 t30 31 t31 32 t32 33 t33).q 34 t34 35 t35 36 t36 37 t37).q 38 t38 39 t25 4 t25 40 t40).set 19 t40) (σ1.bumpT 13) (blockK 0 (seqK (wC C R1) (retK f12.res Q)))) (
sB .add (E 19) (i6 1) fun t40 =>
wC C (.loop R0) ((((((((E.q 20 t20 21 t21 22 t22 6 t22).q 23 (E 0) 24 t22 25 t25 7 t25).q 26 t25 27 t27 28 t27 29 t29).q 30 t30 31 t31 32 t32 33 t33).q 34 t34 35 t35 36 t36 37 t37).set 38 t38).set 40 t40).set 19 t40) (σ1.bumpT 13) (blockK 0 (seqK (wC C R1) (retK f12.res Q))))) (
wC C R1 (E.set 20 t20) σ (retK f12.res Q))
theorem f12.p0_eq {R0 R1 : PC} : f12.p0 C Q R0 R1 E σ = wC C f12.c0 E σ (loopK C R0 (blockK 0 (seqK (wC C R1) (retK f12.res Q)))) := by kernel_rfl
abbrev f12.L0 (C : CW) (Q : AVal → S → Prop) (E : En) (σ : S) : Prop := wC C (.loop f12.c0) E σ (blockK 0 (seqK (wC C f12.c1) (retK f12.res Q)))
theorem f12.p0_of (h : f12.p0 (WF tab) Q f12.c0 f12.c1 E σ) : f12.L0 (WF tab) Q E σ := wLoop_step (Eq.mp f12.p0_eq h)
noncomputable def f12.body (R0 R1 : PC) : PC := (so [oq 2 (.mov (.val .nptr)), oq 3 (.mov (oi 0))] (.seq (so [om 10 0, oq 11 (.bin .eql .ptr 10 (.val .nptr))] (.cond 11 (so [oq 2 (.mov (.val .nptr)), oq 3 (.mov (oi 1))] .ret) .skip)) (.seq (so [om 12 0, oe 13 (.call 40 [12])] (.cond 13 (so [oq 2 (.mov (.val .nptr)), oq 3 (.mov (oi 11))] .ret) .skip)) (so [om 14 0, oq 15 (.build [.nptr, (i6 0), (i6 0), (i6 0), .nsl, (i6 0), (i6 0)] [(0, 1, 14), (1, 1, (oi 8)), (3, 1, (oi 1))]), oa 16 (.box 15), om 4 16] (.seq (so [oa 17 (.bslice 1 [(i6 0)] 2 [(0, 1, (oi 8)), (1, 1, (oi 9))]), oq 18 (.lenSl 17), oq 19 (.mov (oi 0))] (.block 0 (.loop R0))) R1)))))
noncomputable def f12.fn : PFn := .code (slotsN 95) (f12.body f12.c0 f12.c1) f12.res
noncomputable def f12 (C : CW) (R0 R1 : PC) (a0 : AVal) (σ : S) (Q : AVal → S → Prop) : Prop :=
Som (binA .eql .ptr a0 .nptr) fun t11 =>
WIf t11 (
Ret [some .nptr, some (i6 1)] σ Q) (
C 40 [a0] σ fun t13 σ1 =>
WIf t13 (
Ret [some .nptr, some (i6 11)] σ1 Q) (
Som (vBuild [.nptr, (i6 0), (i6 0), (i6 0), .nsl, (i6 0), (i6 0)] [(0, 1, a0), (1, 1, (i6 8)), (3, 1, (i6 1))]) fun t15 =>
Ala (aBoxV t15) σ1 fun t16 σ2 =>
Ala (aSliceV 1 [(i6 0)] 2 [(0, 1, (i6 8)), (1, 1, (i6 9))]) σ2 fun t17 σ3 =>
Som (vLenSl t17) fun t18 =>
wC C (.loop R0) (((((E0.q 0 a0 2 .nptr 3 (i6 0) 10 a0).q 11 t11 12 a0 13 t13 14 a0).q 15 t15 16 t16 4 t16 17 t17).set 18 t18).set 19 (i6 0)) σ3 (blockK 0 (seqK (wC C R1) (retK f12.res Q)))))
theorem f12_eq {R0 R1 : PC} {a0 : AVal} : f12 C R0 R1 a0 σ Q = wC C (f12.body R0 R1) (E0.set 0 a0) σ (retK f12.res Q) := by kernel_rfl
theorem f12_wf (ht : tab 12 = some f12.fn) {a0 : AVal} (h : f12 (WF tab) f12.c0 f12.c1 a0 σ Q) : WF tab 12 [a0] σ Q := wf_of ht (by kernel_rfl) f12_eq h
noncomputable def f14.res : List PRes := [.tmp (sn 2)]
noncomputable def f14.body : PC := (so [oq 2 (.mov (oi 0))] (so [om 3 0, on 4 3, ox 5 3 4, ol 6 5, om 2 6] .ret))
noncomputable def f14.fn : PFn := .code (slotsN 7) f14.body f14.res
noncomputable def f14 (C : CW) (a0 : AVal) (σ : S) (Q : AVal → S → Prop) : Prop :=
sN a0 fun t4 =>
sF 3 t4 fun t5 =>
sL t5 σ fun t6 =>
Ret [some t6] σ Q
theorem f14_eq {a0 : AVal} : f14 C a0 σ Q = wC C f14.body (E0.set 0 a0) σ (retK f14.res Q) := by kernel_rfl
theorem f14_wf (ht : tab 14 = some f14.fn) {a0 : AVal} (h : f14 (WF tab) a0 σ Q) : WF tab 14 [a0] σ Q := wf_of ht (by kernel_rfl) f14_eq h
noncomputable def f15.res : List PRes := [.tmp (sn 2)]
noncomputable def f15.body : PC := (so [oq 2 (.mov (oi 0))] (.seq (.draw 12 [⟨0, om 3 0, []⟩, ⟨1, on 4 3, []⟩, ⟨2, ox 5 3 4, []⟩, ⟨3, ol 6 5, []⟩, ⟨4, om 7 0, []⟩, ⟨5, on 8 7, []⟩, ⟨6, ox 9 4 8, []⟩, ⟨7, ol 10 9, []⟩, ⟨8, oq 11 (.lenSl 10), []⟩, ⟨9, ob 12 .add 6 11, []⟩, ⟨10, ob 13 .sub 12 (oi 1), []⟩, ⟨11, om 2 13, []⟩]) .ret))
noncomputable def f15.fn : PFn := .code (slotsN 14) f15.body f15.res
noncomputable def f15 (C : CW) (a0 : AVal) (σ : S) (Q : AVal → S → Prop) : Prop :=
sN a0 fun t4 =>
sF 3 t4 fun t5 =>
sL t5 (σ.bumpT 12) fun t6 =>
sN a0 fun t8 =>
sF 4 t8 fun t9 =>
sL t9 (σ.bumpT 12) fun t10 =>
Som (vLenSl t10) fun t11 =>
sB .add t6 t11 fun t12 =>
sB .sub t12 (i6 1) fun t13 =>
Ret [some t13] (σ.bumpT 12) Q
theorem f15_eq {a0 : AVal} : f15 C a0 σ Q = wC C f15.body (E0.set 0 a0) σ (retK f15.res Q) := by kernel_rfl
theorem f15_wf (ht : tab 15 = some f15.fn) {a0 : AVal} (h : f15 (WF tab) a0 σ Q) : WF tab 15 [a0] σ Q := wf_of ht (by kernel_rfl) f15_eq h
noncomputable def f16.res : List PRes := [.tmp (sn 4), .tmp (sn 5)]
noncomputable def f16.body : PC := (so [oq 4 (.mov (.val (.str []))), oq 5 (.mov oF)] (.seq (so [om 6 1, om 7 0, on 8 7, ox 9 3 8, ol 10 9, ob 11 .lss 6 10, om 12 11, oqg 13 12 false (.mov 1), oqg 14 12 false (.mov 0), oeg 15 12 false (.call 15 [14]), oqg 16 12 false (.bin .gtr .num 13 15), oq 17 (.pick 12 oT 16)] (.cond 17 (so [oq 4 (.mov (.val (.str []))), oq 5 (.mov oF)] .ret) .skip)) (.seq (.draw 14 [⟨0, om 18 0, []⟩, ⟨1, on 19 18, []⟩, ⟨2, ox 20 4 19, []⟩, ⟨3, ol 21 20, []⟩, ⟨4, om 22 1, []⟩, ⟨5, om 23 0, []⟩, ⟨6, on 24 23, []⟩, ⟨7, ox 25 3 24, []⟩, ⟨8, ol 26 25, []⟩, ⟨9, ob 27 .sub 22 26, []⟩, ⟨10, oq 28 (.ixSl 1 21 27), []⟩, ⟨11, ol 29 28, []⟩, ⟨12, om 4 29, []⟩, ⟨13, oq 5 (.mov oT), []⟩]) .ret)))
noncomputable def f16.fn : PFn := .code (slotsN 30) f16.body f16.res
noncomputable def f16 (C : CW) (a0 a1 : AVal) (σ : S) (Q : AVal → S → Prop) : Prop :=
sN a0 fun t8 =>
sF 3 t8 fun t9 =>
sL t9 σ fun t10 =>
sB .lss a1 t10 fun t11 =>
sU t11 (some a1) fun t13 =>
sU t11 (some a0) fun t14 =>
gE1 (isB t11 false) (fun K => C 15 [t14] σ K) σ fun t15 σ1 =>
sU t11 (binA .gtr .num t13 t15) fun t16 =>
sP t11 (.bool true) t16 fun t17 =>
WIf t17 (
Ret [some (.str []), some (.bool false)] σ1 Q) (
sN a0 fun t19 =>
sF 4 t19 fun t20 =>
sL t20 (σ1.bumpT 14) fun t21 =>
sN a0 fun t24 =>
sF 3 t24 fun t25 =>
sL t25 (σ1.bumpT 14) fun t26 =>
sB .sub a1 t26 fun t27 =>
Som (vIxSl 1 t21 t27) fun t28 =>
sL t28 (σ1.bumpT 14) fun t29 =>
Ret [some t29, some (.bool true)] (σ1.bumpT 14) Q)
theorem f16_eq {a0 a1 : AVal} : f16 C a0 a1 σ Q = wC C f16.body ((E0.set 0 a0).set 1 a1) σ (retK f16.res Q) := by kernel_rfl
theorem f16_wf (ht : tab 16 = some f16.fn) {a0 a1 : AVal} (h : f16 (WF tab) a0 a1 σ Q) : WF tab 16 [a0, a1] σ Q := wf_of ht (by kernel_rfl) f16_eq h
noncomputable def f17.res : List PRes := [.tmp (sn 4)]
noncomputable def f17.body : PC := (so [oq 4 (.mov (oi 0))] (.seq (so [om 5 1, om 6 0, on 7 6, ox 8 3 7, ol 9 8, ob 10 .lss 5 9, om 11 10, oqg 12 11 false (.mov 1), oqg 13 11 false (.mov 0), oeg 14 11 false (.call 15 [13]), oqg 15 11 false (.bin .add .num 14 (oi 1)), oqg 16 11 false (.bin .gtr .num 12 15), oq 17 (.pick 11 oT 16)] (.cond 17 (so [oq 4 (.mov (oi 1))] .ret) .skip)) (.seq (so [om 18 0, on 19 18, ox 20 0 19, ol 21 20, oe 22 (.call 40 [21])] (.cond 22 (so [oq 4 (.mov (oi 11))] .ret) .skip)) (.seq (so [om 23 1, om 24 0, oe 25 (.call 15 [24]), ob 26 .add 25 (oi 1), ob 27 .eql 23 26] (.cond 27 (so [oq 4 (.mov (oi 0))] .ret) .skip)) (.seq (.draw 19 [⟨0, om 28 0, []⟩, ⟨1, om 29 1, []⟩, ⟨2, om 30 0, []⟩, ⟨3, on 31 30, []⟩, ⟨4, ox 32 3 31, []⟩, ⟨5, ol 33 32, []⟩, ⟨6, om 34 0, []⟩, ⟨7, on 35 34, []⟩, ⟨8, ox 36 4 35, []⟩, ⟨9, ol 37 36, []⟩, ⟨10, om 38 1, []⟩, ⟨11, om 39 0, []⟩, ⟨12, on 40 39, []⟩, ⟨13, ox 41 3 40, []⟩, ⟨14, ol 42 41, []⟩, ⟨15, ob 43 .sub 38 42, []⟩, ⟨16, oq 44 (.slSl 1 37 none (some 43) none), []⟩, ⟨17, oe 45 (.call 47 [28, (oi 2), 29, 33, 44]), []⟩, ⟨18, om 4 45, []⟩]) .ret)))))
noncomputable def f17.fn : PFn := .code (slotsN 46) f17.body f17.res
noncomputable def f17 (C : CW) (a0 a1 : AVal) (σ : S) (Q : AVal → S → Prop) : Prop :=
sN a0 fun t7 =>
sF 3 t7 fun t8 =>
sL t8 σ fun t9 =>
sB .lss a1 t9 fun t10 =>
sU t10 (some a1) fun t12 =>
sU t10 (some a0) fun t13 =>
gE1 (isB t10 false) (fun K => C 15 [t13] σ K) σ fun t14 σ1 =>
sU t10 (binA .add .num t14 (i6 1)) fun t15 =>
sU t10 (binA .gtr .num t12 t15) fun t16 =>
sP t10 (.bool true) t16 fun t17 =>
WIf t17 (
Ret [some (i6 1)] σ1 Q) (
sN a0 fun t19 =>
sF 0 t19 fun t20 =>
sL t20 σ1 fun t21 =>
C 40 [t21] σ1 fun t22 σ2 =>
WIf t22 (
Ret [some (i6 11)] σ2 Q) (
C 15 [a0] σ2 fun t25 σ3 =>
sB .add t25 (i6 1) fun t26 =>
sB .eql a1 t26 fun t27 =>
WIf t27 (
Ret [some (i6 0)] σ3 Q) (
sN a0 fun t31 =>
sF 3 t31 fun t32 =>
sL t32 (σ3.bumpT 19) fun t33 =>
sN a0 fun t35 =>
sF 4 t35 fun t36 =>
sL t36 (σ3.bumpT 19) fun t37 =>
sN a0 fun t40 =>
sF 3 t40 fun t41 =>
sL t41 (σ3.bumpT 19) fun t42 =>
sB .sub a1 t42 fun t43 =>
Som (vSlSl 1 t37 none (some t43) none) fun t44 =>
C 47 [a0, (i6 2), a1, t33, t44] (σ3.bumpT 19) fun t45 σ4 =>
Ret [some t45] σ4 Q)))
theorem f17_eq {a0 a1 : AVal} : f17 C a0 a1 σ Q = wC C f17.body ((E0.set 0 a0).set 1 a1) σ (retK f17.res Q) := by kernel_rfl
theorem f17_wf (ht : tab 17 = some f17.fn) {a0 a1 : AVal} (h : f17 (WF tab) a0 a1 σ Q) : WF tab 17 [a0, a1] σ Q := wf_of ht (by kernel_rfl) f17_eq h
noncomputable def f18.c4 : PC := (so [ob 92 .lss 91 90] (.seq (.cond 92 .skip (.exit 4)) (.seq (.block 5 (so [om 93 91, oq 94 (.ixSl 1 89 91), ol 95 94, om 13 93, om 14 95] (.ops [om 96 0, om 97 1, om 98 13, ob 99 .add 97 98, om 100 14, oe 101 (.call 52 [96, 99, 100])]))) (.ops [ob 102 .add 91 (oi 1), om 91 102]))))
noncomputable def f18.t3 (R4 : PC) : PC := (.seq (so [om 83 0, om 84 9, oe 85 (.call 51 [83, 84]), om 12 85] (so [om 86 12, ob 87 .neq 86 (oi 0)] (.cond 87 (so [om 88 12, om 6 88] .ret) .skip))) (.seq (so [om 89 2, oq 90 (.lenSl 89), oq 91 (.mov (oi 0))] (.block 4 (.loop R4))) (so [oq 6 (.mov (oi 0))] .ret)))
noncomputable def f18.c3 : PC := f18.t3 f18.c4
noncomputable def f18.c2 : PC := (so [ob 67 .lss 66 65] (.seq (.cond 67 .skip (.exit 2)) (.seq (.block 3 (so [om 68 66, oq 69 (.ixSl 1 64 66), ol 70 69, om 10 68, om 11 70] (.ops [om 71 9, om 72 0, on 73 72, ox 74 2 73, ol 75 74, om 76 1, om 77 10, ob 78 .add 76 77, om 79 11, oe 80 (.call 50 [(.val .nsl), (oi 1), 75, 78, (oi 0), 79]), oe 81 (.append 1 1 71 80), om 9 81]))) (.ops [ob 82 .add 66 (oi 1), om 66 82]))))
noncomputable def f18.t1 (R2 R3 : PC) : PC := (.seq (so [om 31 0, on 32 31, ox 33 0 32, ol 34 33, oe 35 (.call 40 [34])] (.cond 35 (so [oq 6 (.mov (oi 11))] .ret) .skip)) (.seq (so [om 36 2, oq 37 (.lenSl 36), ob 38 .eql 37 (oi 0), om 39 38, oqg 40 39 true (.mov 0), oqg 41 39 true (.nilck 40), oqg 42 39 true (.fieldAddr 4 41), oqg 43 39 true (.load1 42), oqg 44 39 true (.lenSl 43), oqg 45 39 true (.bin .gtr .num 44 (oi 0)), oqg 46 39 true (.mov 45), oqg 47 46 false (.mov 1), oqg 48 46 false (.mov 0), oqg 49 46 false (.nilck 48), oqg 50 46 false (.fieldAddr 3 49), oqg 51 46 false (.load1 50), oqg 52 46 false (.bin .eql .num 47 51), oqg 53 39 true (.pick 46 oT 52), oq 54 (.pick 39 53 oF)] (.cond 54 (so [oq 6 (.mov (oi 0))] .ret) .skip)) (.seq (so [om 55 2, oq 56 (.lenSl 55), ob 57 .eql 56 (oi 0)] (.cond 57 (so [om 58 0, om 59 1, om 60 1, oe 61 (.call 47 [58, (oi 4), 59, 60, (.val .nsl)]), om 6 61] .ret) .skip)) (so [om 62 0, oe 63 (.call 49 [62]), om 9 63] (.seq (so [om 64 2, oq 65 (.lenSl 64), oq 66 (.mov (oi 0))] (.block 2 (.loop R2))) R3)))))
noncomputable def f18.c1 : PC := f18.t1 f18.c2 f18.c3
noncomputable def f18.c0 : PC := (so [ob 24 .lss 23 22] (.seq (.cond 24 .skip (.exit 0)) (.seq (.block 1 (so [oq 25 (.ixSl 1 21 23), ol 26 25, om 8 26] (so [om 27 8, oq 28 (.lenStr 27), ob 29 .gtr 28 (oi 16284)] (.cond 29 (so [oq 6 (.mov (oi 1))] .ret) .skip)))) (.ops [ob 30 .add 23 (oi 1), om 23 30]))))
noncomputable def f18.res : List PRes := [.tmp (sn 6)]
noncomputable def f18.p4 (C : CW) (Q : AVal → S → Prop) (R4 : PC) (E : En) (σ : S) : Prop :=
sB .lss (E 91) (E 90) fun t92 =>
WIf t92 (
Som (vIxSl 1 (E 89) (E 91)) fun t94 =>
sL t94 σ fun t95 =>
sB .add (E 1) (E 91) fun t99 =>
C 52 [(E 0), t99, t95] σ fun t101 σ1 =>
sB .add (E 91) (i6 1) fun t102 =>
wC C (.loop R4) (((((E.q 92 t92 93 (E 91) 94 t94 95 t95).q 13 (E 91) 14 t95 96 (E 0) 97 (E 1)).q 98 (E 91) 99 t99 100 t95 101 t101).set 102 t102).set 91 t102) σ1 (blockK 4 (seqK (wC C (so [oq 6 (.mov (oi 0))] .ret)) (retK f18.res Q)))) (
Ret [some (i6 0)] σ Q)
theorem f18.p4_eq {R4 : PC} : f18.p4 C Q R4 E σ = wC C f18.c4 E σ (loopK C R4 (blockK 4 (seqK (wC C (so [oq 6 (.mov (oi 0))] .ret)) (retK f18.res Q)))) := by kernel_rfl
abbrev f18.L4 (C : CW) (Q : AVal → S → Prop) (E : En) (σ : S) : Prop := wC C (.loop f18.c4) E σ (blockK 4 (seqK (wC C (so [oq 6 (.mov (oi 0))] .ret)) (retK f18.res Q)))
theorem f18.p4_of (h : f18.p4 (WF tab) Q f18.c4 E σ) : f18.L4 (WF tab) Q E σ := wLoop_step (Eq.mp f18.p4_eq h)
noncomputable def f18.p3 (C : CW) (Q : AVal → S → Prop) (R4 : PC) (E : En) (σ : S) : Prop :=
C 51 [(E 0), (E 9)] σ fun t85 σ1 =>
sB .neq t85 (i6 0) fun t87 =>
WIf t87 (
Ret [some t85] σ1 Q) (
Som (vLenSl (E 2)) fun t90 =>
wC C (.loop R4) (((E.q 83 (E 0) 84 (E 9) 85 t85 12 t85).q 86 t85 87 t87 89 (E 2) 90 t90).set 91 (i6 0)) σ1 (blockK 4 (seqK (wC C (so [oq 6 (.mov (oi 0))] .ret)) (retK f18.res Q))))
theorem f18.p3_eq {R4 : PC} : f18.p3 C Q R4 E σ = wC C (f18.t3 R4) E σ (retK f18.res Q) := by kernel_rfl
abbrev f18.J3 (C : CW) (Q : AVal → S → Prop) (E : En) (σ : S) : Prop := wC C f18.c3 E σ (retK f18.res Q)
theorem f18.p3_of (h : f18.p3 C Q f18.c4 E σ) : f18.J3 C Q E σ := Eq.mp f18.p3_eq h
noncomputable def f18.p2 (C : CW) (Q : AVal → S → Prop) (R2 R3 : PC) (E : En) (σ : S) : Prop :=
sB .lss (E 66) (E 65) fun t67 =>
WIf t67 (
Som (vIxSl 1 (E 64) (E 66)) fun t69 =>
sL t69 σ fun t70 =>
sN (E 0) fun t73 =>
sF 2 t73 fun t74 =>
sL t74 σ fun t75 =>
sB .add (E 1) (E 66) fun t78 =>
C 50 [.nsl, (i6 1), t75, t78, (i6 0), t70] σ fun t80 σ1 =>
Eff (appendA 1 1 (E 9) t80 σ1) fun t81 σ2 =>
sB .add (E 66) (i6 1) fun t82 =>
wC C (.loop R2) (((((E.q 67 t67 68 (E 66) 69 t69 70 t70).q 10 (E 66) 11 t70 71 (E 9) 72 (E 0)).q 73 t73 74 t74 75 t75 76 (E 1)).q 77 (E 66) 78 t78 79 t70 80 t80).q 81 t81 9 t81 82 t82 66 t82) σ2 (blockK 2 (seqK (wC C R3) (retK f18.res Q)))) (
wC C R3 (E.set 67 t67) σ (retK f18.res Q))
theorem f18.p2_eq {R2 R3 : PC} : f18.p2 C Q R2 R3 E σ = wC C f18.c2 E σ (loopK C R2 (blockK 2 (seqK (wC C R3) (retK f18.res Q)))) := by kernel_rfl
abbrev f18.L2 (C : CW) (Q : AVal → S → Prop) (E : En) (σ : S) : Prop := wC C (.loop f18.c2) E σ (blockK 2 (seqK (wC C f18.c3) (retK f18.res Q)))
theorem f18.p2_of (h : f18.p2 (WF tab) Q f18.c2 f18.c3 E σ) : f18.L2 (WF tab) Q E σ := wLoop_step (Eq.mp f18.p2_eq h)
noncomputable def f18.p1 (C : CW) (Q : AVal → S → Prop) (R2 R3 : PC) (E : En) (σ : S) : Prop :=
sN (E 0) fun t32 =>
sF 0 t32 fun t33 =>
sL t33 σ fun t34 =>
C 40 [t34] σ fun t35 σ1 =>
WIf t35 (
Ret [some (i6 11)] σ1 Q) (
Som (vLenSl (E 2)) fun t37 =>
sB .eql t37 (i6 0) fun t38 =>
sT t38 (some (E 0)) fun t40 =>
sT t38 (vNilck t40) fun t41 =>
sT t38 (vFieldAddr 4 t41) fun t42 =>
sT t38 (vLoad1 t42 σ1) fun t43 =>
sT t38 (vLenSl t43) fun t44 =>
sT t38 (binA .gtr .num t44 (i6 0)) fun t45 =>
sT t38 (some t45) fun t46 =>
sU t46 (some (E 1)) fun t47 =>
sU t46 (some (E 0)) fun t48 =>
sU t46 (vNilck t48) fun t49 =>
sU t46 (vFieldAddr 3 t49) fun t50 =>
sU t46 (vLoad1 t50 σ1) fun t51 =>
sU t46 (binA .eql .num t47 t51) fun t52 =>
sT t38 (vPick t46 (.bool true) t52) fun t53 =>
sP t38 t53 (.bool false) fun t54 =>
WIf t54 (
Ret [some (i6 0)] σ1 Q) (
Som (vLenSl (E 2)) fun t56 =>
sB .eql t56 (i6 0) fun t57 =>
WIf t57 (
C 47 [(E 0), (i6 4), (E 1), (E 1), .nsl] σ1 fun t61 σ2 =>
Ret [some t61] σ2 Q) (
C 49 [(E 0)] σ1 fun t63 σ2 =>
Som (vLenSl (E 2)) fun t65 =>
wC C (.loop R2) (((((((((E.q 31 (E 0) 32 t32 33 t33 34 t34).q 35 t35 36 (E 2) 37 t37 38 t38).q 39 t38 40 t40 41 t41 42 t42).q 43 t43 44 t44 45 t45 46 t46).q 47 t47 48 t48 49 t49 50 t50).q 51 t51 52 t52 53 t53 54 t54).q 55 (E 2) 56 t56 57 t57 62 (E 0)).q 63 t63 9 t63 64 (E 2) 65 t65).set 66 (i6 0)) σ2 (blockK 2 (seqK (wC C R3) (retK f18.res Q))))))
theorem f18.p1_eq {R2 R3 : PC} : f18.p1 C Q R2 R3 E σ = wC C (f18.t1 R2 R3) E σ (retK f18.res Q) := by kernel_rfl
abbrev f18.J1 (C : CW) (Q : AVal → S → Prop) (E : En) (σ : S) : Prop := wC C f18.c1 E σ (retK f18.res Q)
theorem f18.p1_of (h : f18.p1 C Q f18.c2 f18.c3 E σ) : f18.J1 C Q E σ := Eq.mp f18.p1_eq h
noncomputable def f18.p0 (C : CW) (Q : AVal → S → Prop) (R0 R1 : PC) (E : En) (σ : S) : Prop :=
sB .lss (E 23) (E 22) fun t24 =>
WIf t24 (
Som (vIxSl 1 (E 21) (E 23)) fun t25 =>
sL t25 σ fun t26 =>
Som (vLenStr t26) fun t28 =>
sB .gtr t28 (i6 16284) fun t29 =>
WIf t29 (
Ret [some (i6 1)] σ Q) (
sB .add (E 23) (i6 1) fun t30 =>
wC C (.loop R0) (((E.q 24 t24 25 t25 26 t26 8 t26).q 27 t26 28 t28 29 t29 30 t30).set 23 t30) σ (blockK 0 (seqK (wC C R1) (retK f18.res Q))))) (
wC C R1 (E.set 24 t24) σ (retK f18.res Q))
theorem f18.p0_eq {R0 R1 : PC} : f18.p0 C Q R0 R1 E σ = wC C f18.c0 E σ (loopK C R0 (blockK 0 (seqK (wC C R1) (retK f18.res Q)))) := by kernel_rfl
abbrev f18.L0 (C : CW) (Q : AVal → S → Prop) (E : En) (σ : S) : Prop := wC C (.loop f18.c0) E σ (blockK 0 (seqK (wC C f18.c1) (retK f18.res Q)))
theorem f18.p0_of (h : f18.p0 (WF tab) Q f18.c0 f18.c1 E σ) : f18.L0 (WF tab) Q E σ := wLoop_step (Eq.mp f18.p0_eq h)
noncomputable def f18.body (R0 R1 : PC) : PC := (so [oq 6 (.mov (oi 0))] (.seq (so [om 15 0, om 16 1, om 17 2, oq 18 (.lenSl 17), oe 19 (.call 48 [15, 16, 18]), oq 20 (.un .not 19)] (.cond 20 (so [oq 6 (.mov (oi 1))] .ret) .skip)) (.seq (so [om 21 2, oq 22 (.lenSl 21), oq 23 (.mov (oi 0))] (.block 0 (.loop R0))) R1)))
noncomputable def f18.fn : PFn := .code (slotsN 103) (f18.body f18.c0 f18.c1) f18.res
noncomputable def f18 (C : CW) (R0 R1 : PC) (a0 a1 a2 : AVal) (σ : S) (Q : AVal → S → Prop) : Prop :=
Som (vLenSl a2) fun t18 =>
C 48 [a0, a1, t18] σ fun t19 σ1 =>
Som (unA .not t19) fun t20 =>
WIf t20 (
Ret [some (i6 1)] σ1 Q) (
Som (vLenSl a2) fun t22 =>
wC C (.loop R0) ((((E0.q 0 a0 1 a1 2 a2 6 (i6 0)).q 15 a0 16 a1 17 a2 18 t18).q 19 t19 20 t20 21 a2 22 t22).set 23 (i6 0)) σ1 (blockK 0 (seqK (wC C R1) (retK f18.res Q))))
theorem f18_eq {R0 R1 : PC} {a0 a1 a2 : AVal} : f18 C R0 R1 a0 a1 a2 σ Q = wC C (f18.body R0 R1) (((E0.set 0 a0).set 1 a1).set 2 a2) σ (retK f18.res Q) := by kernel_rfl
theorem f18_wf (ht : tab 18 = some f18.fn) {a0 a1 a2 : AVal} (h : f18 (WF tab) f18.c0 f18.c1 a0 a1 a2 σ Q) : WF tab 18 [a0, a1, a2] σ Q := wf_of ht (by kernel_rfl) f18_eq h
noncomputable def f19.res : List PRes := [.tmp (sn 4)]
noncomputable def f19.body : PC := (so [oq 4 (.mov (oi 0))] (.seq (so [om 5 1, om 6 0, on 7 6, ox 8 3 7, ol 9 8, ob 10 .lss 5 9, om 11 10, oqg 12 11 false (.mov 1), oqg 13 11 false (.mov 0), oeg 14 11 false (.call 15 [13]), oqg 15 11 false (.bin .add .num 14 (oi 1)), oqg 16 11 false (.bin .gtr .num 12 15), oq 17 (.pick 11 oT 16)] (.cond 17 (so [oq 4 (.mov (oi 1))] .ret) .skip)) (.seq (so [om 18 0, on 19 18, ox 20 0 19, ol 21 20, oe 22 (.call 40 [21])] (.cond 22 (so [oq 4 (.mov (oi 11))] .ret) .skip)) (.seq (so [om 23 1, om 24 0, on 25 24, ox 26 3 25, ol 27 26, ob 28 .eql 23 27] (.cond 28 (so [oq 4 (.mov (oi 0))] .ret) .skip)) (.seq (.draw 16 [⟨0, om 29 0, []⟩, ⟨1, om 30 1, []⟩, ⟨2, om 31 1, []⟩, ⟨3, om 32 0, []⟩, ⟨4, on 33 32, []⟩, ⟨5, ox 34 4 33, []⟩, ⟨6, ol 35 34, []⟩, ⟨7, om 36 1, []⟩, ⟨8, om 37 0, []⟩, ⟨9, on 38 37, []⟩, ⟨10, ox 39 3 38, []⟩, ⟨11, ol 40 39, []⟩, ⟨12, ob 41 .sub 36 40, []⟩, ⟨13, oq 42 (.slSl 1 35 (some 41) none none), []⟩, ⟨14, oe 43 (.call 47 [29, (oi 3), 30, 31, 42]), []⟩, ⟨15, om 4 43, []⟩]) .ret)))))
noncomputable def f19.fn : PFn := .code (slotsN 44) f19.body f19.res
noncomputable def f19 (C : CW) (a0 a1 : AVal) (σ : S) (Q : AVal → S → Prop) : Prop :=
sN a0 fun t7 =>
sF 3 t7 fun t8 =>
sL t8 σ fun t9 =>
sB .lss a1 t9 fun t10 =>
sU t10 (some a1) fun t12 =>
sU t10 (some a0) fun t13 =>
gE1 (isB t10 false) (fun K => C 15 [t13] σ K) σ fun t14 σ1 =>
sU t10 (binA .add .num t14 (i6 1)) fun t15 =>
sU t10 (binA .gtr .num t12 t15) fun t16 =>
sP t10 (.bool true) t16 fun t17 =>
WIf t17 (
Ret [some (i6 1)] σ1 Q) (
sN a0 fun t19 =>
sF 0 t19 fun t20 =>
sL t20 σ1 fun t21 =>
C 40 [t21] σ1 fun t22 σ2 =>
WIf t22 (
Ret [some (i6 11)] σ2 Q) (
sN a0 fun t25 =>
sF 3 t25 fun t26 =>
sL t26 σ2 fun t27 =>
sB .eql a1 t27 fun t28 =>
WIf t28 (
Ret [some (i6 0)] σ2 Q) (
sN a0 fun t33 =>
sF 4 t33 fun t34 =>
sL t34 (σ2.bumpT 16) fun t35 =>
sN a0 fun t38 =>
sF 3 t38 fun t39 =>
sL t39 (σ2.bumpT 16) fun t40 =>
sB .sub a1 t40 fun t41 =>
Som (vSlSl 1 t35 (some t41) none none) fun t42 =>
C 47 [a0, (i6 3), a1, a1, t42] (σ2.bumpT 16) fun t43 σ3 =>
Ret [some t43] σ3 Q)))
theorem f19_eq {a0 a1 : AVal} : f19 C a0 a1 σ Q = wC C f19.body ((E0.set 0 a0).set 1 a1) σ (retK f19.res Q) := by kernel_rfl
theorem f19_wf (ht : tab 19 = some f19.fn) {a0 a1 : AVal} (h : f19 (WF tab) a0 a1 σ Q) : WF tab 19 [a0, a1] σ Q := wf_of ht (by kernel_rfl) f19_eq h
noncomputable def f20.res : List PRes := [.tmp (sn 2)]
noncomputable def f20.body : PC := (so [oq 2 (.mov (oi 0))] (so [om 3 0, on 4 3, ox 5 0 4, ol 6 5, oe 7 (.call 44 [6]), om 2 7] .ret))
noncomputable def f20.fn : PFn := .code (slotsN 8) f20.body f20.res
noncomputable def f20 (C : CW) (a0 : AVal) (σ : S) (Q : AVal → S → Prop) : Prop :=
sN a0 fun t4 =>
sF 0 t4 fun t5 =>
sL t5 σ fun t6 =>
C 44 [t6] σ fun t7 σ1 =>
Ret [some t7] σ1 Q
theorem f20_eq {a0 : AVal} : f20 C a0 σ Q = wC C f20.body (E0.set 0 a0) σ (retK f20.res Q) := by kernel_rfl
theorem f20_wf (ht : tab 20 = some f20.fn) {a0 : AVal} (h : f20 (WF tab) a0 σ Q) : WF tab 20 [a0] σ Q := wf_of ht (by kernel_rfl) f20_eq h
noncomputable def f29.c3 : PC := (.seq (so [om 114 0, oe 115 (.call 44 [114]), ob 116 .neq 115 (oi 0)] (.cond 116 (so [oq 2 (.mov (.val .nptr)), oq 3 (.mov (oi 11))] .ret) .skip)) (so [om 117 7, om 118 7, oe 119 (.call 63 [118]), on 120 117, ox 121 5 120, ox 122 5 121, os (.store 1 122 119)] (.seq (so [om 123 7, oe 124 (.call 64 [123]), om 12 124] (so [om 125 12, ob 126 .eql 125 (oi 11)] (.cond 126 (so [om 127 12, oq 2 (.mov (.val .nptr)), om 3 127] .ret) .skip))) (so [om 128 7, om 2 128, oq 3 (.mov (oi 0))] .ret))))
noncomputable def f29.c2 : PC := (.seq (so [om 85 11, ob 86 .leq 85 (oi 7)] (.cond 86 .skip (.exit 2))) (.seq (.block 3 (so [om 89 11, om 90 7, on 91 90, ox 92 3 91, ol 93 92, ob 94 .neq 89 93, om 95 94, oqg 96 95 false (.mov 7), oqg 97 95 false (.nilck 96), oqg 98 95 false (.fieldAddr 4 97), oqg 99 95 false (.load1 98), oqg 100 95 false (.bin .eql .num 99 (oi 0)), oq 101 (.pick 95 oT 100), om 102 101, oqg 103 102 true (.mov 0), oqg 104 102 true (.mov 11), oeg 105 102 true (.call 42 [103, 104]), oqg 106 102 true (.bin .gtr .num 105 (oi 0)), oq 107 (.pick 102 106 oF), om 108 107, oqg 109 108 true (.mov 0), oqg 110 108 true (.mov 11), oeg 111 108 true (.call 43 [109, 110, (oi 0)]), oqg 112 108 true (.bin .neq .num 111 (oi 0)), oq 113 (.pick 108 112 oF)] (.cond 113 (so [oq 2 (.mov (.val .nptr)), oq 3 (.mov (oi 11))] .ret) .skip))) (.ops [om 87 11, ob 88 .add 87 (oi 1), om 11 88])))
noncomputable def f29.t1 (R2 R3 : PC) : PC := (.seq (so [oq 11 (.mov (oi 4))] (.block 2 (.loop R2))) R3)
noncomputable def f29.c1 : PC := f29.t1 f29.c2 f29.c3
noncomputable def f29.c0 : PC := (.seq (so [om 42 8, ob 43 .lss 42 (oi 6)] (.cond 43 .skip (.exit 0))) (.seq (.block 1 (so [om 47 0, om 48 8, oe 49 (.call 61 [47, 48]), om 46 49, oq 50 (.extract 0 46), oq 51 (.extract 1 46), oa 9 (.alloc [(i6 0), (i6 0), (i6 0), (i6 0), (.str []), .nsl]), os (.store 6 9 50), om 10 51] (so [om 52 4, oe 53 (.call 59 [52]), om 54 4, oe 55 (.call 60 [54]), ox 56 0 9, os (.store 1 56 53), ox 57 1 9, os (.store 1 57 55)] (so [om 58 10, om 59 7, on 60 59, ox 61 4 60, ol 62 61, ob 63 .gtr 58 62, om 64 63, oqg 65 64 true (.fieldAddr 2 9), oqg 66 64 true (.load1 65), oqg 67 64 true (.bin .gtr .num 66 (oi 0)), oq 68 (.pick 64 67 oF), om 69 68, oqg 70 69 true (.loadN 6 9), oeg 71 69 true (.call 62 [70]), oq 72 (.pick 69 71 oF)] (.cond 72 (.ops [om 73 7, om 74 7, om 75 7, oq 76 (.loadN 6 9), om 77 8, om 78 10, on 79 73, ox 80 5 79, os (.store 6 80 76), on 81 74, ox 82 3 81, os (.store 1 82 77), on 83 75, ox 84 4 83, os (.store 1 84 78)]) .skip))))) (.ops [om 44 8, ob 45 .add 44 (oi 1), om 8 45])))
noncomputable def f29.res : List PRes := [.tmp (sn 2), .tmp (sn 3)]
noncomputable def f29.p3 (C : CW) (Q : AVal → S → Prop) (E : En) (σ : S) : Prop :=
C 44 [(E 0)] σ fun t115 σ1 =>
sB .neq t115 (i6 0) fun t116 =>
WIf t116 (
Ret [some .nptr, some (i6 11)] σ1 Q) (
C 63 [(E 7)] σ1 fun t119 σ2 =>
sN (E 7) fun t120 =>
sF 5 t120 fun t121 =>
sF 5 t121 fun t122 =>
sS 1 t122 t119 σ2 fun _ σ3 =>
C 64 [(E 7)] σ3 fun t124 σ4 =>
sB .eql t124 (i6 11) fun t126 =>
WIf t126 (
Ret [some .nptr, some t124] σ4 Q) (
Ret [some (E 7), some (i6 0)] σ4 Q))
theorem f29.p3_eq : f29.p3 C Q E σ = wC C f29.c3 E σ (retK f29.res Q) := by kernel_rfl
abbrev f29.J3 (C : CW) (Q : AVal → S → Prop) (E : En) (σ : S) : Prop := wC C f29.c3 E σ (retK f29.res Q)
theorem f29.p3_of (h : f29.p3 C Q E σ) : f29.J3 C Q E σ := Eq.mp f29.p3_eq h
noncomputable def f29.p2 (C : CW) (Q : AVal → S → Prop) (R2 R3 : PC) (E : En) (σ : S) : Prop :=
sB .leq (E 11) (i6 7) fun t86 =>
WIf t86 (
sN (E 7) fun t91 =>
sF 3 t91 fun t92 =>
sL t92 σ fun t93 =>
sB .neq (E 11) t93 fun t94 =>
sU t94 (some (E 7)) fun t96 =>
sU t94 (vNilck t96) fun t97 =>
sU t94 (vFieldAddr 4 t97) fun t98 =>
sU t94 (vLoad1 t98 σ) fun t99 =>
sU t94 (binA .eql .num t99 (i6 0)) fun t100 =>
sP t94 (.bool true) t100 fun t101 =>
sT t101 (some (E 0)) fun t103 =>
sT t101 (some (E 11)) fun t104 =>
gE1 (isB t101 true) (fun K => C 42 [t103, t104] σ K) σ fun t105 σ1 =>
sT t101 (binA .gtr .num t105 (i6 0)) fun t106 =>
sP t101 t106 (.bool false) fun t107 =>
sT t107 (some (E 0)) fun t109 =>
sT t107 (some (E 11)) fun t110 =>
gE1 (isB t107 true) (fun K => C 43 [t109, t110, (i6 0)] σ1 K) σ1 fun t111 σ2 =>
sT t107 (binA .neq .num t111 (i6 0)) fun t112 =>
sP t107 t112 (.bool false) fun t113 =>
WIf t113 (
Ret [some .nptr, some (i6 11)] σ2 Q) (
sB .add (E 11) (i6 1) fun t88 =>
wC C (.loop R2) (((((((((E.q 85 (E 11) 86 t86 89 (E 11) 90 (E 7)).q 91 t91 92 t92 93 t93 94 t94).q 95 t94 96 t96 97 t97 98 t98).q 99 t99 100 t100 101 t101 102 t101).q 103 t103 104 t104 105 t105 106 t106).q 107 t107 108 t107 109 t109 110 t110).q 111 t111 112 t112 113 t113 87 (E 11)).set 88 t88).set 11 t88) σ2 (blockK 2 (seqK (wC C R3) (retK f29.res Q))))) (
wC C R3 ((E.set 85 (E 11)).set 86 t86) σ (retK f29.res Q))
theorem f29.p2_eq {R2 R3 : PC} : f29.p2 C Q R2 R3 E σ = wC C f29.c2 E σ (loopK C R2 (blockK 2 (seqK (wC C R3) (retK f29.res Q)))) := by kernel_rfl
abbrev f29.L2 (C : CW) (Q : AVal → S → Prop) (E : En) (σ : S) : Prop := wC C (.loop f29.c2) E σ (blockK 2 (seqK (wC C f29.c3) (retK f29.res Q)))
theorem f29.p2_of (h : f29.p2 (WF tab) Q f29.c2 f29.c3 E σ) : f29.L2 (WF tab) Q E σ := wLoop_step (Eq.mp f29.p2_eq h)
noncomputable def f29.p1 (C : CW) (Q : AVal → S → Prop) (R2 R3 : PC) (E : En) (σ : S) : Prop :=
wC C (.loop R2) (E.set 11 (i6 4)) σ (blockK 2 (seqK (wC C R3) (retK f29.res Q)))
theorem f29.p1_eq {R2 R3 : PC} : f29.p1 C Q R2 R3 E σ = wC C (f29.t1 R2 R3) E σ (retK f29.res Q) := by kernel_rfl
abbrev f29.J1 (C : CW) (Q : AVal → S → Prop) (E : En) (σ : S) : Prop := wC C f29.c1 E σ (retK f29.res Q)
theorem f29.p1_of (h : f29.p1 C Q f29.c2 f29.c3 E σ) : f29.J1 C Q E σ := Eq.mp f29.p1_eq h
noncomputable def f29.p0 (C : CW) (Q : AVal → S → Prop) (R0 R1 : PC) (E : En) (σ : S) : Prop :=
sB .lss (E 8) (i6 6) fun t43 =>
WIf t43 (
C 61 [(E 0), (E 8)] σ fun t49 σ1 =>
Som (vExtract 0 t49) fun t50 =>
Som (vExtract 1 t49) fun t51 =>
Ala (aAllocV [(i6 0), (i6 0), (i6 0), (i6 0), (.str []), .nsl]) σ1 fun t9 σ2 =>
sS 6 t9 t50 σ2 fun _ σ3 =>
C 59 [(E 4)] σ3 fun t53 σ4 =>
C 60 [(E 4)] σ4 fun t55 σ5 =>
sF 0 t9 fun t56 =>
sS 1 t56 t53 σ5 fun _ σ6 =>
sF 1 t9 fun t57 =>
sS 1 t57 t55 σ6 fun _ σ7 =>
sN (E 7) fun t60 =>
sF 4 t60 fun t61 =>
sL t61 σ7 fun t62 =>
sB .gtr t51 t62 fun t63 =>
sT t63 (vFieldAddr 2 t9) fun t65 =>
sT t63 (vLoad1 t65 σ7) fun t66 =>
sT t63 (binA .gtr .num t66 (i6 0)) fun t67 =>
sP t63 t67 (.bool false) fun t68 =>
sT t68 (vLoadN 6 t9 σ7) fun t70 =>
gE1 (isB t68 true) (fun K => C 62 [t70] σ7 K) σ7 fun t71 σ8 =>
sP t68 t71 (.bool false) fun t72 =>
WIf t72 (
Som (vLoadN 6 t9 σ8) fun t76 =>
sN (E 7) fun t79 =>
sF 5 t79 fun t80 =>
sS 6 t80 t76 σ8 fun _ σ9 =>
sN (E 7) fun t81 =>
sF 3 t81 fun t82 =>
sS 1 t82 (E 8) σ9 fun _ σ10 =>
sN (E 7) fun t83 =>
sF 4 t83 fun t84 =>
sS 1 t84 t51 σ10 fun _ σ11 =>
sB .add (E 8) (i6 1) fun t45 =>
wC C (.loop R0) (((((((((((((E.q 42 (E 8) 43 t43 47 (E 0) 48 (E 8)).q 49 t49 46 t49 50 t50 51 t51).q 9 t9 10 t51 52 (E 4) 53 t53).q 54 (E 4) 55 t55 56 t56 57 t57).q 58 t51 59 (E 7) 60 t60 61 t61).q 62 t62 63 t63 64 t63 65 t65).q 66 t66 67 t67 68 t68 69 t68).q 70 t70 71 t71 72 t72 73 (E 7)).q 74 (E 7) 75 (E 7) 76 t76 77 (E 8)).q 78 t51 79 t79 80 t80 81 t81).q 82 t82 83 t83 84 t84 44 (E 8)).set 45 t45).set 8 t45) σ11 (blockK 0 (seqK (wC C R1) (retK f29.res Q)))) (
sB .add (E 8) (i6 1) fun t45 =>
wC C (.loop R0) ((((((((((E.q 42 (E 8) 43 t43 47 (E 0) 48 (E 8)).q 49 t49 46 t49 50 t50 51 t51).q 9 t9 10 t51 52 (E 4) 53 t53).q 54 (E 4) 55 t55 56 t56 57 t57).q 58 t51 59 (E 7) 60 t60 61 t61).q 62 t62 63 t63 64 t63 65 t65).q 66 t66 67 t67 68 t68 69 t68).q 70 t70 71 t71 72 t72 44 (E 8)).set 45 t45).set 8 t45) σ8 (blockK 0 (seqK (wC C R1) (retK f29.res Q))))) (
wC C R1 ((E.set 42 (E 8)).set 43 t43) σ (retK f29.res Q))
theorem f29.p0_eq {R0 R1 : PC} : f29.p0 C Q R0 R1 E σ = wC C f29.c0 E σ (loopK C R0 (blockK 0 (seqK (wC C R1) (retK f29.res Q)))) := by kernel_rfl
abbrev f29.L0 (C : CW) (Q : AVal → S → Prop) (E : En) (σ : S) : Prop := wC C (.loop f29.c0) E σ (blockK 0 (seqK (wC C f29.c1) (retK f29.res Q)))
theorem f29.p0_of (h : f29.p0 (WF tab) Q f29.c0 f29.c1 E σ) : f29.L0 (WF tab) Q E σ := wLoop_step (Eq.mp f29.p0_eq h)
noncomputable def f29.body (R0 R1 : PC) : PC := (so [oq 2 (.mov (.val .nptr)), oq 3 (.mov (oi 0))] (so [om 14 0, oe 15 (.call 58 [14]), om 13 15, oq 16 (.extract 0 13), oq 17 (.extract 1 13), om 4 16, om 5 17] (.seq (so [om 18 5, ob 19 .neq 18 (oi 0)] (.cond 19 (so [om 20 5, oq 2 (.mov (.val .nptr)), om 3 20] .ret) .skip)) (so [om 22 0, oe 23 (.call 12 [22]), om 21 23, oq 24 (.extract 0 21), oq 25 (.extract 1 21), om 6 24, om 5 25] (.seq (so [om 26 5, ob 27 .neq 26 (oi 0)] (.cond 27 (so [om 28 5, oq 2 (.mov (.val .nptr)), om 3 28] .ret) .skip)) (so [om 29 4, om 30 6, om 31 0, oq 32 (.build [.nptr, .nptr, .nptr, (i6 0), (i6 0), (i6 0), (i6 0), (i6 0), (i6 0), (.str []), .nsl, (i6 0)] [(0, 1, 29), (1, 1, 30), (2, 1, 31), (3, 1, (oi 5))]), oa 33 (.box 32), om 7 33] (so [om 34 7, om 35 4, oe 36 (.call 59 [35]), om 37 4, oe 38 (.call 60 [37]), oq 39 (.build [(i6 0), (i6 0), (i6 0), (i6 0), (.str []), .nsl] [(0, 1, 36), (1, 1, 38)]), on 40 34, ox 41 5 40, os (.store 6 41 39)] (.seq (so [oq 8 (.mov (oi 4))] (.block 0 (.loop R0))) R1))))))))
noncomputable def f29.fn : PFn := .code (slotsN 129) (f29.body f29.c0 f29.c1) f29.res
noncomputable def f29 (C : CW) (R0 R1 : PC) (a0 : AVal) (σ : S) (Q : AVal → S → Prop) : Prop :=
C 58 [a0] σ fun t15 σ1 =>
Som (vExtract 0 t15) fun t16 =>
Som (vExtract 1 t15) fun t17 =>
sB .neq t17 (i6 0) fun t19 =>
WIf t19 (
Ret [some .nptr, some t17] σ1 Q) (
C 12 [a0] σ1 fun t23 σ2 =>
Som (vExtract 0 t23) fun t24 =>
Som (vExtract 1 t23) fun t25 =>
sB .neq t25 (i6 0) fun t27 =>
WIf t27 (
Ret [some .nptr, some t25] σ2 Q) (
Som (vBuild [.nptr, .nptr, .nptr, (i6 0), (i6 0), (i6 0), (i6 0), (i6 0), (i6 0), (.str []), .nsl, (i6 0)] [(0, 1, t16), (1, 1, t24), (2, 1, a0), (3, 1, (i6 5))]) fun t32 =>
Ala (aBoxV t32) σ2 fun t33 σ3 =>
C 59 [t16] σ3 fun t36 σ4 =>
C 60 [t16] σ4 fun t38 σ5 =>
Som (vBuild [(i6 0), (i6 0), (i6 0), (i6 0), (.str []), .nsl] [(0, 1, t36), (1, 1, t38)]) fun t39 =>
sN t33 fun t40 =>
sF 5 t40 fun t41 =>
sS 6 t41 t39 σ5 fun _ σ6 =>
wC C (.loop R0) (((((((((E0.q 0 a0 2 .nptr 3 (i6 0) 14 a0).q 15 t15 13 t15 16 t16 17 t17).q 4 t16 5 t17 18 t17 19 t19).q 22 a0 23 t23 21 t23 24 t24).q 25 t25 6 t24 5 t25 26 t25).q 27 t27 29 t16 30 t24 31 a0).q 32 t32 33 t33 7 t33 34 t33).q 35 t16 36 t36 37 t16 38 t38).q 39 t39 40 t40 41 t41 8 (i6 4)) σ6 (blockK 0 (seqK (wC C R1) (retK f29.res Q)))))
theorem f29_eq {R0 R1 : PC} {a0 : AVal} : f29 C R0 R1 a0 σ Q = wC C (f29.body R0 R1) (E0.set 0 a0) σ (retK f29.res Q) := by kernel_rfl
theorem f29_wf (ht : tab 29 = some f29.fn) {a0 : AVal} (h : f29 (WF tab) f29.c0 f29.c1 a0 σ Q) : WF tab 29 [a0] σ Q := wf_of ht (by kernel_rfl) f29_eq h
noncomputable def f31.c0 : PC := (.seq (so [om 80 4, ox 81 5 1, ol 82 81, oq 83 (.lenSl 82), ob 84 .lss 80 83] (.cond 84 .skip (.exit 0))) (.seq (.block 1 (.seq (.seq (.draw 38 [⟨0, ox 87 5 1, []⟩, ⟨1, ol 88 87, []⟩, ⟨2, om 89 4, []⟩, ⟨3, oq 90 (.ixSl 2 88 89), []⟩, ⟨4, ox 91 0 90, []⟩, ⟨5, ol 92 91, []⟩, ⟨6, om 93 3, []⟩, ⟨7, ob 94 .lss 92 93, []⟩, ⟨8, om 95 94, []⟩, ⟨9, oqg 96 95 false (.fieldAddr 5 1), []⟩, ⟨10, oqg 97 95 false (.load1 96), []⟩, ⟨11, oqg 98 95 false (.mov 4), []⟩, ⟨12, oqg 99 95 false (.ixSl 2 97 98), []⟩, ⟨13, oqg 100 95 false (.fieldAddr 0 99), []⟩, ⟨14, oqg 101 95 false (.load1 100), []⟩, ⟨15, oqg 102 95 false (.bin .lss .num 101 (oi 1)), []⟩, ⟨16, oq 103 (.pick 95 oT 102), []⟩, ⟨17, om 104 103, []⟩, ⟨18, oqg 105 104 false (.fieldAddr 5 1), []⟩, ⟨19, oqg 106 104 false (.load1 105), []⟩, ⟨20, oqg 107 104 false (.mov 4), []⟩, ⟨21, oqg 108 104 false (.ixSl 2 106 107), []⟩, ⟨22, oqg 109 104 false (.fieldAddr 0 108), []⟩, ⟨23, oqg 110 104 false (.load1 109), []⟩, ⟨24, oqg 111 104 false (.fieldAddr 0 1), []⟩, ⟨25, oqg 112 104 false (.load1 111), []⟩, ⟨26, oqg 113 104 false (.bin .gtr .num 110 112), []⟩, ⟨27, oq 114 (.pick 104 oT 113), []⟩, ⟨28, om 115 114, []⟩, ⟨29, oqg 116 115 false (.fieldAddr 5 1), []⟩, ⟨30, oqg 117 115 false (.load1 116), []⟩, ⟨31, oqg 118 115 false (.mov 4), []⟩, ⟨32, oqg 119 115 false (.ixSl 2 117 118), []⟩, ⟨33, oqg 120 115 false (.fieldAddr 1 119), []⟩, ⟨34, oqg 121 115 false (.load1 120), []⟩, ⟨35, oqg 122 115 false (.lenStr 121), []⟩, ⟨36, oqg 123 115 false (.bin .gtr .num 122 (oi 16184)), []⟩, ⟨37, oq 124 (.pick 115 oT 123), []⟩]) (.cond 124 (so [oq 2 (.mov oF)] .ret) .skip)) (.ops [ox 125 5 1, ol 126 125, om 127 4, oq 128 (.ixSl 2 126 127), ox 129 0 128, ol 130 129, om 3 130]))) (.ops [om 85 4, ob 86 .add 85 (oi 1), om 4 86])))
noncomputable def f31.res : List PRes := [.tmp (sn 2)]
noncomputable def f31.p0 (C : CW) (Q : AVal → S → Prop) (R0 : PC) (E : En) (σ : S) : Prop :=
sF 5 (E 1) fun t81 =>
sL t81 σ fun t82 =>
Som (vLenSl t82) fun t83 =>
sB .lss (E 4) t83 fun t84 =>
WIf t84 (
sF 5 (E 1) fun t87 =>
sL t87 (σ.bumpT 38) fun t88 =>
Som (vIxSl 2 t88 (E 4)) fun t90 =>
sF 0 t90 fun t91 =>
sL t91 (σ.bumpT 38) fun t92 =>
sB .lss t92 (E 3) fun t94 =>
sU t94 (vFieldAddr 5 (E 1)) fun t96 =>
sU t94 (vLoad1 t96 (σ.bumpT 38)) fun t97 =>
sU t94 (some (E 4)) fun t98 =>
sU t94 (vIxSl 2 t97 t98) fun t99 =>
sU t94 (vFieldAddr 0 t99) fun t100 =>
sU t94 (vLoad1 t100 (σ.bumpT 38)) fun t101 =>
sU t94 (binA .lss .num t101 (i6 1)) fun t102 =>
sP t94 (.bool true) t102 fun t103 =>
sU t103 (vFieldAddr 5 (E 1)) fun t105 =>
sU t103 (vLoad1 t105 (σ.bumpT 38)) fun t106 =>
sU t103 (some (E 4)) fun t107 =>
sU t103 (vIxSl 2 t106 t107) fun t108 =>
sU t103 (vFieldAddr 0 t108) fun t109 =>
sU t103 (vLoad1 t109 (σ.bumpT 38)) fun t110 =>
sU t103 (vFieldAddr 0 (E 1)) fun t111 =>
sU t103 (vLoad1 t111 (σ.bumpT 38)) fun t112 =>
sU t103 (binA .gtr .num t110 t112) fun t113 =>
sP t103 (.bool true) t113 fun t114 =>
sU t114 (vFieldAddr 5 (E 1)) fun t116 =>
sU t114 (vLoad1 t116 (σ.bumpT 38)) fun t117 =>
sU t114 (some (E 4)) fun t118 =>
sU t114 (vIxSl 2 t117 t118) fun t119 =>
sU t114 (vFieldAddr 1 t119) fun t120 =>
sU t114 (vLoad1 t120 (σ.bumpT 38)) fun t121 =>
sU t114 (vLenStr t121) fun t122 =>
sU t114 (binA .gtr .num t122 (i6 16184)) fun t123 =>
sP t114 (.bool true) t123 fun t124 =>
WIf t124 (
Ret [some (.bool false)] (σ.bumpT 38) Q) (
sF 5 (E 1) fun t125 =>
sL t125 (σ.bumpT 38) fun t126 =>
Som (vIxSl 2 t126 (E 4)) fun t128 =>
sF 0 t128 fun t129 =>
sL t129 (σ.bumpT 38) fun t130 =>
sB .add (E 4) (i6 1) fun t86 =>
wC C (.loop R0) ((((((((((((((E.q 80 (E 4) 81 t81 82 t82 83 t83).q 84 t84 87 t87 88 t88 89 (E 4)).q 90 t90 91 t91 92 t92 93 (E 3)).q 94 t94 95 t94 96 t96 97 t97).q 98 t98 99 t99 100 t100 101 t101).q 102 t102 103 t103 104 t103 105 t105).q 106 t106 107 t107 108 t108 109 t109).q 110 t110 111 t111 112 t112 113 t113).q 114 t114 115 t114 116 t116 117 t117).q 118 t118 119 t119 120 t120 121 t121).q 122 t122 123 t123 124 t124 125 t125).q 126 t126 127 (E 4) 128 t128 129 t129).q 130 t130 3 t130 85 (E 4) 86 t86).set 4 t86) (σ.bumpT 38) (blockK 0 (seqK (wC C (so [oq 2 (.mov oT)] .ret)) (retK f31.res Q))))) (
Ret [some (.bool true)] σ Q)
theorem f31.p0_eq {R0 : PC} : f31.p0 C Q R0 E σ = wC C f31.c0 E σ (loopK C R0 (blockK 0 (seqK (wC C (so [oq 2 (.mov oT)] .ret)) (retK f31.res Q)))) := by kernel_rfl
abbrev f31.L0 (C : CW) (Q : AVal → S → Prop) (E : En) (σ : S) : Prop := wC C (.loop f31.c0) E σ (blockK 0 (seqK (wC C (so [oq 2 (.mov oT)] .ret)) (retK f31.res Q)))
theorem f31.p0_of (h : f31.p0 (WF tab) Q f31.c0 E σ) : f31.L0 (WF tab) Q E σ := wLoop_step (Eq.mp f31.p0_eq h)
noncomputable def f31.body (R0 : PC) : PC := (so [oa 1 (.box 0), oq 2 (.mov oF)] (.seq (so [ox 5 0 1, ol 6 5, ob 7 .lss 6 (oi 0), om 8 7, oqg 9 8 false (.fieldAddr 0 1), oqg 10 8 false (.load1 9), oqg 11 8 false (.bin .gtr .num 10 (oi 1099511627776)), oq 12 (.pick 8 oT 11), om 13 12, oqg 14 13 false (.fieldAddr 1 1), oqg 15 13 false (.load1 14), oqg 16 13 false (.bin .lss .num 15 (.val (.int .i64 (-1)))), oq 17 (.pick 13 oT 16), om 18 17, oqg 19 18 false (.fieldAddr 1 1), oqg 20 18 false (.load1 19), oqg 21 18 false (.bin .geq .num 20 (oi 7)), oq 22 (.pick 18 oT 21), om 23 22, oqg 24 23 false (.fieldAddr 2 1), oqg 25 23 false (.load1 24), oqg 26 23 false (.bin .lss .num 25 (oi 0)), oq 27 (.pick 23 oT 26), om 28 27, oqg 29 28 false (.fieldAddr 3 1), oqg 30 28 false (.load1 29), oqg 31 28 false (.bin .lss .num 30 (oi 0)), oq 32 (.pick 28 oT 31), om 33 32, oqg 34 33 false (.fieldAddr 3 1), oqg 35 33 false (.load1 34), oqg 36 33 false (.fieldAddr 0 1), oqg 37 33 false (.load1 36), oqg 38 33 false (.bin .gtr .num 35 37), oq 39 (.pick 33 oT 38), om 40 39, oqg 41 40 false (.fieldAddr 4 1), oqg 42 40 false (.load1 41), oqg 43 40 false (.lenStr 42), oqg 44 40 false (.bin .gtr .num 43 (oi 16284)), oq 45 (.pick 40 oT 44)] (.cond 45 (so [oq 2 (.mov oF)] .ret) .skip)) (.seq (so [ox 46 2 1, ol 47 46, ob 48 .eql 47 (oi 0), om 49 48, oqg 50 49 true (.fieldAddr 3 1), oqg 51 49 true (.load1 50), oqg 52 49 true (.bin .neq .num 51 (oi 0)), oqg 53 49 true (.mov 52), oqg 54 53 false (.fieldAddr 4 1), oqg 55 53 false (.load1 54), oqg 56 53 false (.bin .neq .num 55 (.val (.str []))), oqg 57 49 true (.pick 53 oT 56), oq 58 (.pick 49 57 oF), om 59 58, oqg 60 59 false (.fieldAddr 2 1), oqg 61 59 false (.load1 60), oqg 62 59 false (.bin .gtr .num 61 (oi 0)), oqg 63 59 false (.mov 62), oqg 64 63 true (.fieldAddr 3 1), oqg 65 63 true (.load1 64), oqg 66 63 true (.bin .eql .num 65 (oi 0)), oqg 67 59 false (.pick 63 66 oF), oq 68 (.pick 59 oT 67), om 69 68, oqg 70 69 false (.fieldAddr 2 1), oqg 71 69 false (.load1 70), oqg 72 69 false (.fieldAddr 5 1), oqg 73 69 false (.load1 72), oqg 74 69 false (.lenSl 73), oqg 75 69 false (.bin .sub .num (oi 1099511627776) 74), oqg 76 69 false (.bin .gtr .num 71 75), oq 77 (.pick 69 oT 76)] (.cond 77 (so [oq 2 (.mov oF)] .ret) .skip)) (so [ox 78 3 1, ol 79 78, om 3 79] (.seq (so [oq 4 (.mov (oi 0))] (.block 0 (.loop R0))) (so [oq 2 (.mov oT)] .ret))))))
noncomputable def f31.fn : PFn := .code (slotsN 131) (f31.body f31.c0) f31.res
noncomputable def f31 (C : CW) (R0 : PC) (a0 : AVal) (σ : S) (Q : AVal → S → Prop) : Prop :=
Ala (aBoxV a0) σ fun t1 σ1 =>
sF 0 t1 fun t5 =>
sL t5 σ1 fun t6 =>
sB .lss t6 (i6 0) fun t7 =>
sU t7 (vFieldAddr 0 t1) fun t9 =>
sU t7 (vLoad1 t9 σ1) fun t10 =>
sU t7 (binA .gtr .num t10 (i6 1099511627776)) fun t11 =>
sP t7 (.bool true) t11 fun t12 =>
sU t12 (vFieldAddr 1 t1) fun t14 =>
sU t12 (vLoad1 t14 σ1) fun t15 =>
sU t12 (binA .lss .num t15 (.int .i64 (-1))) fun t16 =>
sP t12 (.bool true) t16 fun t17 =>
sU t17 (vFieldAddr 1 t1) fun t19 =>
sU t17 (vLoad1 t19 σ1) fun t20 =>
sU t17 (binA .geq .num t20 (i6 7)) fun t21 =>
sP t17 (.bool true) t21 fun t22 =>
sU t22 (vFieldAddr 2 t1) fun t24 =>
sU t22 (vLoad1 t24 σ1) fun t25 =>
sU t22 (binA .lss .num t25 (i6 0)) fun t26 =>
sP t22 (.bool true) t26 fun t27 =>
sU t27 (vFieldAddr 3 t1) fun t29 =>
sU t27 (vLoad1 t29 σ1) fun t30 =>
sU t27 (binA .lss .num t30 (i6 0)) fun t31 =>
sP t27 (.bool true) t31 fun t32 =>
sU t32 (vFieldAddr 3 t1) fun t34 =>
sU t32 (vLoad1 t34 σ1) fun t35 =>
sU t32 (vFieldAddr 0 t1) fun t36 =>
sU t32 (vLoad1 t36 σ1) fun t37 =>
sU t32 (binA .gtr .num t35 t37) fun t38 =>
sP t32 (.bool true) t38 fun t39 =>
sU t39 (vFieldAddr 4 t1) fun t41 =>
sU t39 (vLoad1 t41 σ1) fun t42 =>
sU t39 (vLenStr t42) fun t43 =>
sU t39 (binA .gtr .num t43 (i6 16284)) fun t44 =>
sP t39 (.bool true) t44 fun t45 =>
WIf t45 (
Ret [some (.bool false)] σ1 Q) (
sF 2 t1 fun t46 =>
sL t46 σ1 fun t47 =>
sB .eql t47 (i6 0) fun t48 =>
sT t48 (vFieldAddr 3 t1) fun t50 =>
sT t48 (vLoad1 t50 σ1) fun t51 =>
sT t48 (binA .neq .num t51 (i6 0)) fun t52 =>
sT t48 (some t52) fun t53 =>
sU t53 (vFieldAddr 4 t1) fun t54 =>
sU t53 (vLoad1 t54 σ1) fun t55 =>
sU t53 (binA .neq .num t55 (.str [])) fun t56 =>
sT t48 (vPick t53 (.bool true) t56) fun t57 =>
sP t48 t57 (.bool false) fun t58 =>
sU t58 (vFieldAddr 2 t1) fun t60 =>
sU t58 (vLoad1 t60 σ1) fun t61 =>
sU t58 (binA .gtr .num t61 (i6 0)) fun t62 =>
sU t58 (some t62) fun t63 =>
sT t63 (vFieldAddr 3 t1) fun t64 =>
sT t63 (vLoad1 t64 σ1) fun t65 =>
sT t63 (binA .eql .num t65 (i6 0)) fun t66 =>
sU t58 (vPick t63 t66 (.bool false)) fun t67 =>
sP t58 (.bool true) t67 fun t68 =>
sU t68 (vFieldAddr 2 t1) fun t70 =>
sU t68 (vLoad1 t70 σ1) fun t71 =>
sU t68 (vFieldAddr 5 t1) fun t72 =>
sU t68 (vLoad1 t72 σ1) fun t73 =>
sU t68 (vLenSl t73) fun t74 =>
sU t68 (binA .sub .num (i6 1099511627776) t74) fun t75 =>
sU t68 (binA .gtr .num t71 t75) fun t76 =>
sP t68 (.bool true) t76 fun t77 =>
WIf t77 (
Ret [some (.bool false)] σ1 Q) (
sF 3 t1 fun t78 =>
sL t78 σ1 fun t79 =>
wC C (.loop R0) ((((((((((((((((((((E0.q 0 a0 1 t1 2 (.bool false) 5 t5).q 6 t6 7 t7 8 t7 9 t9).q 10 t10 11 t11 12 t12 13 t12).q 14 t14 15 t15 16 t16 17 t17).q 18 t17 19 t19 20 t20 21 t21).q 22 t22 23 t22 24 t24 25 t25).q 26 t26 27 t27 28 t27 29 t29).q 30 t30 31 t31 32 t32 33 t32).q 34 t34 35 t35 36 t36 37 t37).q 38 t38 39 t39 40 t39 41 t41).q 42 t42 43 t43 44 t44 45 t45).q 46 t46 47 t47 48 t48 49 t48).q 50 t50 51 t51 52 t52 53 t53).q 54 t54 55 t55 56 t56 57 t57).q 58 t58 59 t58 60 t60 61 t61).q 62 t62 63 t63 64 t64 65 t65).q 66 t66 67 t67 68 t68 69 t68).q 70 t70 71 t71 72 t72 73 t73).q 74 t74 75 t75 76 t76 77 t77).q 78 t78 79 t79 3 t79 4 (i6 0)) σ1 (blockK 0 (seqK (wC C (so [oq 2 (.mov oT)] .ret)) (retK f31.res Q)))))
theorem f31_eq {R0 : PC} {a0 : AVal} : f31 C R0 a0 σ Q = wC C (f31.body R0) (E0.set 0 a0) σ (retK f31.res Q) := by kernel_rfl
theorem f31_wf (ht : tab 31 = some f31.fn) {a0 : AVal} (h : f31 (WF tab) f31.c0 a0 σ Q) : WF tab 31 [a0] σ Q := wf_of ht (by kernel_rfl) f31_eq h
noncomputable def f32.res : List PRes := [.cellN 6 (sn 2)]
noncomputable def f32.body : PC := (so [oa 2 (.alloc [(i6 0), (i6 0), (i6 0), (i6 0), (.str []), .nsl])] (so [om 3 0, on 4 3, ox 5 5 4, oq 6 (.loadN 6 5), oe 7 (.call 68 [6]), os (.store 6 2 7)] .ret))
noncomputable def f32.fn : PFn := .code (slotsN 8) f32.body f32.res
noncomputable def f32 (C : CW) (a0 : AVal) (σ : S) (Q : AVal → S → Prop) : Prop :=
Ala (aAllocV [(i6 0), (i6 0), (i6 0), (i6 0), (.str []), .nsl]) σ fun t2 σ1 =>
sN a0 fun t4 =>
sF 5 t4 fun t5 =>
Som (vLoadN 6 t5 σ1) fun t6 =>
C 68 [t6] σ1 fun t7 σ2 =>
sS 6 t2 t7 σ2 fun _ σ3 =>
Ret [vLoadN 6 t2 σ3] σ3 Q
theorem f32_eq {a0 : AVal} : f32 C a0 σ Q = wC C f32.body (E0.set 0 a0) σ (retK f32.res Q) := by kernel_rfl
theorem f32_wf (ht : tab 32 = some f32.fn) {a0 : AVal} (h : f32 (WF tab) a0 σ Q) : WF tab 32 [a0] σ Q := wf_of ht (by kernel_rfl) f32_eq h
noncomputable def f33.res : List PRes := [.tmp (sn 4)]
noncomputable def f33.body : PC := (so [oa 3 (.box 1), oq 4 (.mov (oi 0))] (so [om 7 0, on 8 7, ox 9 5 8, oq 10 (.loadN 6 9), oa 5 (.alloc [(i6 0), (i6 0), (i6 0), (i6 0), (.str []), .nsl]), os (.store 6 5 10)] (.seq (so [oq 11 (.loadN 6 5), oq 12 (.loadN 6 3), oe 13 (.call 69 [11, 12]), oq 14 (.un .not 13)] (.cond 14 (so [oq 4 (.mov (oi 1))] .ret) .skip)) (.seq (so [om 15 0, on 16 15, ox 17 11 16, ol 18 17, ob 19 .neq 18 (oi 0)] (.cond 19 (so [om 20 0, on 21 20, ox 22 11 21, ol 23 22, om 4 23] .ret) .skip)) (.seq (so [om 24 0, oq 25 (.loadN 6 3), oe 26 (.call 70 [24, 25]), om 6 26] (so [om 27 6, ob 28 .neq 27 (oi 0)] (.cond 28 (so [om 29 0, oq 30 (.loadN 6 5), on 31 29, ox 32 5 31, os (.store 6 32 30)] (so [om 33 0, om 34 6, on 35 33, ox 36 11 35, os (.store 1 36 34)] (so [om 37 6, om 4 37] .ret))) .skip))) (so [om 38 0, oq 39 (.loadN 6 3), oe 40 (.call 68 [39]), on 41 38, ox 42 5 41, os (.store 6 42 40)] (so [oq 4 (.mov (oi 0))] .ret)))))))
noncomputable def f33.fn : PFn := .code (slotsN 43) f33.body f33.res
noncomputable def f33 (C : CW) (a0 a1 : AVal) (σ : S) (Q : AVal → S → Prop) : Prop :=
Ala (aBoxV a1) σ fun t3 σ1 =>
sN a0 fun t8 =>
sF 5 t8 fun t9 =>
Som (vLoadN 6 t9 σ1) fun t10 =>
Ala (aAllocV [(i6 0), (i6 0), (i6 0), (i6 0), (.str []), .nsl]) σ1 fun t5 σ2 =>
sS 6 t5 t10 σ2 fun _ σ3 =>
Som (vLoadN 6 t5 σ3) fun t11 =>
Som (vLoadN 6 t3 σ3) fun t12 =>
C 69 [t11, t12] σ3 fun t13 σ4 =>
Som (unA .not t13) fun t14 =>
WIf t14 (
Ret [some (i6 1)] σ4 Q) (
sN a0 fun t16 =>
sF 11 t16 fun t17 =>
sL t17 σ4 fun t18 =>
sB .neq t18 (i6 0) fun t19 =>
WIf t19 (
sN a0 fun t21 =>
sF 11 t21 fun t22 =>
sL t22 σ4 fun t23 =>
Ret [some t23] σ4 Q) (
Som (vLoadN 6 t3 σ4) fun t25 =>
C 70 [a0, t25] σ4 fun t26 σ5 =>
sB .neq t26 (i6 0) fun t28 =>
WIf t28 (
Som (vLoadN 6 t5 σ5) fun t30 =>
sN a0 fun t31 =>
sF 5 t31 fun t32 =>
sS 6 t32 t30 σ5 fun _ σ6 =>
sN a0 fun t35 =>
sF 11 t35 fun t36 =>
sS 1 t36 t26 σ6 fun _ σ7 =>
Ret [some t26] σ7 Q) (
Som (vLoadN 6 t3 σ5) fun t39 =>
C 68 [t39] σ5 fun t40 σ6 =>
sN a0 fun t41 =>
sF 5 t41 fun t42 =>
sS 6 t42 t40 σ6 fun _ σ7 =>
Ret [some (i6 0)] σ7 Q)))
theorem f33_eq {a0 a1 : AVal} : f33 C a0 a1 σ Q = wC C f33.body ((E0.set 0 a0).set 1 a1) σ (retK f33.res Q) := by kernel_rfl
theorem f33_wf (ht : tab 33 = some f33.fn) {a0 a1 : AVal} (h : f33 (WF tab) a0 a1 σ Q) : WF tab 33 [a0, a1] σ Q := wf_of ht (by kernel_rfl) f33_eq h
noncomputable def f34.c5 : PC := (so [oq 163 (.loadN 6 5), os (.store 6 4 163)] .ret)
noncomputable def f34.c4 : PC := (.seq (.draw 11 [⟨0, ox 138 7 3, []⟩, ⟨1, ol 139 138, []⟩, ⟨2, om 140 7, []⟩, ⟨3, oq 141 (.ixSl 2 139 140), []⟩, ⟨4, ox 142 0 141, []⟩, ⟨5, ol 143 142, []⟩, ⟨6, om 144 8, []⟩, ⟨7, ox 145 0 5, []⟩, ⟨8, ol 146 145, []⟩, ⟨9, oe 147 (.call 11 [143, 144, 146]), []⟩, ⟨10, om 8 147, []⟩]) (.seq (so [om 148 8, ob 149 .lss 148 (oi 1)] (.cond 149 (.exit 0) .skip)) (.draw 14 [⟨0, ox 150 5 5, []⟩, ⟨1, ol 151 150, []⟩, ⟨2, om 152 8, []⟩, ⟨3, ox 153 7 3, []⟩, ⟨4, ol 154 153, []⟩, ⟨5, om 155 7, []⟩, ⟨6, oq 156 (.ixSl 2 154 155), []⟩, ⟨7, ox 157 1 156, []⟩, ⟨8, ol 158 157, []⟩, ⟨9, oq 159 (.build [(i6 0), (.str [])] [(0, 1, 152), (1, 1, 158)]), []⟩, ⟨10, oa 160 (.bslice 2 [(i6 0), (.str [])] 1 [(0, 2, 159)]), []⟩, ⟨11, oe 161 (.append 2 24 151 160), []⟩, ⟨12, ox 162 5 5, []⟩, ⟨13, os (.store 1 162 161), []⟩])))
noncomputable def f34.t3 (R4 : PC) : PC := (.seq (so [om 112 7, ox 113 7 3, ol 114 113, oq 115 (.lenSl 114), ob 116 .lss 112 115, om 117 116, oqg 118 117 true (.mov 7), oqg 119 117 true (.bin .lss .num 118 (oi 5)), oq 120 (.pick 117 119 oF)] (.cond 120 .skip (.exit 0))) (.seq (.block 1 (so [ox 123 3 5, ol 124 123, om 8 124] (.seq (so [ox 125 5 5, ol 126 125, oq 127 (.lenSl 126), ob 128 .gtr 127 (oi 0)] (.cond 128 (.ops [ox 129 5 5, ol 130 129, ox 131 5 5, ol 132 131, oq 133 (.lenSl 132), ob 134 .sub 133 (oi 1), oq 135 (.ixSl 2 130 134), ox 136 0 135, ol 137 136, om 8 137]) .skip)) R4))) (.ops [om 121 7, ob 122 .add 121 (oi 1), om 7 122])))
noncomputable def f34.c3 : PC := f34.t3 f34.c4
noncomputable def f34.t2 (R3 R5 : PC) : PC := (.seq (so [oq 7 (.mov (oi 0))] (.block 0 (.loop R3))) R5)
noncomputable def f34.c2 : PC := f34.t2 f34.c3 f34.c5
noncomputable def f34.t1 (R2 : PC) : PC := (.seq (so [ox 95 5 3, ol 96 95, ob 97 .geq 96 (oi 0), om 98 97, oqg 99 98 true (.fieldAddr 5 3), oqg 100 98 true (.load1 99), oqg 101 98 true (.fieldAddr 5 5), oqg 102 98 true (.load1 101), oqg 103 98 true (.lenSl 102), oqg 104 98 true (.bin .lss .num 100 103), oq 105 (.pick 98 104 oF)] (.cond 105 (.ops [ox 106 5 5, ol 107 106, ox 108 5 3, ol 109 108, oq 110 (.slSl 2 107 none (some 109) none), ox 111 5 5, os (.store 1 111 110)]) .skip)) R2)
noncomputable def f34.c1 : PC := f34.t1 f34.c2
noncomputable def f34.t0 (R1 : PC) : PC := (so [ox 40 3 3, ol 41 40, oe 42 (.call 11 [41, (oi 0), (oi 9)]), om 6 42] (.seq (so [om 43 6, ob 44 .gtr 43 (oi 0), om 45 44, oqg 46 45 true (.mov 6), oqg 47 45 true (.fieldAddr 5 5), oqg 48 45 true (.load1 47), oqg 49 45 true (.lenSl 48), oqg 50 45 true (.bin .leq .num 46 49), oq 51 (.pick 45 50 oF)] (.cond 51 (.seq (.draw 19 [⟨0, ox 52 2 5, []⟩, ⟨1, ol 53 52, []⟩, ⟨2, om 54 6, []⟩, ⟨3, ob 55 .add 53 54, []⟩, ⟨4, ox 56 5 5, []⟩, ⟨5, ol 57 56, []⟩, ⟨6, om 58 6, []⟩, ⟨7, ob 59 .sub 58 (oi 1), []⟩, ⟨8, oq 60 (.ixSl 2 57 59), []⟩, ⟨9, ox 61 0 60, []⟩, ⟨10, ol 62 61, []⟩, ⟨11, ox 63 8 3, []⟩, ⟨12, ol 64 63, []⟩, ⟨13, ox 65 2 5, []⟩, ⟨14, os (.store 1 65 55), [ol 62 61, ol 64 63]⟩, ⟨15, ox 66 3 5, []⟩, ⟨16, os (.store 1 66 62), [ol 64 63]⟩, ⟨17, ox 67 4 5, []⟩, ⟨18, os (.store 1 67 64), []⟩]) (.ops [ox 68 5 5, ol 69 68, om 70 6, oq 71 (.slSl 2 69 (some 70) none none), ox 72 5 5, os (.store 1 72 71)])) (so [om 73 6, ob 74 .eql 73 (oi 9), om 75 74, oqg 76 75 true (.fieldAddr 0 5), oqg 77 75 true (.load1 76), oqg 78 75 true (.bin .gtr .num 77 (oi 0)), oq 79 (.pick 75 78 oF)] (.cond 79 (.draw 19 [⟨0, ox 80 2 5, []⟩, ⟨1, ol 81 80, []⟩, ⟨2, ox 82 5 5, []⟩, ⟨3, ol 83 82, []⟩, ⟨4, oq 84 (.lenSl 83), []⟩, ⟨5, ob 85 .add 81 84, []⟩, ⟨6, ob 86 .add 85 (oi 2), []⟩, ⟨7, ox 87 0 5, []⟩, ⟨8, ol 88 87, []⟩, ⟨9, ox 89 8 3, []⟩, ⟨10, ol 90 89, []⟩, ⟨11, ox 91 2 5, []⟩, ⟨12, os (.store 1 91 86), [ol 90 89]⟩, ⟨13, ox 92 3 5, []⟩, ⟨14, os (.store 1 92 88), [ol 90 89]⟩, ⟨15, ox 93 4 5, []⟩, ⟨16, os (.store 1 93 90), []⟩, ⟨17, ox 94 5 5, []⟩, ⟨18, os (.store 1 94 (.val .nsl)), []⟩]) .skip)))) R1))
noncomputable def f34.c0 : PC := f34.t0 f34.c1
noncomputable def f34.res : List PRes := [.cellN 6 (sn 4)]
noncomputable def f34.p5 (C : CW) (Q : AVal → S → Prop) (E : En) (σ : S) : Prop :=
Som (vLoadN 6 (E 5) σ) fun t163 =>
sS 6 (E 4) t163 σ fun _ σ1 =>
Ret [vLoadN 6 (E 4) σ1] σ1 Q
theorem f34.p5_eq : f34.p5 C Q E σ = wC C f34.c5 E σ (retK f34.res Q) := by kernel_rfl
abbrev f34.J5 (C : CW) (Q : AVal → S → Prop) (E : En) (σ : S) : Prop := wC C f34.c5 E σ (retK f34.res Q)
theorem f34.p5_of (h : f34.p5 C Q E σ) : f34.J5 C Q E σ := Eq.mp f34.p5_eq h
noncomputable def f34.p4 (C : CW) (Q : AVal → S → Prop) (R5 R3 : PC) (E : En) (σ : S) : Prop :=
sF 7 (E 3) fun t138 =>
sL t138 (σ.bumpT 11) fun t139 =>
Som (vIxSl 2 t139 (E 7)) fun t141 =>
sF 0 t141 fun t142 =>
sL t142 (σ.bumpT 11) fun t143 =>
sF 0 (E 5) fun t145 =>
sL t145 (σ.bumpT 11) fun t146 =>
C 11 [t143, (E 8), t146] (σ.bumpT 11) fun t147 σ1 =>
sB .lss t147 (i6 1) fun t149 =>
WIf t149 (
wC C R5 ((((E.q 138 t138 139 t139 140 (E 7) 141 t141).q 142 t142 143 t143 144 (E 8) 145 t145).q 146 t146 147 t147 8 t147 148 t147).set 149 t149) σ1 (retK f34.res Q)) (
sF 5 (E 5) fun t150 =>
sL t150 (σ1.bumpT 14) fun t151 =>
sF 7 (E 3) fun t153 =>
sL t153 (σ1.bumpT 14) fun t154 =>
Som (vIxSl 2 t154 (E 7)) fun t156 =>
sF 1 t156 fun t157 =>
sL t157 (σ1.bumpT 14) fun t158 =>
Som (vBuild [(i6 0), (.str [])] [(0, 1, t147), (1, 1, t158)]) fun t159 =>
Alb (aSliceV 2 [(i6 0), (.str [])] 1 [(0, 2, t159)]) (Pos.plusT 10 σ1.next) (σ1.bumpT 14) fun t160 σ2 =>
Eff (appendA 2 24 t151 t160 σ2) fun t161 σ3 =>
sF 5 (E 5) fun t162 =>
sS 1 t162 t161 σ3 fun _ σ4 =>
sB .add (E 7) (i6 1) fun t122 =>
wC C (.loop R3) ((((((((E.q 138 t138 139 t139 140 (E 7) 141 t141).q 142 t142 143 t143 144 (E 8) 145 t145).q 146 t146 147 t147 8 t147 148 t147).q 149 t149 150 t150 151 t151 152 t147).q 153 t153 154 t154 155 (E 7) 156 t156).q 157 t157 158 t158 159 t159 160 t160).q 161 t161 162 t162 121 (E 7) 122 t122).set 7 t122) σ4 (blockK 0 (seqK (wC C R5) (retK f34.res Q))))
theorem f34.p4_eq {R5 R3 : PC} : f34.p4 C Q R5 R3 E σ = wC C f34.c4 E σ (blockK 1 (seqK (wC C (.ops [om 121 7, ob 122 .add 121 (oi 1), om 7 122])) (loopK C R3 (blockK 0 (seqK (wC C R5) (retK f34.res Q)))))) := by kernel_rfl
abbrev f34.J4 (C : CW) (Q : AVal → S → Prop) (E : En) (σ : S) : Prop := wC C f34.c4 E σ (blockK 1 (seqK (wC C (.ops [om 121 7, ob 122 .add 121 (oi 1), om 7 122])) (loopK C f34.c3 (blockK 0 (seqK (wC C f34.c5) (retK f34.res Q))))))
theorem f34.p4_of (h : f34.p4 C Q f34.c5 f34.c3 E σ) : f34.J4 C Q E σ := Eq.mp f34.p4_eq h
noncomputable def f34.p3 (C : CW) (Q : AVal → S → Prop) (R4 R3 R5 : PC) (E : En) (σ : S) : Prop :=
sF 7 (E 3) fun t113 =>
sL t113 σ fun t114 =>
Som (vLenSl t114) fun t115 =>
sB .lss (E 7) t115 fun t116 =>
sT t116 (some (E 7)) fun t118 =>
sT t116 (binA .lss .num t118 (i6 5)) fun t119 =>
sP t116 t119 (.bool false) fun t120 =>
WIf t120 (
sF 3 (E 5) fun t123 =>
sL t123 σ fun t124 =>
sF 5 (E 5) fun t125 =>
sL t125 σ fun t126 =>
Som (vLenSl t126) fun t127 =>
sB .gtr t127 (i6 0) fun t128 =>
WIf t128 (
sF 5 (E 5) fun t129 =>
sL t129 σ fun t130 =>
sF 5 (E 5) fun t131 =>
sL t131 σ fun t132 =>
Som (vLenSl t132) fun t133 =>
sB .sub t133 (i6 1) fun t134 =>
Som (vIxSl 2 t130 t134) fun t135 =>
sF 0 t135 fun t136 =>
sL t136 σ fun t137 =>
wC C R4 ((((((((E.q 112 (E 7) 113 t113 114 t114 115 t115).q 116 t116 117 t116 118 t118 119 t119).q 120 t120 123 t123 124 t124 8 t124).q 125 t125 126 t126 127 t127 128 t128).q 129 t129 130 t130 131 t131 132 t132).q 133 t133 134 t134 135 t135 136 t136).set 137 t137).set 8 t137) σ (blockK 1 (seqK (wC C (.ops [om 121 7, ob 122 .add 121 (oi 1), om 7 122])) (loopK C R3 (blockK 0 (seqK (wC C R5) (retK f34.res Q))))))) (
wC C R4 ((((E.q 112 (E 7) 113 t113 114 t114 115 t115).q 116 t116 117 t116 118 t118 119 t119).q 120 t120 123 t123 124 t124 8 t124).q 125 t125 126 t126 127 t127 128 t128) σ (blockK 1 (seqK (wC C (.ops [om 121 7, ob 122 .add 121 (oi 1), om 7 122])) (loopK C R3 (blockK 0 (seqK (wC C R5) (retK f34.res Q)))))))) (
wC C R5 (((E.q 112 (E 7) 113 t113 114 t114 115 t115).q 116 t116 117 t116 118 t118 119 t119).set 120 t120) σ (retK f34.res Q))
theorem f34.p3_eq {R4 R3 R5 : PC} : f34.p3 C Q R4 R3 R5 E σ = wC C (f34.t3 R4) E σ (loopK C R3 (blockK 0 (seqK (wC C R5) (retK f34.res Q)))) := by kernel_rfl
abbrev f34.L3 (C : CW) (Q : AVal → S → Prop) (E : En) (σ : S) : Prop := wC C (.loop f34.c3) E σ (blockK 0 (seqK (wC C f34.c5) (retK f34.res Q)))
theorem f34.p3_of (h : f34.p3 (WF tab) Q f34.c4 f34.c3 f34.c5 E σ) : f34.L3 (WF tab) Q E σ := wLoop_step (Eq.mp f34.p3_eq h)
noncomputable def f34.p2 (C : CW) (Q : AVal → S → Prop) (R3 R5 : PC) (E : En) (σ : S) : Prop :=
wC C (.loop R3) (E.set 7 (i6 0)) σ (blockK 0 (seqK (wC C R5) (retK f34.res Q)))
theorem f34.p2_eq {R3 R5 : PC} : f34.p2 C Q R3 R5 E σ = wC C (f34.t2 R3 R5) E σ (retK f34.res Q) := by kernel_rfl
abbrev f34.J2 (C : CW) (Q : AVal → S → Prop) (E : En) (σ : S) : Prop := wC C f34.c2 E σ (retK f34.res Q)
theorem f34.p2_of (h : f34.p2 C Q f34.c3 f34.c5 E σ) : f34.J2 C Q E σ := Eq.mp f34.p2_eq h
noncomputable def f34.p1 (C : CW) (Q : AVal → S → Prop) (R2 : PC) (E : En) (σ : S) : Prop :=
sF 5 (E 3) fun t95 =>
sL t95 σ fun t96 =>
sB .geq t96 (i6 0) fun t97 =>
sT t97 (vFieldAddr 5 (E 3)) fun t99 =>
sT t97 (vLoad1 t99 σ) fun t100 =>
sT t97 (vFieldAddr 5 (E 5)) fun t101 =>
sT t97 (vLoad1 t101 σ) fun t102 =>
sT t97 (vLenSl t102) fun t103 =>
sT t97 (binA .lss .num t100 t103) fun t104 =>
sP t97 t104 (.bool false) fun t105 =>
WIf t105 (
sF 5 (E 5) fun t106 =>
sL t106 σ fun t107 =>
sF 5 (E 3) fun t108 =>
sL t108 σ fun t109 =>
Som (vSlSl 2 t107 none (some t109) none) fun t110 =>
sF 5 (E 5) fun t111 =>
sS 1 t111 t110 σ fun _ σ1 =>
wC C R2 (((((E.q 95 t95 96 t96 97 t97 98 t97).q 99 t99 100 t100 101 t101 102 t102).q 103 t103 104 t104 105 t105 106 t106).q 107 t107 108 t108 109 t109 110 t110).set 111 t111) σ1 (retK f34.res Q)) (
wC C R2 (((((E.q 95 t95 96 t96 97 t97 98 t97).q 99 t99 100 t100 101 t101 102 t102).set 103 t103).set 104 t104).set 105 t105) σ (retK f34.res Q))
theorem f34.p1_eq {R2 : PC} : f34.p1 C Q R2 E σ = wC C (f34.t1 R2) E σ (retK f34.res Q) := by kernel_rfl
abbrev f34.J1 (C : CW) (Q : AVal → S → Prop) (E : En) (σ : S) : Prop := wC C f34.c1 E σ (retK f34.res Q)
theorem f34.p1_of (h : f34.p1 C Q f34.c2 E σ) : f34.J1 C Q E σ := Eq.mp f34.p1_eq h
noncomputable def f34.p0 (C : CW) (Q : AVal → S → Prop) (R1 : PC) (E : En) (σ : S) : Prop :=
sF 3 (E 3) fun t40 =>
sL t40 σ fun t41 =>
C 11 [t41, (i6 0), (i6 9)] σ fun t42 σ1 =>
sB .gtr t42 (i6 0) fun t44 =>
sT t44 (some t42) fun t46 =>
sT t44 (vFieldAddr 5 (E 5)) fun t47 =>
sT t44 (vLoad1 t47 σ1) fun t48 =>
sT t44 (vLenSl t48) fun t49 =>
sT t44 (binA .leq .num t46 t49) fun t50 =>
sP t44 t50 (.bool false) fun t51 =>
WIf t51 (
sF 2 (E 5) fun t52 =>
sL t52 (σ1.bumpT 19) fun t53 =>
sB .add t53 t42 fun t55 =>
sF 5 (E 5) fun t56 =>
sL t56 (σ1.bumpT 19) fun t57 =>
sB .sub t42 (i6 1) fun t59 =>
Som (vIxSl 2 t57 t59) fun t60 =>
sF 0 t60 fun t61 =>
sL t61 (σ1.bumpT 19) fun t62 =>
sF 8 (E 3) fun t63 =>
sL t63 (σ1.bumpT 19) fun t64 =>
sF 2 (E 5) fun t65 =>
sS 1 t65 t55 (σ1.bumpT 19) fun _ σ2 =>
Sure (SameO (vLoad1 t61 σ2) t62) <|
Sure (SameO (vLoad1 t63 σ2) t64) <|
sF 3 (E 5) fun t66 =>
sS 1 t66 t62 σ2 fun _ σ3 =>
Sure (SameO (vLoad1 t63 σ3) t64) <|
sF 4 (E 5) fun t67 =>
sS 1 t67 t64 σ3 fun _ σ4 =>
sF 5 (E 5) fun t68 =>
sL t68 σ4 fun t69 =>
Som (vSlSl 2 t69 (some t42) none none) fun t71 =>
sF 5 (E 5) fun t72 =>
sS 1 t72 t71 σ4 fun _ σ5 =>
wC C R1 ((((((((((E.q 40 t40 41 t41 42 t42 6 t42).q 43 t42 44 t44 45 t44 46 t46).q 47 t47 48 t48 49 t49 50 t50).q 51 t51 52 t52 53 t53 54 t42).q 55 t55 56 t56 57 t57 58 t42).q 59 t59 60 t60 61 t61 62 t62).q 63 t63 64 t64 65 t65 66 t66).q 67 t67 68 t68 69 t69 70 t42).set 71 t71).set 72 t72) σ5 (retK f34.res Q)) (
sB .eql t42 (i6 9) fun t74 =>
sT t74 (vFieldAddr 0 (E 5)) fun t76 =>
sT t74 (vLoad1 t76 σ1) fun t77 =>
sT t74 (binA .gtr .num t77 (i6 0)) fun t78 =>
sP t74 t78 (.bool false) fun t79 =>
WIf t79 (
sF 2 (E 5) fun t80 =>
sL t80 (σ1.bumpT 19) fun t81 =>
sF 5 (E 5) fun t82 =>
sL t82 (σ1.bumpT 19) fun t83 =>
Som (vLenSl t83) fun t84 =>
sB .add t81 t84 fun t85 =>
sB .add t85 (i6 2) fun t86 =>
sF 0 (E 5) fun t87 =>
sL t87 (σ1.bumpT 19) fun t88 =>
sF 8 (E 3) fun t89 =>
sL t89 (σ1.bumpT 19) fun t90 =>
sF 2 (E 5) fun t91 =>
sS 1 t91 t86 (σ1.bumpT 19) fun _ σ2 =>
Sure (SameO (vLoad1 t89 σ2) t90) <|
sF 3 (E 5) fun t92 =>
sS 1 t92 t88 σ2 fun _ σ3 =>
Sure (SameO (vLoad1 t89 σ3) t90) <|
sF 4 (E 5) fun t93 =>
sS 1 t93 t90 σ3 fun _ σ4 =>
sF 5 (E 5) fun t94 =>
sS 1 t94 .nsl σ4 fun _ σ5 =>
wC C R1 (((((((((((E.q 40 t40 41 t41 42 t42 6 t42).q 43 t42 44 t44 45 t44 46 t46).q 47 t47 48 t48 49 t49 50 t50).q 51 t51 73 t42 74 t74 75 t74).q 76 t76 77 t77 78 t78 79 t79).q 80 t80 81 t81 82 t82 83 t83).q 84 t84 85 t85 86 t86 87 t87).q 88 t88 89 t89 90 t90 91 t91).set 92 t92).set 93 t93).set 94 t94) σ5 (retK f34.res Q)) (
wC C R1 (((((E.q 40 t40 41 t41 42 t42 6 t42).q 43 t42 44 t44 45 t44 46 t46).q 47 t47 48 t48 49 t49 50 t50).q 51 t51 73 t42 74 t74 75 t74).q 76 t76 77 t77 78 t78 79 t79) σ1 (retK f34.res Q)))
theorem f34.p0_eq {R1 : PC} : f34.p0 C Q R1 E σ = wC C (f34.t0 R1) E σ (retK f34.res Q) := by kernel_rfl
abbrev f34.J0 (C : CW) (Q : AVal → S → Prop) (E : En) (σ : S) : Prop := wC C f34.c0 E σ (retK f34.res Q)
theorem f34.p0_of (h : f34.p0 C Q f34.c1 E σ) : f34.J0 C Q E σ := Eq.mp f34.p0_eq h
noncomputable def f34.body (R0 : PC) : PC := (so [oa 2 (.box 0), oa 3 (.box 1), oa 4 (.alloc [(i6 0), (i6 0), (i6 0), (i6 0), (.str []), .nsl])] (.seq (so [ox 9 0 3, ol 10 9, ob 11 .eql 10 (oi 2)] (.cond 11 (so [ox 12 9 3, oq 13 (.loadN 6 12), os (.store 6 4 13)] .ret) .skip)) (so [oq 14 (.loadN 6 2), oe 15 (.call 71 [14]), oa 5 (.alloc [(i6 0), (i6 0), (i6 0), (i6 0), (.str []), .nsl]), os (.store 6 5 15)] (.seq (.draw 8 [⟨0, ox 16 0 5, []⟩, ⟨1, ol 17 16, []⟩, ⟨2, ox 18 1 3, []⟩, ⟨3, ol 19 18, []⟩, ⟨4, oe 20 (.call 11 [19, (oi 0), (oi 3)]), [ol 17 16]⟩, ⟨5, ob 21 .add 17 20, []⟩, ⟨6, ox 22 0 5, []⟩, ⟨7, os (.store 1 22 21), []⟩]) (so [ox 23 2 3, ol 24 23, oe 25 (.call 11 [24, (.val (.int .i64 (-1))), (oi 6)]), ox 26 1 5, os (.store 1 26 25)] (.seq (so [ox 27 0 5, ol 28 27, ox 29 0 2, ol 30 29, ob 31 .eql 28 30, om 32 31, oqg 33 32 true (.fieldAddr 1 2), oqg 34 32 true (.load1 33), oqg 35 32 true (.bin .neq .num 34 (.val (.int .i64 (-1)))), oq 36 (.pick 32 35 oF)] (.cond 36 (.ops [ox 37 1 2, ol 38 37, ox 39 1 5, os (.store 1 39 38)]) .skip)) R0))))))
noncomputable def f34.fn : PFn := .code (slotsN 164) (f34.body f34.c0) f34.res
noncomputable def f34 (C : CW) (R0 : PC) (a0 a1 : AVal) (σ : S) (Q : AVal → S → Prop) : Prop :=
Ala (aBoxV a0) σ fun t2 σ1 =>
Ala (aBoxV a1) σ1 fun t3 σ2 =>
Ala (aAllocV [(i6 0), (i6 0), (i6 0), (i6 0), (.str []), .nsl]) σ2 fun t4 σ3 =>
sF 0 t3 fun t9 =>
sL t9 σ3 fun t10 =>
sB .eql t10 (i6 2) fun t11 =>
WIf t11 (
sF 9 t3 fun t12 =>
Som (vLoadN 6 t12 σ3) fun t13 =>
sS 6 t4 t13 σ3 fun _ σ4 =>
Ret [vLoadN 6 t4 σ4] σ4 Q) (
Som (vLoadN 6 t2 σ3) fun t14 =>
C 71 [t14] σ3 fun t15 σ4 =>
Ala (aAllocV [(i6 0), (i6 0), (i6 0), (i6 0), (.str []), .nsl]) σ4 fun t5 σ5 =>
sS 6 t5 t15 σ5 fun _ σ6 =>
sF 0 t5 fun t16 =>
sL t16 (σ6.bumpT 8) fun t17 =>
sF 1 t3 fun t18 =>
sL t18 (σ6.bumpT 8) fun t19 =>
C 11 [t19, (i6 0), (i6 3)] (σ6.bumpT 8) fun t20 σ7 =>
Sure (SameO (vLoad1 t16 σ7) t17) <|
sB .add t17 t20 fun t21 =>
sF 0 t5 fun t22 =>
sS 1 t22 t21 σ7 fun _ σ8 =>
sF 2 t3 fun t23 =>
sL t23 σ8 fun t24 =>
C 11 [t24, (.int .i64 (-1)), (i6 6)] σ8 fun t25 σ9 =>
sF 1 t5 fun t26 =>
sS 1 t26 t25 σ9 fun _ σ10 =>
sF 0 t5 fun t27 =>
sL t27 σ10 fun t28 =>
sF 0 t2 fun t29 =>
sL t29 σ10 fun t30 =>
sB .eql t28 t30 fun t31 =>
sT t31 (vFieldAddr 1 t2) fun t33 =>
sT t31 (vLoad1 t33 σ10) fun t34 =>
sT t31 (binA .neq .num t34 (.int .i64 (-1))) fun t35 =>
sP t31 t35 (.bool false) fun t36 =>
WIf t36 (
sF 1 t2 fun t37 =>
sL t37 σ10 fun t38 =>
sF 1 t5 fun t39 =>
sS 1 t39 t38 σ10 fun _ σ11 =>
wC C R0 (((((((((((E0.q 0 a0 1 a1 2 t2 3 t3).q 4 t4 9 t9 10 t10 11 t11).q 14 t14 15 t15 5 t5 16 t16).q 17 t17 18 t18 19 t19 20 t20).q 21 t21 22 t22 23 t23 24 t24).q 25 t25 26 t26 27 t27 28 t28).q 29 t29 30 t30 31 t31 32 t31).q 33 t33 34 t34 35 t35 36 t36).set 37 t37).set 38 t38).set 39 t39) σ11 (retK f34.res Q)) (
wC C R0 ((((((((E0.q 0 a0 1 a1 2 t2 3 t3).q 4 t4 9 t9 10 t10 11 t11).q 14 t14 15 t15 5 t5 16 t16).q 17 t17 18 t18 19 t19 20 t20).q 21 t21 22 t22 23 t23 24 t24).q 25 t25 26 t26 27 t27 28 t28).q 29 t29 30 t30 31 t31 32 t31).q 33 t33 34 t34 35 t35 36 t36) σ10 (retK f34.res Q)))
theorem f34_eq {R0 : PC} {a0 a1 : AVal} : f34 C R0 a0 a1 σ Q = wC C (f34.body R0) ((E0.set 0 a0).set 1 a1) σ (retK f34.res Q) := by kernel_rfl
theorem f34_wf (ht : tab 34 = some f34.fn) {a0 a1 : AVal} (h : f34 (WF tab) f34.c0 a0 a1 σ Q) : WF tab 34 [a0, a1] σ Q := wf_of ht (by kernel_rfl) f34_eq h
noncomputable def f35.res : List PRes := [.tmp (sn 2)]
noncomputable def f35.body : PC := (so [oq 2 (.mov (.val .nptr))] (.seq (.draw 6 [⟨0, om 3 0, []⟩, ⟨1, oa 4 (.mkslice 1 24 [.nsl] (oi 64) (oi 64)), []⟩, ⟨2, oa 5 (.mkslice 1 24 [.nsl] (oi 64) (oi 64)), []⟩, ⟨3, oq 6 (.build [(i6 0), .nsl, .nsl, .nsl, (i6 0), (.bool false)] [(0, 1, 3), (1, 1, 4), (2, 1, 5)]), []⟩, ⟨4, oa 7 (.box 6), []⟩, ⟨5, om 2 7, []⟩]) .ret))
noncomputable def f35.fn : PFn := .code (slotsN 8) f35.body f35.res
noncomputable def f35 (C : CW) (a0 : AVal) (σ : S) (Q : AVal → S → Prop) : Prop :=
Alb (aMakeV 1 24 [.nsl] (i6 64) (i6 64)) (Pos.plusT 1 σ.next) (σ.bumpT 6) fun t4 σ1 =>
Alb (aMakeV 1 24 [.nsl] (i6 64) (i6 64)) (Pos.plusT 2 σ.next) σ1 fun t5 σ2 =>
Som (vBuild [(i6 0), .nsl, .nsl, .nsl, (i6 0), (.bool false)] [(0, 1, a0), (1, 1, t4), (2, 1, t5)]) fun t6 =>
Alb (aBoxV t6) (Pos.plusT 4 σ.next) σ2 fun t7 σ3 =>
Ret [some t7] σ3 Q
theorem f35_eq {a0 : AVal} : f35 C a0 σ Q = wC C f35.body (E0.set 0 a0) σ (retK f35.res Q) := by kernel_rfl
theorem f35_wf (ht : tab 35 = some f35.fn) {a0 : AVal} (h : f35 (WF tab) a0 σ Q) : WF tab 35 [a0] σ Q := wf_of ht (by kernel_rfl) f35_eq h
noncomputable def f36.res : List PRes := [.tmp (sn 2)]
noncomputable def f36.body : PC := (so [oq 2 (.mov oF)] (.seq (so [om 3 0, on 4 3, ox 5 5 4, ol 6 5] (.cond 6 (so [oq 2 (.mov oF)] .ret) .skip)) (.seq (so [om 7 0, on 8 7, ox 9 4 8, ol 10 9, ob 11 .gtr 10 (oi 0)] (.cond 11 (so [om 12 0, on 13 12, ox 14 4 13, ol 15 14, ob 16 .sub 15 (oi 1), on 17 12, ox 18 4 17, os (.store 1 18 16)] (.ops [om 19 0, om 20 0, on 21 20, ox 22 4 21, ol 23 22, ob 24 .eql 23 (oi 0), on 25 19, ox 26 5 25, os (.store 1 26 24)])) .skip)) (so [om 27 0, on 28 27, ox 29 5 28, ol 30 29, oq 31 (.un .not 30), om 2 31] .ret))))
noncomputable def f36.fn : PFn := .code (slotsN 32) f36.body f36.res
noncomputable def f36 (C : CW) (a0 : AVal) (σ : S) (Q : AVal → S → Prop) : Prop :=
sN a0 fun t4 =>
sF 5 t4 fun t5 =>
sL t5 σ fun t6 =>
WIf t6 (
Ret [some (.bool false)] σ Q) (
sN a0 fun t8 =>
sF 4 t8 fun t9 =>
sL t9 σ fun t10 =>
sB .gtr t10 (i6 0) fun t11 =>
WIf t11 (
sN a0 fun t13 =>
sF 4 t13 fun t14 =>
sL t14 σ fun t15 =>
sB .sub t15 (i6 1) fun t16 =>
sN a0 fun t17 =>
sF 4 t17 fun t18 =>
sS 1 t18 t16 σ fun _ σ1 =>
sN a0 fun t21 =>
sF 4 t21 fun t22 =>
sL t22 σ1 fun t23 =>
sB .eql t23 (i6 0) fun t24 =>
sN a0 fun t25 =>
sF 5 t25 fun t26 =>
sS 1 t26 t24 σ1 fun _ σ2 =>
sN a0 fun t28 =>
sF 5 t28 fun t29 =>
sL t29 σ2 fun t30 =>
Som (unA .not t30) fun t31 =>
Ret [some t31] σ2 Q) (
sN a0 fun t28 =>
sF 5 t28 fun t29 =>
sL t29 σ fun t30 =>
Som (unA .not t30) fun t31 =>
Ret [some t31] σ Q))
theorem f36_eq {a0 : AVal} : f36 C a0 σ Q = wC C f36.body (E0.set 0 a0) σ (retK f36.res Q) := by kernel_rfl
theorem f36_wf (ht : tab 36 = some f36.fn) {a0 : AVal} (h : f36 (WF tab) a0 σ Q) : WF tab 36 [a0] σ Q := wf_of ht (by kernel_rfl) f36_eq h
noncomputable def f37.res : List PRes := [.tmp (sn 2)]
noncomputable def f37.body : PC := (so [oq 2 (.mov oF)] (so [om 3 0, ob 4 .geq 3 (oi 0), om 5 4, oqg 6 5 true (.mov 0), oqg 7 5 true (.bin .lss .num 6 (oi 64)), oq 8 (.pick 5 7 oF), om 2 8] .ret))
noncomputable def f37.fn : PFn := .code (slotsN 9) f37.body f37.res
noncomputable def f37 (C : CW) (a0 : AVal) (σ : S) (Q : AVal → S → Prop) : Prop :=
sB .geq a0 (i6 0) fun t4 =>
sT t4 (some a0) fun t6 =>
sT t4 (binA .lss .num t6 (i6 64)) fun t7 =>
sP t4 t7 (.bool false) fun t8 =>
Ret [some t8] σ Q
theorem f37_eq {a0 : AVal} : f37 C a0 σ Q = wC C f37.body (E0.set 0 a0) σ (retK f37.res Q) := by kernel_rfl
theorem f37_wf (ht : tab 37 = some f37.fn) {a0 : AVal} (h : f37 (WF tab) a0 σ Q) : WF tab 37 [a0] σ Q := wf_of ht (by kernel_rfl) f37_eq h
noncomputable def f38.c0 : PC := (so [ob 12 .lss 11 10] (.seq (.cond 12 .skip (.exit 0)) (.seq (.block 1 (so [oq 13 (.ixSl 1 9 11), ol 14 13, om 5 14] (.ops [om 15 3, om 16 5, oq 17 (.lenSl 16), ob 18 .add 15 17, om 3 18]))) (.ops [ob 19 .add 11 (oi 1), om 11 19]))))
noncomputable def f38.res : List PRes := [.tmp (sn 2)]
noncomputable def f38.p0 (C : CW) (Q : AVal → S → Prop) (R0 : PC) (E : En) (σ : S) : Prop :=
sB .lss (E 11) (E 10) fun t12 =>
WIf t12 (
Som (vIxSl 1 (E 9) (E 11)) fun t13 =>
sL t13 σ fun t14 =>
Som (vLenSl t14) fun t17 =>
sB .add (E 3) t17 fun t18 =>
sB .add (E 11) (i6 1) fun t19 =>
wC C (.loop R0) (((((E.q 12 t12 13 t13 14 t14 5 t14).q 15 (E 3) 16 t14 17 t17 18 t18).set 3 t18).set 19 t19).set 11 t19) σ (blockK 0 (seqK (wC C (so [om 20 3, om 2 20] .ret)) (retK f38.res Q)))) (
Ret [some (E 3)] σ Q)
theorem f38.p0_eq {R0 : PC} : f38.p0 C Q R0 E σ = wC C f38.c0 E σ (loopK C R0 (blockK 0 (seqK (wC C (so [om 20 3, om 2 20] .ret)) (retK f38.res Q)))) := by kernel_rfl
abbrev f38.L0 (C : CW) (Q : AVal → S → Prop) (E : En) (σ : S) : Prop := wC C (.loop f38.c0) E σ (blockK 0 (seqK (wC C (so [om 20 3, om 2 20] .ret)) (retK f38.res Q)))
theorem f38.p0_of (h : f38.p0 (WF tab) Q f38.c0 E σ) : f38.L0 (WF tab) Q E σ := wLoop_step (Eq.mp f38.p0_eq h)
noncomputable def f38.body (R0 : PC) : PC := (so [oq 2 (.mov (oi 0))] (so [oq 3 (.mov (oi 0))] (.seq (so [om 6 0, on 7 6, ox 8 1 7, ol 9 8, oq 10 (.lenSl 9), oq 11 (.mov (oi 0))] (.block 0 (.loop R0))) (so [om 20 3, om 2 20] .ret))))
noncomputable def f38.fn : PFn := .code (slotsN 21) (f38.body f38.c0) f38.res
noncomputable def f38 (C : CW) (R0 : PC) (a0 : AVal) (σ : S) (Q : AVal → S → Prop) : Prop :=
sN a0 fun t7 =>
sF 1 t7 fun t8 =>
sL t8 σ fun t9 =>
Som (vLenSl t9) fun t10 =>
wC C (.loop R0) (((E0.q 0 a0 2 (i6 0) 3 (i6 0) 6 a0).q 7 t7 8 t8 9 t9 10 t10).set 11 (i6 0)) σ (blockK 0 (seqK (wC C (so [om 20 3, om 2 20] .ret)) (retK f38.res Q)))
theorem f38_eq {R0 : PC} {a0 : AVal} : f38 C R0 a0 σ Q = wC C (f38.body R0) (E0.set 0 a0) σ (retK f38.res Q) := by kernel_rfl
theorem f38_wf (ht : tab 38 = some f38.fn) {a0 : AVal} (h : f38 (WF tab) f38.c0 a0 σ Q) : WF tab 38 [a0] σ Q := wf_of ht (by kernel_rfl) f38_eq h
end Go.Am
