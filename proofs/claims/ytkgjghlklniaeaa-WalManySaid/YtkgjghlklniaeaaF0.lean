/-
  Functions of the program as conditions. Conditions: none.
-/
import Derived.Test.YtkgjghlklniaeaaK33
import Derived.KernelRfl
namespace Go.Am
abbrev om (d s : Nat) : POp := oq d (.mov (ot s))
abbrev on (d s : Nat) : POp := oq d (.nilck (ot s))
abbrev ox (d k s : Nat) : POp := oq d (.fieldAddr k (ot s))
abbrev ol (d s : Nat) : POp := oq d (.load1 (ot s))
abbrev oi (n : Nat) : Opd := .val (.int .i64 n)
abbrev oT : Opd := .val (.bool true)
abbrev oF : Opd := .val (.bool false)
abbrev os (o : EOp) : POp := ⟨none, none, .e o⟩
abbrev ob (d : Nat) (o : BinOp) (x y : Opd) : POp := oq d (.bin o .num x y)
abbrev so (l : List POp) (c : PC) : PC := .seq (.ops l) c
instance (n : Nat) : OfNat Opd n := ⟨ot n⟩
abbrev i6 (n : Int) : AVal := .int .i64 n
noncomputable abbrev sN (x : AVal) (K : AVal → Prop) : Prop := Som (vNilck x) K
noncomputable abbrev sF (k : Nat) (x : AVal) (K : AVal → Prop) : Prop := Som (vFieldAddr k x) K
noncomputable abbrev sL (x : AVal) (σ : S) (K : AVal → Prop) : Prop := Som (vLoad1 x σ) K
noncomputable abbrev sB (o : BinOp) (x y : AVal) (K : AVal → Prop) : Prop := Som (binA o .num x y) K
noncomputable abbrev sP (x y z : AVal) (K : AVal → Prop) : Prop := Som (vPick x y z) K
noncomputable abbrev sT (x : AVal) (o : Option AVal) (K : AVal → Prop) : Prop := Som (gq1 (isB x true) o) K
noncomputable abbrev sU (x : AVal) (o : Option AVal) (K : AVal → Prop) : Prop := Som (gq1 (isB x false) o) K
noncomputable abbrev sS (n : Nat) (x y : AVal) (σ : S) (K : AVal → S → Prop) : Prop := Eff (storeW n x y σ) K
noncomputable abbrev En.q (E : En) (a : Nat) (x : AVal) (b : Nat) (y : AVal) (c : Nat) (z : AVal) (d : Nat) (w : AVal) : En := (((E.set a x).set b y).set c z).set d w
theorem wf_of {tab : Nat → Option PFn} {f : Nat} {n : Nat} {body : PC} {res : List PRes} {args : List AVal} {E : En} {σ : S} {Q : AVal → S → Prop} {X : Prop} (ht : tab f = some (.code (slotsN n) body res))
    (he : enterE args (slotsN n) E0 = some E) (hx : X = wC (WF tab) body E σ (retK res Q)) (h : X) : WF tab f args σ Q := wFn_sound ht (wFn_code he (Eq.mp hx h))
set_option maxRecDepth 20000
variable {tab : Nat → Option PFn} {C : CW} {E : En} {σ : S} {Q : AVal → S → Prop}
noncomputable def f7.c1 : PC := (so [om 81 11, on 82 81, ox 83 1 82, ol 84 83, oe 85 (.call 27 [84]), om 80 85, oq 86 (.extract 0 80), oq 87 (.extract 1 80), oa 15 (.alloc [(i6 0), .nsl]), os (.store 2 15 86), om 16 87] (.seq (.draw 20 [⟨0, om 88 16, []⟩, ⟨1, om 89 88, []⟩, ⟨2, oqg 90 89 true (.loadN 2 15), []⟩, ⟨3, oqg 91 89 true (.mov 11), []⟩, ⟨4, oqg 92 89 true (.nilck 91), []⟩, ⟨5, oqg 93 89 true (.fieldAddr 2 92), []⟩, ⟨6, oqg 94 89 true (.loadN 2 93), []⟩, ⟨7, oeg 95 89 true (.call 28 [90, 94]), []⟩, ⟨8, oq 96 (.pick 89 95 oF), []⟩, ⟨9, om 97 96, []⟩, ⟨10, oqg 98 97 true (.mov 11), []⟩, ⟨11, oqg 99 97 true (.mov 4), []⟩, ⟨12, oqg 100 97 true (.mov 3), []⟩, ⟨13, oqg 101 97 true (.build [(i6 0), (i6 0), (i6 0), (i6 0), (i6 0), (.bool false), .nsl] [(3, 1, 99), (4, 1, 100)]), []⟩, ⟨14, oeg 102 97 true (.call 26 [98, 101, (oi 0)]), []⟩, ⟨15, oq 103 (.pick 97 102 oF), []⟩, ⟨16, om 104 103, []⟩, ⟨17, oeg 105 104 true (.call 13 []), []⟩, ⟨18, oq 106 (.pick 104 105 oF), []⟩, ⟨19, om 10 106, []⟩]) .ret))
noncomputable def f7.c0 : PC := (.seq (so [om 34 14, om 35 0, ob 36 .lss 34 35] (.cond 36 .skip (.exit 0))) (.seq (.block 1 (.seq (so [om 39 11, om 40 13, om 41 14, oq 42 (.toInt .u8 41), oa 43 (.bslice 1 [(.int .u8 0)] 1 [(0, 1, 42)]), oe 44 (.append 1 1 40 43), oq 45 (.bytesStr 44), oa 46 (.bslice 1 [(.str [])] 1 [(0, 1, 45)]), oq 47 (.build [(i6 0), (i6 0), (i6 0), (i6 0), (i6 0), (.bool false), .nsl] [(0, 1, (oi 1)), (6, 1, 46)]), oe 48 (.call 23 [39, 47]), oq 49 (.un .not 48)] (.cond 49 (so [oq 10 (.mov oF)] .ret) .skip)) (.seq (so [om 50 14, om 51 1, ob 52 .rem 50 51, ob 53 .eql 52 (oi 0), om 54 53, oqg 55 54 true (.mov 11), oqg 56 54 true (.build [(i6 0), (i6 0), (i6 0), (i6 0), (i6 0), (.bool false), .nsl] [(0, 1, (oi 4))]), oeg 57 54 true (.call 24 [55, 56]), oqg 58 54 true (.un .not 57), oq 59 (.pick 54 58 oF)] (.cond 59 (so [oq 10 (.mov oF)] .ret) .skip)) (.seq (so [om 60 14, ob 61 .rem 60 (oi 17), ob 62 .eql 61 (oi 16), om 63 62, oqg 64 63 true (.mov 11), oqg 65 63 true (.build [(i6 0), (i6 0), (i6 0), (i6 0), (i6 0), (.bool false), .nsl] [(0, 1, (oi 3)), (1, 1, (oi 12))]), oeg 66 63 true (.call 23 [64, 65]), oqg 67 63 true (.un .not 66), oq 68 (.pick 63 67 oF)] (.cond 68 (so [oq 10 (.mov oF)] .ret) .skip)) (so [om 69 14, ob 70 .rem 69 (oi 41), ob 71 .eql 70 (oi 40), om 72 71, oqg 73 72 true (.mov 11), oqg 74 72 true (.mov 3), oqg 75 72 true (.mov 4), oqg 76 72 true (.build [(i6 0), (i6 0), (i6 0), (i6 0), (i6 0), (.bool false), .nsl] [(3, 1, 74), (4, 1, 75)]), oeg 77 72 true (.call 26 [73, 76, (oi 0)]), oqg 78 72 true (.un .not 77), oq 79 (.pick 72 78 oF)] (.cond 79 (so [oq 10 (.mov oF)] .ret) .skip)))))) (.ops [om 37 14, ob 38 .add 37 (oi 1), om 14 38])))
noncomputable def f7.res : List PRes := [.tmp (sn 10)]
noncomputable def f7.p1 (C : CW) (Q : AVal → S → Prop) (E : En) (σ : S) : Prop :=
sN (E 11) fun t82 =>
sF 1 t82 fun t83 =>
sL t83 σ fun t84 =>
C 27 [t84] σ fun t85 σ1 =>
Som (vExtract 0 t85) fun t86 =>
Som (vExtract 1 t85) fun t87 =>
Ala (aAllocV [(i6 0), .nsl]) σ1 fun t15 σ2 =>
sS 2 t15 t86 σ2 fun _ σ3 =>
sT t87 (vLoadN 2 t15 (σ3.bumpT 20)) fun t90 =>
sT t87 (some (E 11)) fun t91 =>
sT t87 (vNilck t91) fun t92 =>
sT t87 (vFieldAddr 2 t92) fun t93 =>
sT t87 (vLoadN 2 t93 (σ3.bumpT 20)) fun t94 =>
gE1 (isB t87 true) (fun K => C 28 [t90, t94] (σ3.bumpT 20) K) (σ3.bumpT 20) fun t95 σ4 =>
sP t87 t95 (.bool false) fun t96 =>
sT t96 (some (E 11)) fun t98 =>
sT t96 (some (E 4)) fun t99 =>
sT t96 (some (E 3)) fun t100 =>
sT t96 (vBuild [(i6 0), (i6 0), (i6 0), (i6 0), (i6 0), (.bool false), .nsl] [(3, 1, t99), (4, 1, t100)]) fun t101 =>
gE1 (isB t96 true) (fun K => C 26 [t98, t101, (i6 0)] σ4 K) σ4 fun t102 σ5 =>
sP t96 t102 (.bool false) fun t103 =>
gE1 (isB t103 true) (fun K => C 13 [] σ5 K) σ5 fun t105 σ6 =>
sP t103 t105 (.bool false) fun t106 =>
Ret [some t106] σ6 Q
theorem f7.p1_eq : f7.p1 C Q E σ = wC C f7.c1 E σ (retK f7.res Q) := by kernel_rfl
abbrev f7.J1 (C : CW) (Q : AVal → S → Prop) (E : En) (σ : S) : Prop := wC C f7.c1 E σ (retK f7.res Q)
theorem f7.p1_of (h : f7.p1 C Q E σ) : f7.J1 C Q E σ := Eq.mp f7.p1_eq h
noncomputable def f7.p0 (C : CW) (Q : AVal → S → Prop) (R0 R1 : PC) (E : En) (σ : S) : Prop :=
sB .lss (E 14) (E 0) fun t36 =>
WIf t36 (
Som (vToInt .u8 (E 14)) fun t42 =>
Ala (aSliceV 1 [(.int .u8 0)] 1 [(0, 1, t42)]) σ fun t43 σ1 =>
Eff (appendA 1 1 (E 13) t43 σ1) fun t44 σ2 =>
Som (vBytesStr t44 σ2) fun t45 =>
Ala (aSliceV 1 [(.str [])] 1 [(0, 1, t45)]) σ2 fun t46 σ3 =>
Som (vBuild [(i6 0), (i6 0), (i6 0), (i6 0), (i6 0), (.bool false), .nsl] [(0, 1, (i6 1)), (6, 1, t46)]) fun t47 =>
C 23 [(E 11), t47] σ3 fun t48 σ4 =>
Som (unA .not t48) fun t49 =>
WIf t49 (
Ret [some (.bool false)] σ4 Q) (
sB .rem (E 14) (E 1) fun t52 =>
sB .eql t52 (i6 0) fun t53 =>
sT t53 (some (E 11)) fun t55 =>
sT t53 (vBuild [(i6 0), (i6 0), (i6 0), (i6 0), (i6 0), (.bool false), .nsl] [(0, 1, (i6 4))]) fun t56 =>
gE1 (isB t53 true) (fun K => C 24 [t55, t56] σ4 K) σ4 fun t57 σ5 =>
sT t53 (unA .not t57) fun t58 =>
sP t53 t58 (.bool false) fun t59 =>
WIf t59 (
Ret [some (.bool false)] σ5 Q) (
sB .rem (E 14) (i6 17) fun t61 =>
sB .eql t61 (i6 16) fun t62 =>
sT t62 (some (E 11)) fun t64 =>
sT t62 (vBuild [(i6 0), (i6 0), (i6 0), (i6 0), (i6 0), (.bool false), .nsl] [(0, 1, (i6 3)), (1, 1, (i6 12))]) fun t65 =>
gE1 (isB t62 true) (fun K => C 23 [t64, t65] σ5 K) σ5 fun t66 σ6 =>
sT t62 (unA .not t66) fun t67 =>
sP t62 t67 (.bool false) fun t68 =>
WIf t68 (
Ret [some (.bool false)] σ6 Q) (
sB .rem (E 14) (i6 41) fun t70 =>
sB .eql t70 (i6 40) fun t71 =>
sT t71 (some (E 11)) fun t73 =>
sT t71 (some (E 3)) fun t74 =>
sT t71 (some (E 4)) fun t75 =>
sT t71 (vBuild [(i6 0), (i6 0), (i6 0), (i6 0), (i6 0), (.bool false), .nsl] [(3, 1, t74), (4, 1, t75)]) fun t76 =>
gE1 (isB t71 true) (fun K => C 26 [t73, t76, (i6 0)] σ6 K) σ6 fun t77 σ7 =>
sT t71 (unA .not t77) fun t78 =>
sP t71 t78 (.bool false) fun t79 =>
WIf t79 (
Ret [some (.bool false)] σ7 Q) (
sB .add (E 14) (i6 1) fun t38 =>
wC C (.loop R0) ((((((((((((((E.q 34 (E 14) 35 (E 0) 36 t36 39 (E 11)).q 40 (E 13) 41 (E 14) 42 t42 43 t43).q 44 t44 45 t45 46 t46 47 t47).q 48 t48 49 t49 50 (E 14) 51 (E 1)).q 52 t52 53 t53 54 t53 55 t55).q 56 t56 57 t57 58 t58 59 t59).q 60 (E 14) 61 t61 62 t62 63 t62).q 64 t64 65 t65 66 t66 67 t67).q 68 t68 69 (E 14) 70 t70 71 t71).q 72 t71 73 t73 74 t74 75 t75).q 76 t76 77 t77 78 t78 79 t79).set 37 (E 14)).set 38 t38).set 14 t38) σ7 (blockK 0 (seqK (wC C R1) (retK f7.res Q)))))))) (
wC C R1 (((E.set 34 (E 14)).set 35 (E 0)).set 36 t36) σ (retK f7.res Q))
theorem f7.p0_eq {R0 R1 : PC} : f7.p0 C Q R0 R1 E σ = wC C f7.c0 E σ (loopK C R0 (blockK 0 (seqK (wC C R1) (retK f7.res Q)))) := by kernel_rfl
abbrev f7.L0 (C : CW) (Q : AVal → S → Prop) (E : En) (σ : S) : Prop := wC C (.loop f7.c0) E σ (blockK 0 (seqK (wC C f7.c1) (retK f7.res Q)))
theorem f7.p0_of (h : f7.p0 (WF tab) Q f7.c0 f7.c1 E σ) : f7.L0 (WF tab) Q E σ := wLoop_step (Eq.mp f7.p0_eq h)
noncomputable def f7.body (R0 R1 : PC) : PC := (so [oq 10 (.mov oF)] (so [oe 18 (.call 22 [(oi 131072)]), om 17 18, oq 19 (.extract 0 17), oq 20 (.extract 1 17), om 11 19, om 12 20] (.seq (so [om 21 12, oq 22 (.un .not 21), om 23 22, oqg 24 23 false (.mov 11), oqg 25 23 false (.bin .eql .ptr 24 (.val .nptr)), oq 26 (.pick 23 oT 25)] (.cond 26 (so [oq 10 (.mov oF)] .ret) .skip)) (so [om 27 0, oe 28 (.call 11 [27, (oi 0), (oi 120)]), om 0 28] (so [om 29 1, oe 30 (.call 11 [29, (oi 1), (oi 20)]), om 1 30] (so [om 31 2, oe 32 (.call 11 [31, (oi 0), (oi 400)]), oa 33 (.mkslice 1 1 [(.int .u8 0)] 32 32), om 13 33] (.seq (so [oq 14 (.mov (oi 0))] (.block 0 (.loop R0))) R1)))))))
noncomputable def f7.fn : PFn := .code (slotsN 107) (f7.body f7.c0 f7.c1) f7.res
noncomputable def f7 (C : CW) (R0 R1 : PC) (a0 a1 a2 a3 a4 : AVal) (σ : S) (Q : AVal → S → Prop) : Prop :=
C 22 [(i6 131072)] σ fun t18 σ1 =>
Som (vExtract 0 t18) fun t19 =>
Som (vExtract 1 t18) fun t20 =>
Som (unA .not t20) fun t22 =>
sU t22 (some t19) fun t24 =>
sU t22 (binA .eql .ptr t24 .nptr) fun t25 =>
sP t22 (.bool true) t25 fun t26 =>
WIf t26 (
Ret [some (.bool false)] σ1 Q) (
C 11 [a0, (i6 0), (i6 120)] σ1 fun t28 σ2 =>
C 11 [a1, (i6 1), (i6 20)] σ2 fun t30 σ3 =>
C 11 [a2, (i6 0), (i6 400)] σ3 fun t32 σ4 =>
Ala (aMakeV 1 1 [(.int .u8 0)] t32 t32) σ4 fun t33 σ5 =>
wC C (.loop R0) ((((((((E0.q 0 a0 1 a1 2 a2 3 a3).q 4 a4 10 (.bool false) 18 t18 17 t18).q 19 t19 20 t20 11 t19 12 t20).q 21 t20 22 t22 23 t22 24 t24).q 25 t25 26 t26 27 a0 28 t28).q 0 t28 29 a1 30 t30 1 t30).q 31 a2 32 t32 33 t33 13 t33).set 14 (i6 0)) σ5 (blockK 0 (seqK (wC C R1) (retK f7.res Q))))
theorem f7_eq {R0 R1 : PC} {a0 a1 a2 a3 a4 : AVal} : f7 C R0 R1 a0 a1 a2 a3 a4 σ Q = wC C (f7.body R0 R1) ((E0.q 0 a0 1 a1 2 a2 3 a3).set 4 a4) σ (retK f7.res Q) := by kernel_rfl
theorem f7_wf (ht : tab 7 = some f7.fn) {a0 a1 a2 a3 a4 : AVal} (h : f7 (WF tab) f7.c0 f7.c1 a0 a1 a2 a3 a4 σ Q) : WF tab 7 [a0, a1, a2, a3, a4] σ Q := wf_of ht (by kernel_rfl) f7_eq h
noncomputable def f9.res : List PRes := [.tmp (sn 2), .tmp (sn 3)]
noncomputable def f9.body : PC := (so [oq 2 (.mov (.val .nptr)), oq 3 (.mov (oi 0))] (.seq (so [om 4 0, ob 5 .lss 4 (oi 0), om 6 5, oqg 7 6 false (.mov 0), oqg 8 6 false (.bin .gtr .num 7 (oi 1048576)), oq 9 (.pick 6 oT 8)] (.cond 9 (so [oq 2 (.mov (.val .nptr)), oq 3 (.mov (oi 1))] .ret) .skip)) (so [om 10 0, oe 11 (.call 35 [10]), om 2 11, oq 3 (.mov (oi 0))] .ret)))
noncomputable def f9.fn : PFn := .code (slotsN 12) f9.body f9.res
noncomputable def f9 (C : CW) (a0 : AVal) (σ : S) (Q : AVal → S → Prop) : Prop :=
sB .lss a0 (i6 0) fun t5 =>
sU t5 (some a0) fun t7 =>
sU t5 (binA .gtr .num t7 (i6 1048576)) fun t8 =>
sP t5 (.bool true) t8 fun t9 =>
WIf t9 (
Ret [some .nptr, some (i6 1)] σ Q) (
C 35 [a0] σ fun t11 σ1 =>
Ret [some t11, some (i6 0)] σ1 Q)
theorem f9_eq {a0 : AVal} : f9 C a0 σ Q = wC C f9.body (E0.set 0 a0) σ (retK f9.res Q) := by kernel_rfl
theorem f9_wf (ht : tab 9 = some f9.fn) {a0 : AVal} (h : f9 (WF tab) a0 σ Q) : WF tab 9 [a0] σ Q := wf_of ht (by kernel_rfl) f9_eq h
noncomputable def f10.res : List PRes := [.tmp (sn 8)]
noncomputable def f10.body : PC := (so [oq 8 (.mov (oi 0))] (.seq (so [om 10 0, oe 11 (.call 36 [10]), oq 12 (.un .not 11)] (.cond 12 (so [oq 8 (.mov (oi 11))] .ret) .skip)) (.seq (so [om 13 1, oe 14 (.call 37 [13]), oq 15 (.un .not 14), om 16 15, oqg 17 16 false (.mov 2), oqg 18 16 false (.bin .lss .num 17 (oi 0)), oq 19 (.pick 16 oT 18), om 20 19, oqg 21 20 false (.mov 2), oqg 22 20 false (.bin .gtr .num 21 (oi 1048576)), oq 23 (.pick 20 oT 22)] (.cond 23 (so [oq 8 (.mov (oi 1))] .ret) .skip)) (so [om 24 0, on 25 24, ox 26 1 25, ol 27 26, om 28 1, oq 29 (.ixSl 1 27 28), ol 30 29, oq 31 (.lenSl 30), om 9 31] (.seq (.seq (.draw 22 [⟨0, om 32 2, []⟩, ⟨1, om 33 3, []⟩, ⟨2, oq 34 (.lenSl 33), []⟩, ⟨3, ob 35 .add 32 34, []⟩, ⟨4, om 36 9, []⟩, ⟨5, ob 37 .gtr 35 36, []⟩, ⟨6, om 38 37, []⟩, ⟨7, oqg 39 38 true (.mov 0), []⟩, ⟨9, oqg 41 38 true (.mov 9), []⟩, ⟨11, oqg 43 38 true (.mov 2), []⟩, ⟨13, oqg 45 38 true (.mov 3), []⟩, ⟨14, oqg 46 38 true (.lenSl 45), []⟩, ⟨16, oqg 48 38 true (.mov 0), []⟩, ⟨17, oqg 49 38 true (.nilck 48), []⟩, ⟨18, oqg 50 38 true (.fieldAddr 0 49), []⟩, ⟨19, oqg 51 38 true (.load1 50), []⟩, ⟨8, oeg 40 38 true (.call 38 [39]), [oqg 51 38 true (.load1 50)]⟩, ⟨10, oqg 42 38 true (.bin .sub .num 40 41), []⟩, ⟨12, oqg 44 38 true (.bin .add .num 42 43), []⟩, ⟨15, oqg 47 38 true (.bin .add .num 44 46), []⟩, ⟨20, oqg 52 38 true (.bin .gtr .num 47 51), []⟩, ⟨21, oq 53 (.pick 38 52 oF), []⟩]) (.cond 53 (so [oq 8 (.mov (oi 10))] .ret) .skip)) (.seq (.draw 17 [⟨0, om 54 0, []⟩, ⟨1, on 55 54, []⟩, ⟨2, ox 56 1 55, []⟩, ⟨3, ol 57 56, []⟩, ⟨4, om 58 1, []⟩, ⟨5, om 59 0, []⟩, ⟨6, on 60 59, []⟩, ⟨7, ox 61 1 60, []⟩, ⟨8, ol 62 61, []⟩, ⟨9, om 63 1, []⟩, ⟨10, oq 64 (.ixSl 1 62 63), []⟩, ⟨11, ol 65 64, []⟩, ⟨12, om 66 2, []⟩, ⟨13, om 67 3, []⟩, ⟨14, oe 68 (.call 39 [65, 66, 67]), [ol 57 56]⟩, ⟨15, oq 69 (.ixSl 1 57 58), []⟩, ⟨16, os (.store 1 69 68), []⟩]) (.seq (.draw 15 [⟨0, om 70 0, []⟩, ⟨1, om 71 0, []⟩, ⟨2, on 72 71, []⟩, ⟨3, ox 73 3 72, []⟩, ⟨4, ol 74 73, []⟩, ⟨5, om 75 1, []⟩, ⟨6, om 76 2, []⟩, ⟨7, om 77 3, []⟩, ⟨8, oe 78 (.append 1 1 (.val .nsl) 77), [ol 74 73]⟩, ⟨9, oq 79 (.build [(.bool false), (i6 0), (i6 0), .nsl] [(1, 1, 75), (2, 1, 76), (3, 1, 78)]), []⟩, ⟨10, oa 80 (.bslice 4 [(.bool false), (i6 0), (i6 0), .nsl] 1 [(0, 4, 79)]), []⟩, ⟨11, oe 81 (.append 4 48 74 80), []⟩, ⟨12, on 82 70, []⟩, ⟨13, ox 83 3 82, []⟩, ⟨14, os (.store 1 83 81), []⟩]) (so [oq 8 (.mov (oi 0))] .ret))))))))
noncomputable def f10.fn : PFn := .code (slotsN 84) f10.body f10.res
noncomputable def f10 (C : CW) (a0 a1 a2 a3 : AVal) (σ : S) (Q : AVal → S → Prop) : Prop :=
C 36 [a0] σ fun t11 σ1 =>
Som (unA .not t11) fun t12 =>
WIf t12 (
Ret [some (i6 11)] σ1 Q) (
C 37 [a1] σ1 fun t14 σ2 =>
Som (unA .not t14) fun t15 =>
sU t15 (some a2) fun t17 =>
sU t15 (binA .lss .num t17 (i6 0)) fun t18 =>
sP t15 (.bool true) t18 fun t19 =>
sU t19 (some a2) fun t21 =>
sU t19 (binA .gtr .num t21 (i6 1048576)) fun t22 =>
sP t19 (.bool true) t22 fun t23 =>
WIf t23 (
Ret [some (i6 1)] σ2 Q) (
sN a0 fun t25 =>
sF 1 t25 fun t26 =>
sL t26 σ2 fun t27 =>
Som (vIxSl 1 t27 a1) fun t29 =>
sL t29 σ2 fun t30 =>
Som (vLenSl t30) fun t31 =>
Som (vLenSl a3) fun t34 =>
sB .add a2 t34 fun t35 =>
sB .gtr t35 t31 fun t37 =>
sT t37 (some a0) fun t39 =>
sT t37 (some t31) fun t41 =>
sT t37 (some a2) fun t43 =>
sT t37 (some a3) fun t45 =>
sT t37 (vLenSl t45) fun t46 =>
sT t37 (some a0) fun t48 =>
sT t37 (vNilck t48) fun t49 =>
sT t37 (vFieldAddr 0 t49) fun t50 =>
sT t37 (vLoad1 t50 (σ2.bumpT 22)) fun t51 =>
gE1 (isB t37 true) (fun K => C 38 [t39] (σ2.bumpT 22) fun t40 σ3 => Sure ((notB (isB t37 true) || SameO (vLoad1 t50 σ3) t51)) (K t40 σ3)) (σ2.bumpT 22) fun t40 σ3 =>
sT t37 (binA .sub .num t40 t41) fun t42 =>
sT t37 (binA .add .num t42 t43) fun t44 =>
sT t37 (binA .add .num t44 t46) fun t47 =>
sT t37 (binA .gtr .num t47 t51) fun t52 =>
sP t37 t52 (.bool false) fun t53 =>
WIf t53 (
Ret [some (i6 10)] σ3 Q) (
sN a0 fun t55 =>
sF 1 t55 fun t56 =>
sL t56 (σ3.bumpT 17) fun t57 =>
sN a0 fun t60 =>
sF 1 t60 fun t61 =>
sL t61 (σ3.bumpT 17) fun t62 =>
Som (vIxSl 1 t62 a1) fun t64 =>
sL t64 (σ3.bumpT 17) fun t65 =>
C 39 [t65, a2, a3] (σ3.bumpT 17) fun t68 σ4 =>
Sure (SameO (vLoad1 t56 σ4) t57) <|
Som (vIxSl 1 t57 a1) fun t69 =>
sS 1 t69 t68 σ4 fun _ σ5 =>
sN a0 fun t72 =>
sF 3 t72 fun t73 =>
sL t73 (σ5.bumpT 15) fun t74 =>
Eff (appendA 1 1 .nsl a3 (σ5.bumpT 15)) fun t78 σ6 =>
Sure (SameO (vLoad1 t73 σ6) t74) <|
Som (vBuild [(.bool false), (i6 0), (i6 0), .nsl] [(1, 1, a1), (2, 1, a2), (3, 1, t78)]) fun t79 =>
Alb (aSliceV 4 [(.bool false), (i6 0), (i6 0), .nsl] 1 [(0, 4, t79)]) (Pos.plusT 10 σ5.next) σ6 fun t80 σ7 =>
Eff (appendA 4 48 t74 t80 σ7) fun t81 σ8 =>
sN a0 fun t82 =>
sF 3 t82 fun t83 =>
sS 1 t83 t81 σ8 fun _ σ9 =>
Ret [some (i6 0)] σ9 Q)))
theorem f10_eq {a0 a1 a2 a3 : AVal} : f10 C a0 a1 a2 a3 σ Q = wC C f10.body (E0.q 0 a0 1 a1 2 a2 3 a3) σ (retK f10.res Q) := by kernel_rfl
theorem f10_wf (ht : tab 10 = some f10.fn) {a0 a1 a2 a3 : AVal} (h : f10 (WF tab) a0 a1 a2 a3 σ Q) : WF tab 10 [a0, a1, a2, a3] σ Q := wf_of ht (by kernel_rfl) f10_eq h
noncomputable def f11.res : List PRes := [.tmp (sn 6)]
noncomputable def f11.body : PC := (so [oq 6 (.mov (oi 0))] (so [om 7 0, om 8 2, om 9 1, ob 10 .sub 8 9, ob 11 .add 10 (oi 1), ob 12 .rem 7 11, om 0 12] (.seq (so [om 13 0, ob 14 .lss 13 (oi 0)] (.cond 14 (.ops [om 15 0, om 16 2, ob 17 .add 15 16, om 18 1, ob 19 .sub 17 18, ob 20 .add 19 (oi 1), om 0 20]) .skip)) (so [om 21 1, om 22 0, ob 23 .add 21 22, om 6 23] .ret))))
noncomputable def f11.fn : PFn := .code (slotsN 24) f11.body f11.res
noncomputable def f11 (C : CW) (a0 a1 a2 : AVal) (σ : S) (Q : AVal → S → Prop) : Prop :=
sB .sub a2 a1 fun t10 =>
sB .add t10 (i6 1) fun t11 =>
sB .rem a0 t11 fun t12 =>
sB .lss t12 (i6 0) fun t14 =>
WIf t14 (
sB .add t12 a2 fun t17 =>
sB .sub t17 a1 fun t19 =>
sB .add t19 (i6 1) fun t20 =>
sB .add a1 t20 fun t23 =>
Ret [some t23] σ Q) (
sB .add a1 t12 fun t23 =>
Ret [some t23] σ Q)
theorem f11_eq {a0 a1 a2 : AVal} : f11 C a0 a1 a2 σ Q = wC C f11.body (((E0.set 0 a0).set 1 a1).set 2 a2) σ (retK f11.res Q) := by kernel_rfl
theorem f11_wf (ht : tab 11 = some f11.fn) {a0 a1 a2 : AVal} (h : f11 (WF tab) a0 a1 a2 σ Q) : WF tab 11 [a0, a1, a2] σ Q := wf_of ht (by kernel_rfl) f11_eq h
noncomputable def f12.c4 : PC := (.seq (so [om 67 0, oe 68 (.call 44 [67]), ob 69 .neq 68 (oi 0)] (.cond 69 (so [oq 2 (.mov (.val .nptr)), oq 3 (.mov (oi 11))] .ret) .skip)) (.seq (.seq (.draw 24 [⟨0, om 70 4, []⟩, ⟨1, on 71 70, []⟩, ⟨2, ox 72 5 71, []⟩, ⟨3, ol 73 72, []⟩, ⟨4, om 74 4, []⟩, ⟨5, on 75 74, []⟩, ⟨6, ox 76 6 75, []⟩, ⟨7, ol 77 76, []⟩, ⟨8, ob 78 .mul (oi 2) 77, []⟩, ⟨9, ob 79 .add 78 (oi 4096), []⟩, ⟨10, ob 80 .gtr 73 79, []⟩, ⟨11, om 81 80, []⟩, ⟨12, oqg 82 81 true (.mov 4), []⟩, ⟨13, oqg 83 81 true (.mov 4), []⟩, ⟨14, oqg 84 81 true (.nilck 83), []⟩, ⟨15, oqg 85 81 true (.fieldAddr 3 84), []⟩, ⟨16, oqg 86 81 true (.load1 85), []⟩, ⟨17, oqg 87 81 true (.mov 4), []⟩, ⟨18, oqg 88 81 true (.nilck 87), []⟩, ⟨19, oqg 89 81 true (.fieldAddr 4 88), []⟩, ⟨20, oqg 90 81 true (.load1 89), []⟩, ⟨21, oeg 91 81 true (.call 45 [82, 86, 90]), []⟩, ⟨22, oqg 92 81 true (.bin .eql .num 91 (oi 11)), []⟩, ⟨23, oq 93 (.pick 81 92 oF), []⟩]) (.cond 93 (so [oq 2 (.mov (.val .nptr)), oq 3 (.mov (oi 11))] .ret) .skip)) (so [om 94 4, om 2 94, oq 3 (.mov (oi 0))] .ret)))
noncomputable def f12.c3 : PC := (so [om 55 0, om 56 8, oe 57 (.call 42 [55, 56]), om 58 9, ob 59 .gtr 57 58, om 60 59, oqg 61 60 true (.mov 0), oqg 62 60 true (.mov 8), oqg 63 60 true (.mov 9), oeg 64 60 true (.call 43 [61, 62, 63]), oqg 65 60 true (.bin .neq .num 64 (oi 0)), oq 66 (.pick 60 65 oF)] (.cond 66 (so [oq 2 (.mov (.val .nptr)), oq 3 (.mov (oi 11))] .ret) .skip))
noncomputable def f12.t2 (R3 : PC) : PC := (.seq (so [om 41 8, ob 42 .leq 41 (oi 47)] (.cond 42 .skip (.exit 2))) (.seq (.block 3 (so [oq 9 (.mov (oi 0))] (.seq (so [om 45 8, om 46 4, on 47 46, ox 48 1 47, ol 49 48, ob 50 .eql 45 49] (.cond 50 (.ops [om 51 4, on 52 51, ox 53 5 52, ol 54 53, om 9 54]) .skip)) R3))) (.ops [om 43 8, ob 44 .add 43 (oi 1), om 8 44])))
noncomputable def f12.c2 : PC := f12.t2 f12.c3
noncomputable def f12.t1 (R2 R4 : PC) : PC := (.seq (so [oq 8 (.mov (oi 8))] (.block 2 (.loop R2))) R4)
noncomputable def f12.c1 : PC := f12.t1 f12.c2 f12.c4
noncomputable def f12.c0 : PC := (so [ob 20 .lss 19 18] (.seq (.cond 20 .skip (.exit 0)) (.seq (.block 1 (so [oq 21 (.ixSl 1 17 19), ol 22 21, om 6 22] (so [om 23 0, om 24 6, oe 25 (.call 41 [23, 24]), om 7 25] (.seq (.draw 13 [⟨0, om 26 7, []⟩, ⟨1, oq 27 (.bin .neq .ptr 26 (.val .nptr)), []⟩, ⟨2, om 28 27, []⟩, ⟨3, oqg 29 28 true (.mov 7), []⟩, ⟨4, oqg 30 28 true (.nilck 29), []⟩, ⟨5, oqg 31 28 true (.fieldAddr 2 30), []⟩, ⟨6, oqg 32 28 true (.load1 31), []⟩, ⟨7, oqg 33 28 true (.mov 4), []⟩, ⟨8, oqg 34 28 true (.nilck 33), []⟩, ⟨9, oqg 35 28 true (.fieldAddr 2 34), []⟩, ⟨10, oqg 36 28 true (.load1 35), []⟩, ⟨11, oqg 37 28 true (.bin .gtr .num 32 36), []⟩, ⟨12, oq 38 (.pick 28 37 oF), []⟩]) (.cond 38 (.ops [om 39 7, om 4 39]) .skip))))) (.ops [ob 40 .add 19 (oi 1), om 19 40]))))
noncomputable def f12.res : List PRes := [.tmp (sn 2), .tmp (sn 3)]
noncomputable def f12.p4 (C : CW) (Q : AVal → S → Prop) (E : En) (σ : S) : Prop :=
C 44 [(E 0)] σ fun t68 σ1 =>
sB .neq t68 (i6 0) fun t69 =>
WIf t69 (
Ret [some .nptr, some (i6 11)] σ1 Q) (
sN (E 4) fun t71 =>
sF 5 t71 fun t72 =>
sL t72 (σ1.bumpT 24) fun t73 =>
sN (E 4) fun t75 =>
sF 6 t75 fun t76 =>
sL t76 (σ1.bumpT 24) fun t77 =>
sB .mul (i6 2) t77 fun t78 =>
sB .add t78 (i6 4096) fun t79 =>
sB .gtr t73 t79 fun t80 =>
sT t80 (some (E 4)) fun t82 =>
sT t80 (some (E 4)) fun t83 =>
sT t80 (vNilck t83) fun t84 =>
sT t80 (vFieldAddr 3 t84) fun t85 =>
sT t80 (vLoad1 t85 (σ1.bumpT 24)) fun t86 =>
sT t80 (some (E 4)) fun t87 =>
sT t80 (vNilck t87) fun t88 =>
sT t80 (vFieldAddr 4 t88) fun t89 =>
sT t80 (vLoad1 t89 (σ1.bumpT 24)) fun t90 =>
gE1 (isB t80 true) (fun K => C 45 [t82, t86, t90] (σ1.bumpT 24) K) (σ1.bumpT 24) fun t91 σ2 =>
sT t80 (binA .eql .num t91 (i6 11)) fun t92 =>
sP t80 t92 (.bool false) fun t93 =>
WIf t93 (
Ret [some .nptr, some (i6 11)] σ2 Q) (
Ret [some (E 4), some (i6 0)] σ2 Q))
theorem f12.p4_eq : f12.p4 C Q E σ = wC C f12.c4 E σ (retK f12.res Q) := by kernel_rfl
abbrev f12.J4 (C : CW) (Q : AVal → S → Prop) (E : En) (σ : S) : Prop := wC C f12.c4 E σ (retK f12.res Q)
theorem f12.p4_of (h : f12.p4 C Q E σ) : f12.J4 C Q E σ := Eq.mp f12.p4_eq h
noncomputable def f12.p3 (C : CW) (Q : AVal → S → Prop) (R2 R4 : PC) (E : En) (σ : S) : Prop :=
C 42 [(E 0), (E 8)] σ fun t57 σ1 =>
sB .gtr t57 (E 9) fun t59 =>
sT t59 (some (E 0)) fun t61 =>
sT t59 (some (E 8)) fun t62 =>
sT t59 (some (E 9)) fun t63 =>
gE1 (isB t59 true) (fun K => C 43 [t61, t62, t63] σ1 K) σ1 fun t64 σ2 =>
sT t59 (binA .neq .num t64 (i6 0)) fun t65 =>
sP t59 t65 (.bool false) fun t66 =>
WIf t66 (
Ret [some .nptr, some (i6 11)] σ2 Q) (
sB .add (E 8) (i6 1) fun t44 =>
wC C (.loop R2) ((((((E.q 55 (E 0) 56 (E 8) 57 t57 58 (E 9)).q 59 t59 60 t59 61 t61 62 t62).q 63 t63 64 t64 65 t65 66 t66).set 43 (E 8)).set 44 t44).set 8 t44) σ2 (blockK 2 (seqK (wC C R4) (retK f12.res Q))))
theorem f12.p3_eq {R2 R4 : PC} : f12.p3 C Q R2 R4 E σ = wC C f12.c3 E σ (blockK 3 (seqK (wC C (.ops [om 43 8, ob 44 .add 43 (oi 1), om 8 44])) (loopK C R2 (blockK 2 (seqK (wC C R4) (retK f12.res Q)))))) := by kernel_rfl
abbrev f12.J3 (C : CW) (Q : AVal → S → Prop) (E : En) (σ : S) : Prop := wC C f12.c3 E σ (blockK 3 (seqK (wC C (.ops [om 43 8, ob 44 .add 43 (oi 1), om 8 44])) (loopK C f12.c2 (blockK 2 (seqK (wC C f12.c4) (retK f12.res Q))))))
theorem f12.p3_of (h : f12.p3 C Q f12.c2 f12.c4 E σ) : f12.J3 C Q E σ := Eq.mp f12.p3_eq h
noncomputable def f12.p2 (C : CW) (Q : AVal → S → Prop) (R3 R2 R4 : PC) (E : En) (σ : S) : Prop :=
sB .leq (E 8) (i6 47) fun t42 =>
WIf t42 (
sN (E 4) fun t47 =>
sF 1 t47 fun t48 =>
sL t48 σ fun t49 =>
sB .eql (E 8) t49 fun t50 =>
WIf t50 (
sN (E 4) fun t52 =>
sF 5 t52 fun t53 =>
sL t53 σ fun t54 =>
wC C R3 (((((E.q 41 (E 8) 42 t42 9 (i6 0) 45 (E 8)).q 46 (E 4) 47 t47 48 t48 49 t49).q 50 t50 51 (E 4) 52 t52 53 t53).set 54 t54).set 9 t54) σ (blockK 3 (seqK (wC C (.ops [om 43 8, ob 44 .add 43 (oi 1), om 8 44])) (loopK C R2 (blockK 2 (seqK (wC C R4) (retK f12.res Q))))))) (
wC C R3 (((E.q 41 (E 8) 42 t42 9 (i6 0) 45 (E 8)).q 46 (E 4) 47 t47 48 t48 49 t49).set 50 t50) σ (blockK 3 (seqK (wC C (.ops [om 43 8, ob 44 .add 43 (oi 1), om 8 44])) (loopK C R2 (blockK 2 (seqK (wC C R4) (retK f12.res Q)))))))) (
wC C R4 ((E.set 41 (E 8)).set 42 t42) σ (retK f12.res Q))
theorem f12.p2_eq {R3 R2 R4 : PC} : f12.p2 C Q R3 R2 R4 E σ = wC C (f12.t2 R3) E σ (loopK C R2 (blockK 2 (seqK (wC C R4) (retK f12.res Q)))) := by kernel_rfl
abbrev f12.L2 (C : CW) (Q : AVal → S → Prop) (E : En) (σ : S) : Prop := wC C (.loop f12.c2) E σ (blockK 2 (seqK (wC C f12.c4) (retK f12.res Q)))
theorem f12.p2_of (h : f12.p2 (WF tab) Q f12.c3 f12.c2 f12.c4 E σ) : f12.L2 (WF tab) Q E σ := wLoop_step (Eq.mp f12.p2_eq h)
noncomputable def f12.p1 (C : CW) (Q : AVal → S → Prop) (R2 R4 : PC) (E : En) (σ : S) : Prop :=
wC C (.loop R2) (E.set 8 (i6 8)) σ (blockK 2 (seqK (wC C R4) (retK f12.res Q)))
theorem f12.p1_eq {R2 R4 : PC} : f12.p1 C Q R2 R4 E σ = wC C (f12.t1 R2 R4) E σ (retK f12.res Q) := by kernel_rfl
abbrev f12.J1 (C : CW) (Q : AVal → S → Prop) (E : En) (σ : S) : Prop := wC C f12.c1 E σ (retK f12.res Q)
theorem f12.p1_of (h : f12.p1 C Q f12.c2 f12.c4 E σ) : f12.J1 C Q E σ := Eq.mp f12.p1_eq h
noncomputable def f12.p0 (C : CW) (Q : AVal → S → Prop) (R0 R1 : PC) (E : En) (σ : S) : Prop :=
sB .lss (E 19) (E 18) fun t20 =>
WIf t20 (
Som (vIxSl 1 (E 17) (E 19)) fun t21 =>
sL t21 σ fun t22 =>
C 41 [(E 0), t22] σ fun t25 σ1 =>
Som (binA .neq .ptr t25 .nptr) fun t27 =>
sT t27 (some t25) fun t29 =>
sT t27 (vNilck t29) fun t30 =>
sT t27 (vFieldAddr 2 t30) fun t31 =>
sT t27 (vLoad1 t31 (σ1.bumpT 13)) fun t32 =>
sT t27 (some (E 4)) fun t33 =>
sT t27 (vNilck t33) fun t34 =>
sT t27 (vFieldAddr 2 t34) fun t35 =>
sT t27 (vLoad1 t35 (σ1.bumpT 13)) fun t36 =>
sT t27 (binA .gtr .num t32 t36) fun t37 =>
sP t27 t37 (.bool false) fun t38 =>
WIf t38 (
sB .add (E 19) (i6 1) fun t40 =>
wC C (.loop R0) (((((((E.q 20 t20 21 t21 22 t22 6 t22).q 23 (E 0) 24 t22 25 t25 7 t25).q 26 t25 27 t27 28 t27 29 t29).q 30 t30 31 t31 32 t32 33 t33).q 34 t34 35 t35 36 t36 37 t37).q 38 t38 39 t25 4 t25 40 t40).set 19 t40) (σ1.bumpT 13) (blockK 0 (seqK (wC C R1) (retK f12.res Q)))) (
sB .add (E 19) (i6 1) fun t40 =>
wC C (.loop R0) ((((((((E.q 20 t20 21 t21 22 t22 6 t22).q 23 (E 0) 24 t22 25 t25 7 t25).q 26 t25 27 t27 28 t27 29 t29).q 30 t30 31 t31 32 t32 33 t33).q 34 t34 35 t35 36 t36 37 t37).set 38 t38).set 40 t40).set 19 t40) (σ1.bumpT 13) (blockK 0 (seqK (wC C R1) (retK f12.res Q))))) (
wC C R1 (E.set 20 t20) σ (retK f12.res Q))
theorem f12.p0_eq {R0 R1 : PC} : f12.p0 C Q R0 R1 E σ = wC C f12.c0 E σ (loopK C R0 (blockK 0 (seqK (wC C R1) (retK f12.res Q)))) := by kernel_rfl
abbrev f12.L0 (C : CW) (Q : AVal → S → Prop) (E : En) (σ : S) : Prop := wC C (.loop f12.c0) E σ (blockK 0 (seqK (wC C f12.c1) (retK f12.res Q)))
theorem f12.p0_of (h : f12.p0 (WF tab) Q f12.c0 f12.c1 E σ) : f12.L0 (WF tab) Q E σ := wLoop_step (Eq.mp f12.p0_eq h)
noncomputable def f12.body (R0 R1 : PC) : PC := (so [oq 2 (.mov (.val .nptr)), oq 3 (.mov (oi 0))] (.seq (so [om 10 0, oq 11 (.bin .eql .ptr 10 (.val .nptr))] (.cond 11 (so [oq 2 (.mov (.val .nptr)), oq 3 (.mov (oi 1))] .ret) .skip)) (.seq (so [om 12 0, oe 13 (.call 40 [12])] (.cond 13 (so [oq 2 (.mov (.val .nptr)), oq 3 (.mov (oi 11))] .ret) .skip)) (so [om 14 0, oq 15 (.build [.nptr, (i6 0), (i6 0), (i6 0), .nsl, (i6 0), (i6 0)] [(0, 1, 14), (1, 1, (oi 8)), (3, 1, (oi 1))]), oa 16 (.box 15), om 4 16] (.seq (so [oa 17 (.bslice 1 [(i6 0)] 2 [(0, 1, (oi 8)), (1, 1, (oi 9))]), oq 18 (.lenSl 17), oq 19 (.mov (oi 0))] (.block 0 (.loop R0))) R1)))))
noncomputable def f12.fn : PFn := .code (slotsN 95) (f12.body f12.c0 f12.c1) f12.res
noncomputable def f12 (C : CW) (R0 R1 : PC) (a0 : AVal) (σ : S) (Q : AVal → S → Prop) : Prop :=
Som (binA .eql .ptr a0 .nptr) fun t11 =>
WIf t11 (
Ret [some .nptr, some (i6 1)] σ Q) (
C 40 [a0] σ fun t13 σ1 =>
WIf t13 (
Ret [some .nptr, some (i6 11)] σ1 Q) (
Som (vBuild [.nptr, (i6 0), (i6 0), (i6 0), .nsl, (i6 0), (i6 0)] [(0, 1, a0), (1, 1, (i6 8)), (3, 1, (i6 1))]) fun t15 =>
Ala (aBoxV t15) σ1 fun t16 σ2 =>
Ala (aSliceV 1 [(i6 0)] 2 [(0, 1, (i6 8)), (1, 1, (i6 9))]) σ2 fun t17 σ3 =>
Som (vLenSl t17) fun t18 =>
wC C (.loop R0) (((((E0.q 0 a0 2 .nptr 3 (i6 0) 10 a0).q 11 t11 12 a0 13 t13 14 a0).q 15 t15 16 t16 4 t16 17 t17).set 18 t18).set 19 (i6 0)) σ3 (blockK 0 (seqK (wC C R1) (retK f12.res Q)))))
theorem f12_eq {R0 R1 : PC} {a0 : AVal} : f12 C R0 R1 a0 σ Q = wC C (f12.body R0 R1) (E0.set 0 a0) σ (retK f12.res Q) := by kernel_rfl
theorem f12_wf (ht : tab 12 = some f12.fn) {a0 : AVal} (h : f12 (WF tab) f12.c0 f12.c1 a0 σ Q) : WF tab 12 [a0] σ Q := wf_of ht (by kernel_rfl) f12_eq h
noncomputable def f14.res : List PRes := [.tmp (sn 2)]
noncomputable def f14.body : PC := (so [oq 2 (.mov (oi 0))] (so [om 3 0, on 4 3, ox 5 3 4, ol 6 5, om 2 6] .ret))
noncomputable def f14.fn : PFn := .code (slotsN 7) f14.body f14.res
noncomputable def f14 (C : CW) (a0 : AVal) (σ : S) (Q : AVal → S → Prop) : Prop :=
sN a0 fun t4 =>
sF 3 t4 fun t5 =>
sL t5 σ fun t6 =>
Ret [some t6] σ Q
theorem f14_eq {a0 : AVal} : f14 C a0 σ Q = wC C f14.body (E0.set 0 a0) σ (retK f14.res Q) := by kernel_rfl
theorem f14_wf (ht : tab 14 = some f14.fn) {a0 : AVal} (h : f14 (WF tab) a0 σ Q) : WF tab 14 [a0] σ Q := wf_of ht (by kernel_rfl) f14_eq h
noncomputable def f15.res : List PRes := [.tmp (sn 2)]
noncomputable def f15.body : PC := (so [oq 2 (.mov (oi 0))] (.seq (.draw 12 [⟨0, om 3 0, []⟩, ⟨1, on 4 3, []⟩, ⟨2, ox 5 3 4, []⟩, ⟨3, ol 6 5, []⟩, ⟨4, om 7 0, []⟩, ⟨5, on 8 7, []⟩, ⟨6, ox 9 4 8, []⟩, ⟨7, ol 10 9, []⟩, ⟨8, oq 11 (.lenSl 10), []⟩, ⟨9, ob 12 .add 6 11, []⟩, ⟨10, ob 13 .sub 12 (oi 1), []⟩, ⟨11, om 2 13, []⟩]) .ret))
noncomputable def f15.fn : PFn := .code (slotsN 14) f15.body f15.res
noncomputable def f15 (C : CW) (a0 : AVal) (σ : S) (Q : AVal → S → Prop) : Prop :=
sN a0 fun t4 =>
sF 3 t4 fun t5 =>
sL t5 (σ.bumpT 12) fun t6 =>
sN a0 fun t8 =>
sF 4 t8 fun t9 =>
sL t9 (σ.bumpT 12) fun t10 =>
Som (vLenSl t10) fun t11 =>
sB .add t6 t11 fun t12 =>
sB .sub t12 (i6 1) fun t13 =>
Ret [some t13] (σ.bumpT 12) Q
theorem f15_eq {a0 : AVal} : f15 C a0 σ Q = wC C f15.body (E0.set 0 a0) σ (retK f15.res Q) := by kernel_rfl
theorem f15_wf (ht : tab 15 = some f15.fn) {a0 : AVal} (h : f15 (WF tab) a0 σ Q) : WF tab 15 [a0] σ Q := wf_of ht (by kernel_rfl) f15_eq h
noncomputable def f16.res : List PRes := [.tmp (sn 4), .tmp (sn 5)]
noncomputable def f16.body : PC := (so [oq 4 (.mov (.val (.str []))), oq 5 (.mov oF)] (.seq (so [om 6 1, om 7 0, on 8 7, ox 9 3 8, ol 10 9, ob 11 .lss 6 10, om 12 11, oqg 13 12 false (.mov 1), oqg 14 12 false (.mov 0), oeg 15 12 false (.call 15 [14]), oqg 16 12 false (.bin .gtr .num 13 15), oq 17 (.pick 12 oT 16)] (.cond 17 (so [oq 4 (.mov (.val (.str []))), oq 5 (.mov oF)] .ret) .skip)) (.seq (.draw 14 [⟨0, om 18 0, []⟩, ⟨1, on 19 18, []⟩, ⟨2, ox 20 4 19, []⟩, ⟨3, ol 21 20, []⟩, ⟨4, om 22 1, []⟩, ⟨5, om 23 0, []⟩, ⟨6, on 24 23, []⟩, ⟨7, ox 25 3 24, []⟩, ⟨8, ol 26 25, []⟩, ⟨9, ob 27 .sub 22 26, []⟩, ⟨10, oq 28 (.ixSl 1 21 27), []⟩, ⟨11, ol 29 28, []⟩, ⟨12, om 4 29, []⟩, ⟨13, oq 5 (.mov oT), []⟩]) .ret)))
noncomputable def f16.fn : PFn := .code (slotsN 30) f16.body f16.res
noncomputable def f16 (C : CW) (a0 a1 : AVal) (σ : S) (Q : AVal → S → Prop) : Prop :=
sN a0 fun t8 =>
sF 3 t8 fun t9 =>
sL t9 σ fun t10 =>
sB .lss a1 t10 fun t11 =>
sU t11 (some a1) fun t13 =>
sU t11 (some a0) fun t14 =>
gE1 (isB t11 false) (fun K => C 15 [t14] σ K) σ fun t15 σ1 =>
sU t11 (binA .gtr .num t13 t15) fun t16 =>
sP t11 (.bool true) t16 fun t17 =>
WIf t17 (
Ret [some (.str []), some (.bool false)] σ1 Q) (
sN a0 fun t19 =>
sF 4 t19 fun t20 =>
sL t20 (σ1.bumpT 14) fun t21 =>
sN a0 fun t24 =>
sF 3 t24 fun t25 =>
sL t25 (σ1.bumpT 14) fun t26 =>
sB .sub a1 t26 fun t27 =>
Som (vIxSl 1 t21 t27) fun t28 =>
sL t28 (σ1.bumpT 14) fun t29 =>
Ret [some t29, some (.bool true)] (σ1.bumpT 14) Q)
theorem f16_eq {a0 a1 : AVal} : f16 C a0 a1 σ Q = wC C f16.body ((E0.set 0 a0).set 1 a1) σ (retK f16.res Q) := by kernel_rfl
theorem f16_wf (ht : tab 16 = some f16.fn) {a0 a1 : AVal} (h : f16 (WF tab) a0 a1 σ Q) : WF tab 16 [a0, a1] σ Q := wf_of ht (by kernel_rfl) f16_eq h
noncomputable def f17.res : List PRes := [.tmp (sn 4)]
noncomputable def f17.body : PC := (so [oq 4 (.mov (oi 0))] (.seq (so [om 5 1, om 6 0, on 7 6, ox 8 3 7, ol 9 8, ob 10 .lss 5 9, om 11 10, oqg 12 11 false (.mov 1), oqg 13 11 false (.mov 0), oeg 14 11 false (.call 15 [13]), oqg 15 11 false (.bin .add .num 14 (oi 1)), oqg 16 11 false (.bin .gtr .num 12 15), oq 17 (.pick 11 oT 16)] (.cond 17 (so [oq 4 (.mov (oi 1))] .ret) .skip)) (.seq (so [om 18 0, on 19 18, ox 20 0 19, ol 21 20, oe 22 (.call 40 [21])] (.cond 22 (so [oq 4 (.mov (oi 11))] .ret) .skip)) (.seq (so [om 23 1, om 24 0, oe 25 (.call 15 [24]), ob 26 .add 25 (oi 1), ob 27 .eql 23 26] (.cond 27 (so [oq 4 (.mov (oi 0))] .ret) .skip)) (.seq (.draw 19 [⟨0, om 28 0, []⟩, ⟨1, om 29 1, []⟩, ⟨2, om 30 0, []⟩, ⟨3, on 31 30, []⟩, ⟨4, ox 32 3 31, []⟩, ⟨5, ol 33 32, []⟩, ⟨6, om 34 0, []⟩, ⟨7, on 35 34, []⟩, ⟨8, ox 36 4 35, []⟩, ⟨9, ol 37 36, []⟩, ⟨10, om 38 1, []⟩, ⟨11, om 39 0, []⟩, ⟨12, on 40 39, []⟩, ⟨13, ox 41 3 40, []⟩, ⟨14, ol 42 41, []⟩, ⟨15, ob 43 .sub 38 42, []⟩, ⟨16, oq 44 (.slSl 1 37 none (some 43) none), []⟩, ⟨17, oe 45 (.call 47 [28, (oi 2), 29, 33, 44]), []⟩, ⟨18, om 4 45, []⟩]) .ret)))))
noncomputable def f17.fn : PFn := .code (slotsN 46) f17.body f17.res
noncomputable def f17 (C : CW) (a0 a1 : AVal) (σ : S) (Q : AVal → S → Prop) : Prop :=
sN a0 fun t7 =>
sF 3 t7 fun t8 =>
sL t8 σ fun t9 =>
sB .lss a1 t9 fun t10 =>
sU t10 (some a1) fun t12 =>
sU t10 (some a0) fun t13 =>
gE1 (isB t10 false) (fun K => C 15 [t13] σ K) σ fun t14 σ1 =>
sU t10 (binA .add .num t14 (i6 1)) fun t15 =>
sU t10 (binA .gtr .num t12 t15) fun t16 =>
sP t10 (.bool true) t16 fun t17 =>
WIf t17 (
Ret [some (i6 1)] σ1 Q) (
sN a0 fun t19 =>
sF 0 t19 fun t20 =>
sL t20 σ1 fun t21 =>
C 40 [t21] σ1 fun t22 σ2 =>
WIf t22 (
Ret [some (i6 11)] σ2 Q) (
C 15 [a0] σ2 fun t25 σ3 =>
sB .add t25 (i6 1) fun t26 =>
sB .eql a1 t26 fun t27 =>
WIf t27 (
Ret [some (i6 0)] σ3 Q) (
sN a0 fun t31 =>
sF 3 t31 fun t32 =>
sL t32 (σ3.bumpT 19) fun t33 =>
sN a0 fun t35 =>
sF 4 t35 fun t36 =>
sL t36 (σ3.bumpT 19) fun t37 =>
sN a0 fun t40 =>
sF 3 t40 fun t41 =>
sL t41 (σ3.bumpT 19) fun t42 =>
sB .sub a1 t42 fun t43 =>
Som (vSlSl 1 t37 none (some t43) none) fun t44 =>
C 47 [a0, (i6 2), a1, t33, t44] (σ3.bumpT 19) fun t45 σ4 =>
Ret [some t45] σ4 Q)))
theorem f17_eq {a0 a1 : AVal} : f17 C a0 a1 σ Q = wC C f17.body ((E0.set 0 a0).set 1 a1) σ (retK f17.res Q) := by kernel_rfl
theorem f17_wf (ht : tab 17 = some f17.fn) {a0 a1 : AVal} (h : f17 (WF tab) a0 a1 σ Q) : WF tab 17 [a0, a1] σ Q := wf_of ht (by kernel_rfl) f17_eq h
noncomputable def f18.c4 : PC := (so [ob 92 .lss 91 90] (.seq (.cond 92 .skip (.exit 4)) (.seq (.block 5 (so [om 93 91, oq 94 (.ixSl 1 89 91), ol 95 94, om 13 93, om 14 95] (.ops [om 96 0, om 97 1, om 98 13, ob 99 .add 97 98, om 100 14, oe 101 (.call 52 [96, 99, 100])]))) (.ops [ob 102 .add 91 (oi 1), om 91 102]))))
noncomputable def f18.t3 (R4 : PC) : PC := (.seq (so [om 83 0, om 84 9, oe 85 (.call 51 [83, 84]), om 12 85] (so [om 86 12, ob 87 .neq 86 (oi 0)] (.cond 87 (so [om 88 12, om 6 88] .ret) .skip))) (.seq (so [om 89 2, oq 90 (.lenSl 89), oq 91 (.mov (oi 0))] (.block 4 (.loop R4))) (so [oq 6 (.mov (oi 0))] .ret)))
noncomputable def f18.c3 : PC := f18.t3 f18.c4
noncomputable def f18.c2 : PC := (so [ob 67 .lss 66 65] (.seq (.cond 67 .skip (.exit 2)) (.seq (.block 3 (so [om 68 66, oq 69 (.ixSl 1 64 66), ol 70 69, om 10 68, om 11 70] (.ops [om 71 9, om 72 0, on 73 72, ox 74 2 73, ol 75 74, om 76 1, om 77 10, ob 78 .add 76 77, om 79 11, oe 80 (.call 50 [(.val .nsl), (oi 1), 75, 78, (oi 0), 79]), oe 81 (.append 1 1 71 80), om 9 81]))) (.ops [ob 82 .add 66 (oi 1), om 66 82]))))
noncomputable def f18.t1 (R2 R3 : PC) : PC := (.seq (so [om 31 0, on 32 31, ox 33 0 32, ol 34 33, oe 35 (.call 40 [34])] (.cond 35 (so [oq 6 (.mov (oi 11))] .ret) .skip)) (.seq (so [om 36 2, oq 37 (.lenSl 36), ob 38 .eql 37 (oi 0), om 39 38, oqg 40 39 true (.mov 0), oqg 41 39 true (.nilck 40), oqg 42 39 true (.fieldAddr 4 41), oqg 43 39 true (.load1 42), oqg 44 39 true (.lenSl 43), oqg 45 39 true (.bin .gtr .num 44 (oi 0)), oqg 46 39 true (.mov 45), oqg 47 46 false (.mov 1), oqg 48 46 false (.mov 0), oqg 49 46 false (.nilck 48), oqg 50 46 false (.fieldAddr 3 49), oqg 51 46 false (.load1 50), oqg 52 46 false (.bin .eql .num 47 51), oqg 53 39 true (.pick 46 oT 52), oq 54 (.pick 39 53 oF)] (.cond 54 (so [oq 6 (.mov (oi 0))] .ret) .skip)) (.seq (so [om 55 2, oq 56 (.lenSl 55), ob 57 .eql 56 (oi 0)] (.cond 57 (so [om 58 0, om 59 1, om 60 1, oe 61 (.call 47 [58, (oi 4), 59, 60, (.val .nsl)]), om 6 61] .ret) .skip)) (so [om 62 0, oe 63 (.call 49 [62]), om 9 63] (.seq (so [om 64 2, oq 65 (.lenSl 64), oq 66 (.mov (oi 0))] (.block 2 (.loop R2))) R3)))))
noncomputable def f18.c1 : PC := f18.t1 f18.c2 f18.c3
noncomputable def f18.c0 : PC := (so [ob 24 .lss 23 22] (.seq (.cond 24 .skip (.exit 0)) (.seq (.block 1 (so [oq 25 (.ixSl 1 21 23), ol 26 25, om 8 26] (so [om 27 8, oq 28 (.lenStr 27), ob 29 .gtr 28 (oi 16284)] (.cond 29 (so [oq 6 (.mov (oi 1))] .ret) .skip)))) (.ops [ob 30 .add 23 (oi 1), om 23 30]))))
noncomputable def f18.res : List PRes := [.tmp (sn 6)]
noncomputable def f18.p4 (C : CW) (Q : AVal → S → Prop) (R4 : PC) (E : En) (σ : S) : Prop :=
sB .lss (E 91) (E 90) fun t92 =>
WIf t92 (
Som (vIxSl 1 (E 89) (E 91)) fun t94 =>
sL t94 σ fun t95 =>
sB .add (E 1) (E 91) fun t99 =>
C 52 [(E 0), t99, t95] σ fun t101 σ1 =>
sB .add (E 91) (i6 1) fun t102 =>
wC C (.loop R4) (((((E.q 92 t92 93 (E 91) 94 t94 95 t95).q 13 (E 91) 14 t95 96 (E 0) 97 (E 1)).q 98 (E 91) 99 t99 100 t95 101 t101).set 102 t102).set 91 t102) σ1 (blockK 4 (seqK (wC C (so [oq 6 (.mov (oi 0))] .ret)) (retK f18.res Q)))) (
Ret [some (i6 0)] σ Q)
theorem f18.p4_eq {R4 : PC} : f18.p4 C Q R4 E σ = wC C f18.c4 E σ (loopK C R4 (blockK 4 (seqK (wC C (so [oq 6 (.mov (oi 0))] .ret)) (retK f18.res Q)))) := by kernel_rfl
abbrev f18.L4 (C : CW) (Q : AVal → S → Prop) (E : En) (σ : S) : Prop := wC C (.loop f18.c4) E σ (blockK 4 (seqK (wC C (so [oq 6 (.mov (oi 0))] .ret)) (retK f18.res Q)))
theorem f18.p4_of (h : f18.p4 (WF tab) Q f18.c4 E σ) : f18.L4 (WF tab) Q E σ := wLoop_step (Eq.mp f18.p4_eq h)
noncomputable def f18.p3 (C : CW) (Q : AVal → S → Prop) (R4 : PC) (E : En) (σ : S) : Prop :=
C 51 [(E 0), (E 9)] σ fun t85 σ1 =>
sB .neq t85 (i6 0) fun t87 =>
WIf t87 (
Ret [some t85] σ1 Q) (
Som (vLenSl (E 2)) fun t90 =>
wC C (.loop R4) (((E.q 83 (E 0) 84 (E 9) 85 t85 12 t85).q 86 t85 87 t87 89 (E 2) 90 t90).set 91 (i6 0)) σ1 (blockK 4 (seqK (wC C (so [oq 6 (.mov (oi 0))] .ret)) (retK f18.res Q))))
theorem f18.p3_eq {R4 : PC} : f18.p3 C Q R4 E σ = wC C (f18.t3 R4) E σ (retK f18.res Q) := by kernel_rfl
abbrev f18.J3 (C : CW) (Q : AVal → S → Prop) (E : En) (σ : S) : Prop := wC C f18.c3 E σ (retK f18.res Q)
theorem f18.p3_of (h : f18.p3 C Q f18.c4 E σ) : f18.J3 C Q E σ := Eq.mp f18.p3_eq h
noncomputable def f18.p2 (C : CW) (Q : AVal → S → Prop) (R2 R3 : PC) (E : En) (σ : S) : Prop :=
sB .lss (E 66) (E 65) fun t67 =>
WIf t67 (
Som (vIxSl 1 (E 64) (E 66)) fun t69 =>
sL t69 σ fun t70 =>
sN (E 0) fun t73 =>
sF 2 t73 fun t74 =>
sL t74 σ fun t75 =>
sB .add (E 1) (E 66) fun t78 =>
C 50 [.nsl, (i6 1), t75, t78, (i6 0), t70] σ fun t80 σ1 =>
Eff (appendA 1 1 (E 9) t80 σ1) fun t81 σ2 =>
sB .add (E 66) (i6 1) fun t82 =>
wC C (.loop R2) (((((E.q 67 t67 68 (E 66) 69 t69 70 t70).q 10 (E 66) 11 t70 71 (E 9) 72 (E 0)).q 73 t73 74 t74 75 t75 76 (E 1)).q 77 (E 66) 78 t78 79 t70 80 t80).q 81 t81 9 t81 82 t82 66 t82) σ2 (blockK 2 (seqK (wC C R3) (retK f18.res Q)))) (
wC C R3 (E.set 67 t67) σ (retK f18.res Q))
theorem f18.p2_eq {R2 R3 : PC} : f18.p2 C Q R2 R3 E σ = wC C f18.c2 E σ (loopK C R2 (blockK 2 (seqK (wC C R3) (retK f18.res Q)))) := by kernel_rfl
abbrev f18.L2 (C : CW) (Q : AVal → S → Prop) (E : En) (σ : S) : Prop := wC C (.loop f18.c2) E σ (blockK 2 (seqK (wC C f18.c3) (retK f18.res Q)))
theorem f18.p2_of (h : f18.p2 (WF tab) Q f18.c2 f18.c3 E σ) : f18.L2 (WF tab) Q E σ := wLoop_step (Eq.mp f18.p2_eq h)
noncomputable def f18.p1 (C : CW) (Q : AVal → S → Prop) (R2 R3 : PC) (E : En) (σ : S) : Prop :=
sN (E 0) fun t32 =>
sF 0 t32 fun t33 =>
sL t33 σ fun t34 =>
C 40 [t34] σ fun t35 σ1 =>
WIf t35 (
Ret [some (i6 11)] σ1 Q) (
Som (vLenSl (E 2)) fun t37 =>
sB .eql t37 (i6 0) fun t38 =>
sT t38 (some (E 0)) fun t40 =>
sT t38 (vNilck t40) fun t41 =>
sT t38 (vFieldAddr 4 t41) fun t42 =>
sT t38 (vLoad1 t42 σ1) fun t43 =>
sT t38 (vLenSl t43) fun t44 =>
sT t38 (binA .gtr .num t44 (i6 0)) fun t45 =>
sT t38 (some t45) fun t46 =>
sU t46 (some (E 1)) fun t47 =>
sU t46 (some (E 0)) fun t48 =>
sU t46 (vNilck t48) fun t49 =>
sU t46 (vFieldAddr 3 t49) fun t50 =>
sU t46 (vLoad1 t50 σ1) fun t51 =>
sU t46 (binA .eql .num t47 t51) fun t52 =>
sT t38 (vPick t46 (.bool true) t52) fun t53 =>
sP t38 t53 (.bool false) fun t54 =>
WIf t54 (
Ret [some (i6 0)] σ1 Q) (
Som (vLenSl (E 2)) fun t56 =>
sB .eql t56 (i6 0) fun t57 =>
WIf t57 (
C 47 [(E 0), (i6 4), (E 1), (E 1), .nsl] σ1 fun t61 σ2 =>
Ret [some t61] σ2 Q) (
C 49 [(E 0)] σ1 fun t63 σ2 =>
Som (vLenSl (E 2)) fun t65 =>
wC C (.loop R2) (((((((((E.q 31 (E 0) 32 t32 33 t33 34 t34).q 35 t35 36 (E 2) 37 t37 38 t38).q 39 t38 40 t40 41 t41 42 t42).q 43 t43 44 t44 45 t45 46 t46).q 47 t47 48 t48 49 t49 50 t50).q 51 t51 52 t52 53 t53 54 t54).q 55 (E 2) 56 t56 57 t57 62 (E 0)).q 63 t63 9 t63 64 (E 2) 65 t65).set 66 (i6 0)) σ2 (blockK 2 (seqK (wC C R3) (retK f18.res Q))))))
theorem f18.p1_eq {R2 R3 : PC} : f18.p1 C Q R2 R3 E σ = wC C (f18.t1 R2 R3) E σ (retK f18.res Q) := by kernel_rfl
abbrev f18.J1 (C : CW) (Q : AVal → S → Prop) (E : En) (σ : S) : Prop := wC C f18.c1 E σ (retK f18.res Q)
theorem f18.p1_of (h : f18.p1 C Q f18.c2 f18.c3 E σ) : f18.J1 C Q E σ := Eq.mp f18.p1_eq h
noncomputable def f18.p0 (C : CW) (Q : AVal → S → Prop) (R0 R1 : PC) (E : En) (σ : S) : Prop :=
sB .lss (E 23) (E 22) fun t24 =>
WIf t24 (
Som (vIxSl 1 (E 21) (E 23)) fun t25 =>
sL t25 σ fun t26 =>
Som (vLenStr t26) fun t28 =>
sB .gtr t28 (i6 16284) fun t29 =>
WIf t29 (
Ret [some (i6 1)] σ Q) (
sB .add (E 23) (i6 1) fun t30 =>
wC C (.loop R0) (((E.q 24 t24 25 t25 26 t26 8 t26).q 27 t26 28 t28 29 t29 30 t30).set 23 t30) σ (blockK 0 (seqK (wC C R1) (retK f18.res Q))))) (
wC C R1 (E.set 24 t24) σ (retK f18.res Q))
theorem f18.p0_eq {R0 R1 : PC} : f18.p0 C Q R0 R1 E σ = wC C f18.c0 E σ (loopK C R0 (blockK 0 (seqK (wC C R1) (retK f18.res Q)))) := by kernel_rfl
abbrev f18.L0 (C : CW) (Q : AVal → S → Prop) (E : En) (σ : S) : Prop := wC C (.loop f18.c0) E σ (blockK 0 (seqK (wC C f18.c1) (retK f18.res Q)))
theorem f18.p0_of (h : f18.p0 (WF tab) Q f18.c0 f18.c1 E σ) : f18.L0 (WF tab) Q E σ := wLoop_step (Eq.mp f18.p0_eq h)
noncomputable def f18.body (R0 R1 : PC) : PC := (so [oq 6 (.mov (oi 0))] (.seq (so [om 15 0, om 16 1, om 17 2, oq 18 (.lenSl 17), oe 19 (.call 48 [15, 16, 18]), oq 20 (.un .not 19)] (.cond 20 (so [oq 6 (.mov (oi 1))] .ret) .skip)) (.seq (so [om 21 2, oq 22 (.lenSl 21), oq 23 (.mov (oi 0))] (.block 0 (.loop R0))) R1)))
noncomputable def f18.fn : PFn := .code (slotsN 103) (f18.body f18.c0 f18.c1) f18.res
noncomputable def f18 (C : CW) (R0 R1 : PC) (a0 a1 a2 : AVal) (σ : S) (Q : AVal → S → Prop) : Prop :=
Som (vLenSl a2) fun t18 =>
C 48 [a0, a1, t18] σ fun t19 σ1 =>
Som (unA .not t19) fun t20 =>
WIf t20 (
Ret [some (i6 1)] σ1 Q) (
Som (vLenSl a2) fun t22 =>
wC C (.loop R0) ((((E0.q 0 a0 1 a1 2 a2 6 (i6 0)).q 15 a0 16 a1 17 a2 18 t18).q 19 t19 20 t20 21 a2 22 t22).set 23 (i6 0)) σ1 (blockK 0 (seqK (wC C R1) (retK f18.res Q))))
theorem f18_eq {R0 R1 : PC} {a0 a1 a2 : AVal} : f18 C R0 R1 a0 a1 a2 σ Q = wC C (f18.body R0 R1) (((E0.set 0 a0).set 1 a1).set 2 a2) σ (retK f18.res Q) := by kernel_rfl
theorem f18_wf (ht : tab 18 = some f18.fn) {a0 a1 a2 : AVal} (h : f18 (WF tab) f18.c0 f18.c1 a0 a1 a2 σ Q) : WF tab 18 [a0, a1, a2] σ Q := wf_of ht (by kernel_rfl) f18_eq h
noncomputable def f19.res : List PRes := [.tmp (sn 4)]
noncomputable def f19.body : PC := (so [oq 4 (.mov (oi 0))] (.seq (so [om 5 1, om 6 0, on 7 6, ox 8 3 7, ol 9 8, ob 10 .lss 5 9, om 11 10, oqg 12 11 false (.mov 1), oqg 13 11 false (.mov 0), oeg 14 11 false (.call 15 [13]), oqg 15 11 false (.bin .add .num 14 (oi 1)), oqg 16 11 false (.bin .gtr .num 12 15), oq 17 (.pick 11 oT 16)] (.cond 17 (so [oq 4 (.mov (oi 1))] .ret) .skip)) (.seq (so [om 18 0, on 19 18, ox 20 0 19, ol 21 20, oe 22 (.call 40 [21])] (.cond 22 (so [oq 4 (.mov (oi 11))] .ret) .skip)) (.seq (so [om 23 1, om 24 0, on 25 24, ox 26 3 25, ol 27 26, ob 28 .eql 23 27] (.cond 28 (so [oq 4 (.mov (oi 0))] .ret) .skip)) (.seq (.draw 16 [⟨0, om 29 0, []⟩, ⟨1, om 30 1, []⟩, ⟨2, om 31 1, []⟩, ⟨3, om 32 0, []⟩, ⟨4, on 33 32, []⟩, ⟨5, ox 34 4 33, []⟩, ⟨6, ol 35 34, []⟩, ⟨7, om 36 1, []⟩, ⟨8, om 37 0, []⟩, ⟨9, on 38 37, []⟩, ⟨10, ox 39 3 38, []⟩, ⟨11, ol 40 39, []⟩, ⟨12, ob 41 .sub 36 40, []⟩, ⟨13, oq 42 (.slSl 1 35 (some 41) none none), []⟩, ⟨14, oe 43 (.call 47 [29, (oi 3), 30, 31, 42]), []⟩, ⟨15, om 4 43, []⟩]) .ret)))))
noncomputable def f19.fn : PFn := .code (slotsN 44) f19.body f19.res
noncomputable def f19 (C : CW) (a0 a1 : AVal) (σ : S) (Q : AVal → S → Prop) : Prop :=
sN a0 fun t7 =>
sF 3 t7 fun t8 =>
sL t8 σ fun t9 =>
sB .lss a1 t9 fun t10 =>
sU t10 (some a1) fun t12 =>
sU t10 (some a0) fun t13 =>
gE1 (isB t10 false) (fun K => C 15 [t13] σ K) σ fun t14 σ1 =>
sU t10 (binA .add .num t14 (i6 1)) fun t15 =>
sU t10 (binA .gtr .num t12 t15) fun t16 =>
sP t10 (.bool true) t16 fun t17 =>
WIf t17 (
Ret [some (i6 1)] σ1 Q) (
sN a0 fun t19 =>
sF 0 t19 fun t20 =>
sL t20 σ1 fun t21 =>
C 40 [t21] σ1 fun t22 σ2 =>
WIf t22 (
Ret [some (i6 11)] σ2 Q) (
sN a0 fun t25 =>
sF 3 t25 fun t26 =>
sL t26 σ2 fun t27 =>
sB .eql a1 t27 fun t28 =>
WIf t28 (
Ret [some (i6 0)] σ2 Q) (
sN a0 fun t33 =>
sF 4 t33 fun t34 =>
sL t34 (σ2.bumpT 16) fun t35 =>
sN a0 fun t38 =>
sF 3 t38 fun t39 =>
sL t39 (σ2.bumpT 16) fun t40 =>
sB .sub a1 t40 fun t41 =>
Som (vSlSl 1 t35 (some t41) none none) fun t42 =>
C 47 [a0, (i6 3), a1, a1, t42] (σ2.bumpT 16) fun t43 σ3 =>
Ret [some t43] σ3 Q)))
theorem f19_eq {a0 a1 : AVal} : f19 C a0 a1 σ Q = wC C f19.body ((E0.set 0 a0).set 1 a1) σ (retK f19.res Q) := by kernel_rfl
theorem f19_wf (ht : tab 19 = some f19.fn) {a0 a1 : AVal} (h : f19 (WF tab) a0 a1 σ Q) : WF tab 19 [a0, a1] σ Q := wf_of ht (by kernel_rfl) f19_eq h
noncomputable def f20.res : List PRes := [.tmp (sn 2)]
noncomputable def f20.body : PC := (so [oq 2 (.mov (oi 0))] (so [om 3 0, on 4 3, ox 5 0 4, ol 6 5, oe 7 (.call 44 [6]), om 2 7] .ret))
noncomputable def f20.fn : PFn := .code (slotsN 8) f20.body f20.res
noncomputable def f20 (C : CW) (a0 : AVal) (σ : S) (Q : AVal → S → Prop) : Prop :=
sN a0 fun t4 =>
sF 0 t4 fun t5 =>
sL t5 σ fun t6 =>
C 44 [t6] σ fun t7 σ1 =>
Ret [some t7] σ1 Q
theorem f20_eq {a0 : AVal} : f20 C a0 σ Q = wC C f20.body (E0.set 0 a0) σ (retK f20.res Q) := by kernel_rfl
theorem f20_wf (ht : tab 20 = some f20.fn) {a0 : AVal} (h : f20 (WF tab) a0 σ Q) : WF tab 20 [a0] σ Q := wf_of ht (by kernel_rfl) f20_eq h
noncomputable def f22.res : List PRes := [.tmp (sn 2), .tmp (sn 3)]
noncomputable def f22.body : PC := (so [oq 2 (.mov (.val .nptr)), oq 3 (.mov oF)] (so [om 11 0, oe 12 (.call 9 [11]), om 10 12, oq 13 (.extract 0 10), oq 14 (.extract 1 10), om 4 13, om 5 14] (.seq (so [om 15 5, ob 16 .neq 15 (oi 0), om 17 16, oqg 18 17 false (.mov 4), oqg 19 17 false (.bin .eql .ptr 18 (.val .nptr)), oq 20 (.pick 17 oT 19)] (.cond 20 (so [oq 2 (.mov (.val .nptr)), oq 3 (.mov oF)] .ret) .skip)) (so [om 22 4, oe 23 (.call 12 [22]), om 21 23, oq 24 (.extract 0 21), oq 25 (.extract 1 21), om 6 24, om 5 25] (.seq (so [om 26 6, oq 27 (.bin .eql .ptr 26 (.val .nptr)), om 28 27, oqg 29 28 false (.mov 5), oqg 30 28 false (.bin .neq .num 29 (oi 0)), oq 31 (.pick 28 oT 30)] (.cond 31 (so [oq 2 (.mov (.val .nptr)), oq 3 (.mov oF)] .ret) .skip)) (so [om 32 4, om 33 6, om 34 0, oq 35 (.build [(i6 0), .nsl] [(0, 1, (oi 1))]), oq 36 (.build [(i6 0), .nsl] [(0, 1, (oi 1))]), oq 37 (.build [.nptr, .nptr, (i6 0), .nsl, (i6 0), .nsl, .nsl, (.bool false), (i6 0)] [(0, 1, 32), (1, 1, 33), (8, 1, 34), (2, 2, 35), (4, 2, 36)]), oa 38 (.box 37), om 7 38] (so [om 40 6, oe 41 (.call 27 [40]), om 39 41, oq 42 (.extract 0 39), oq 43 (.extract 1 39), oa 8 (.alloc [(i6 0), .nsl]), os (.store 2 8 42), om 9 43] (.seq (.draw 12 [⟨0, om 44 7, []⟩, ⟨1, om 45 9, []⟩, ⟨2, om 46 45, []⟩, ⟨3, oqg 47 46 true (.loadN 2 8), []⟩, ⟨4, oqg 48 46 true (.mov 7), []⟩, ⟨5, oqg 49 46 true (.nilck 48), []⟩, ⟨6, oqg 50 46 true (.fieldAddr 2 49), []⟩, ⟨7, oqg 51 46 true (.loadN 2 50), []⟩, ⟨8, oeg 52 46 true (.call 28 [47, 51]), []⟩, ⟨9, oq 53 (.pick 46 52 oF), []⟩, ⟨10, om 2 44, []⟩, ⟨11, om 3 53, []⟩]) .ret))))))))
noncomputable def f22.fn : PFn := .code (slotsN 54) f22.body f22.res
noncomputable def f22 (C : CW) (a0 : AVal) (σ : S) (Q : AVal → S → Prop) : Prop :=
C 9 [a0] σ fun t12 σ1 =>
Som (vExtract 0 t12) fun t13 =>
Som (vExtract 1 t12) fun t14 =>
sB .neq t14 (i6 0) fun t16 =>
sU t16 (some t13) fun t18 =>
sU t16 (binA .eql .ptr t18 .nptr) fun t19 =>
sP t16 (.bool true) t19 fun t20 =>
WIf t20 (
Ret [some .nptr, some (.bool false)] σ1 Q) (
C 12 [t13] σ1 fun t23 σ2 =>
Som (vExtract 0 t23) fun t24 =>
Som (vExtract 1 t23) fun t25 =>
Som (binA .eql .ptr t24 .nptr) fun t27 =>
sU t27 (some t25) fun t29 =>
sU t27 (binA .neq .num t29 (i6 0)) fun t30 =>
sP t27 (.bool true) t30 fun t31 =>
WIf t31 (
Ret [some .nptr, some (.bool false)] σ2 Q) (
Som (vBuild [(i6 0), .nsl] [(0, 1, (i6 1))]) fun t35 =>
Som (vBuild [(i6 0), .nsl] [(0, 1, (i6 1))]) fun t36 =>
Som (vBuild [.nptr, .nptr, (i6 0), .nsl, (i6 0), .nsl, .nsl, (.bool false), (i6 0)] [(0, 1, t13), (1, 1, t24), (8, 1, a0), (2, 2, t35), (4, 2, t36)]) fun t37 =>
Ala (aBoxV t37) σ2 fun t38 σ3 =>
C 27 [t24] σ3 fun t41 σ4 =>
Som (vExtract 0 t41) fun t42 =>
Som (vExtract 1 t41) fun t43 =>
Ala (aAllocV [(i6 0), .nsl]) σ4 fun t8 σ5 =>
sS 2 t8 t42 σ5 fun _ σ6 =>
sT t43 (vLoadN 2 t8 (σ6.bumpT 12)) fun t47 =>
sT t43 (some t38) fun t48 =>
sT t43 (vNilck t48) fun t49 =>
sT t43 (vFieldAddr 2 t49) fun t50 =>
sT t43 (vLoadN 2 t50 (σ6.bumpT 12)) fun t51 =>
gE1 (isB t43 true) (fun K => C 28 [t47, t51] (σ6.bumpT 12) K) (σ6.bumpT 12) fun t52 σ7 =>
sP t43 t52 (.bool false) fun t53 =>
Ret [some t38, some t53] σ7 Q))
theorem f22_eq {a0 : AVal} : f22 C a0 σ Q = wC C f22.body (E0.set 0 a0) σ (retK f22.res Q) := by kernel_rfl
theorem f22_wf (ht : tab 22 = some f22.fn) {a0 : AVal} (h : f22 (WF tab) a0 σ Q) : WF tab 22 [a0] σ Q := wf_of ht (by kernel_rfl) f22_eq h
noncomputable def f23.c3 : PC := (so [om 133 0, on 134 133, ox 135 7 134, os (.store 1 135 oT)] (so [om 136 0, on 137 136, ox 138 0 137, ol 139 138, oe 140 (.call 40 [139]), om 4 140] .ret))
noncomputable def f23.t2 (R3 : PC) : PC := (.seq (.seq (.draw 6 [⟨0, om 81 0, []⟩, ⟨1, on 82 81, []⟩, ⟨2, ox 83 2 82, []⟩, ⟨3, oq 84 (.loadN 2 83), []⟩, ⟨4, oq 85 (.loadN 3 5), []⟩, ⟨5, oe 86 (.call 54 [84, 85]), []⟩]) (.cond 86 (so [om 87 7, ob 88 .eql 87 (oi 1), om 4 88] .ret) .skip)) (.seq (so [om 89 7] (.block 3 (so [ob 91 .eql 89 (oi 0), om 90 91] (.cond 90 (.seq (.draw 10 [⟨0, om 92 0, []⟩, ⟨1, om 93 0, []⟩, ⟨2, on 94 93, []⟩, ⟨3, ox 95 2 94, []⟩, ⟨4, oq 96 (.loadN 2 95), []⟩, ⟨5, oq 97 (.loadN 3 5), []⟩, ⟨6, oe 98 (.call 55 [96, 97]), []⟩, ⟨7, on 99 92, []⟩, ⟨8, ox 100 2 99, []⟩, ⟨9, os (.store 2 100 98), []⟩]) (.seq (.draw 11 [⟨0, om 101 0, []⟩, ⟨1, om 102 0, []⟩, ⟨2, on 103 102, []⟩, ⟨3, ox 104 6 103, []⟩, ⟨4, ol 105 104, []⟩, ⟨5, oq 106 (.loadN 3 5), []⟩, ⟨6, oa 107 (.bslice 3 [(i6 0), (i6 0), .nsl] 1 [(0, 3, 106)]), []⟩, ⟨7, oe 108 (.append 3 40 105 107), []⟩, ⟨8, on 109 101, []⟩, ⟨9, ox 110 6 109, []⟩, ⟨10, os (.store 1 110 108), []⟩]) (so [om 111 0, on 112 111, ox 113 7 112, ol 114 113, oq 115 (.un .not 114), om 4 115] .ret))) (so [ob 117 .eql 89 (oi 11), om 116 117] (.cond 116 (.seq (so [om 118 0, on 119 118, ox 120 7 119, ol 121 120, oq 122 (.un .not 121)] (.cond 122 (.draw 11 [⟨0, om 123 0, []⟩, ⟨1, om 124 0, []⟩, ⟨2, on 125 124, []⟩, ⟨3, ox 126 6 125, []⟩, ⟨4, ol 127 126, []⟩, ⟨5, oq 128 (.loadN 3 5), []⟩, ⟨6, oa 129 (.bslice 3 [(i6 0), (i6 0), .nsl] 1 [(0, 3, 128)]), []⟩, ⟨7, oe 130 (.append 3 40 127 129), []⟩, ⟨8, on 131 123, []⟩, ⟨9, ox 132 6 131, []⟩, ⟨10, os (.store 1 132 130), []⟩]) .skip)) R3) (so [ob 142 .eql 89 (oi 10), om 141 142] (.cond 141 (.seq (.draw 19 [⟨0, om 143 0, []⟩, ⟨1, on 144 143, []⟩, ⟨2, ox 145 7 144, []⟩, ⟨3, ol 146 145, []⟩, ⟨4, oq 147 (.un .not 146), []⟩, ⟨5, om 148 147, []⟩, ⟨6, oqg 149 148 true (.mov 0), []⟩, ⟨7, oqg 150 148 true (.nilck 149), []⟩, ⟨8, oqg 151 148 true (.fieldAddr 2 150), []⟩, ⟨9, oqg 152 148 true (.loadN 2 151), []⟩, ⟨10, oqg 153 148 true (.loadN 3 5), []⟩, ⟨12, oqg 155 148 true (.mov 0), []⟩, ⟨13, oqg 156 148 true (.nilck 155), []⟩, ⟨14, oqg 157 148 true (.fieldAddr 8 156), []⟩, ⟨15, oqg 158 148 true (.load1 157), []⟩, ⟨11, oeg 154 148 true (.call 56 [152, 153]), [oqg 158 148 true (.load1 157)]⟩, ⟨16, oqg 159 148 true (.bin .gtr .num 154 158), []⟩, ⟨17, oq 160 (.pick 148 159 oF), []⟩, ⟨18, om 4 160, []⟩]) .ret) .skip)))))))) (so [oq 4 (.mov oF)] .ret)))
noncomputable def f23.c2 : PC := f23.t2 f23.c3
noncomputable def f23.t1 (R2 : PC) : PC := (so [oq 7 (.mov (oi 0))] (.seq (so [ox 50 0 3, ol 51 50] (.block 2 (so [ob 53 .eql 51 (oi 1), om 52 53] (.cond 52 (.draw 10 [⟨0, om 54 0, []⟩, ⟨1, on 55 54, []⟩, ⟨2, ox 56 1 55, []⟩, ⟨3, ol 57 56, []⟩, ⟨4, ox 58 1 5, []⟩, ⟨5, ol 59 58, []⟩, ⟨6, ox 60 2 5, []⟩, ⟨7, ol 61 60, []⟩, ⟨8, oe 62 (.call 18 [57, 59, 61]), []⟩, ⟨9, om 7 62, []⟩]) (so [ob 64 .eql 51 (oi 2), om 63 64] (.cond 63 (.draw 8 [⟨0, om 65 0, []⟩, ⟨1, on 66 65, []⟩, ⟨2, ox 67 1 66, []⟩, ⟨3, ol 68 67, []⟩, ⟨4, ox 69 1 5, []⟩, ⟨5, ol 70 69, []⟩, ⟨6, oe 71 (.call 17 [68, 70]), []⟩, ⟨7, om 7 71, []⟩]) (so [ob 73 .eql 51 (oi 3), om 72 73] (.cond 72 (.draw 8 [⟨0, om 74 0, []⟩, ⟨1, on 75 74, []⟩, ⟨2, ox 76 1 75, []⟩, ⟨3, ol 77 76, []⟩, ⟨4, ox 78 1 5, []⟩, ⟨5, ol 79 78, []⟩, ⟨6, oe 80 (.call 19 [77, 79]), []⟩, ⟨7, om 7 80, []⟩]) .skip)))))))) R2))
noncomputable def f23.c1 : PC := f23.t1 f23.c2
noncomputable def f23.c0 : PC := (.seq (so [om 17 6, ox 18 6 3, ol 19 18, oq 20 (.lenSl 19), ob 21 .lss 17 20, om 22 21, oqg 23 22 true (.mov 6), oqg 24 22 true (.bin .lss .num 23 (oi 6)), oq 25 (.pick 22 24 oF), om 26 25, oqg 27 26 true (.fieldAddr 0 3), oqg 28 26 true (.load1 27), oqg 29 26 true (.bin .eql .num 28 (oi 1)), oq 30 (.pick 26 29 oF)] (.cond 30 .skip (.exit 0))) (.seq (.block 1 (so [ox 33 6 3, ol 34 33, om 35 6, oq 36 (.ixSl 1 34 35), ol 37 36, oq 38 (.lenStr 37), ob 39 .leq 38 (oi 600)] (.cond 39 (.draw 11 [⟨0, ox 40 2 5, []⟩, ⟨1, ol 41 40, []⟩, ⟨2, ox 42 6 3, []⟩, ⟨3, ol 43 42, []⟩, ⟨4, om 44 6, []⟩, ⟨5, oq 45 (.ixSl 1 43 44), []⟩, ⟨6, ol 46 45, []⟩, ⟨7, oa 47 (.bslice 1 [(.str [])] 1 [(0, 1, 46)]), []⟩, ⟨8, oe 48 (.append 1 16 41 47), []⟩, ⟨9, ox 49 2 5, []⟩, ⟨10, os (.store 1 49 48), []⟩]) .skip))) (.ops [om 31 6, ob 32 .add 31 (oi 1), om 6 32])))
noncomputable def f23.res : List PRes := [.tmp (sn 4)]
noncomputable def f23.p3 (C : CW) (Q : AVal → S → Prop) (E : En) (σ : S) : Prop :=
sN (E 0) fun t134 =>
sF 7 t134 fun t135 =>
sS 1 t135 (.bool true) σ fun _ σ1 =>
sN (E 0) fun t137 =>
sF 0 t137 fun t138 =>
sL t138 σ1 fun t139 =>
C 40 [t139] σ1 fun t140 σ2 =>
Ret [some t140] σ2 Q
theorem f23.p3_eq : f23.p3 C Q E σ = wC C f23.c3 E σ (blockK 3 (seqK (wC C (so [oq 4 (.mov oF)] .ret)) (retK f23.res Q))) := by kernel_rfl
abbrev f23.J3 (C : CW) (Q : AVal → S → Prop) (E : En) (σ : S) : Prop := wC C f23.c3 E σ (blockK 3 (seqK (wC C (so [oq 4 (.mov oF)] .ret)) (retK f23.res Q)))
theorem f23.p3_of (h : f23.p3 C Q E σ) : f23.J3 C Q E σ := Eq.mp f23.p3_eq h
noncomputable def f23.p2 (C : CW) (Q : AVal → S → Prop) (R3 : PC) (E : En) (σ : S) : Prop :=
sN (E 0) fun t82 =>
sF 2 t82 fun t83 =>
Som (vLoadN 2 t83 (σ.bumpT 6)) fun t84 =>
Som (vLoadN 3 (E 5) (σ.bumpT 6)) fun t85 =>
C 54 [t84, t85] (σ.bumpT 6) fun t86 σ1 =>
WIf t86 (
sB .eql (E 7) (i6 1) fun t88 =>
Ret [some t88] σ1 Q) (
sB .eql (E 7) (i6 0) fun t91 =>
WIf t91 (
sN (E 0) fun t94 =>
sF 2 t94 fun t95 =>
Som (vLoadN 2 t95 (σ1.bumpT 10)) fun t96 =>
Som (vLoadN 3 (E 5) (σ1.bumpT 10)) fun t97 =>
C 55 [t96, t97] (σ1.bumpT 10) fun t98 σ2 =>
sN (E 0) fun t99 =>
sF 2 t99 fun t100 =>
sS 2 t100 t98 σ2 fun _ σ3 =>
sN (E 0) fun t103 =>
sF 6 t103 fun t104 =>
sL t104 (σ3.bumpT 11) fun t105 =>
Som (vLoadN 3 (E 5) (σ3.bumpT 11)) fun t106 =>
Alb (aSliceV 3 [(i6 0), (i6 0), .nsl] 1 [(0, 3, t106)]) (Pos.plusT 6 σ3.next) (σ3.bumpT 11) fun t107 σ4 =>
Eff (appendA 3 40 t105 t107 σ4) fun t108 σ5 =>
sN (E 0) fun t109 =>
sF 6 t109 fun t110 =>
sS 1 t110 t108 σ5 fun _ σ6 =>
sN (E 0) fun t112 =>
sF 7 t112 fun t113 =>
sL t113 σ6 fun t114 =>
Som (unA .not t114) fun t115 =>
Ret [some t115] σ6 Q) (
sB .eql (E 7) (i6 11) fun t117 =>
WIf t117 (
sN (E 0) fun t119 =>
sF 7 t119 fun t120 =>
sL t120 σ1 fun t121 =>
Som (unA .not t121) fun t122 =>
WIf t122 (
sN (E 0) fun t125 =>
sF 6 t125 fun t126 =>
sL t126 (σ1.bumpT 11) fun t127 =>
Som (vLoadN 3 (E 5) (σ1.bumpT 11)) fun t128 =>
Alb (aSliceV 3 [(i6 0), (i6 0), .nsl] 1 [(0, 3, t128)]) (Pos.plusT 6 σ1.next) (σ1.bumpT 11) fun t129 σ2 =>
Eff (appendA 3 40 t127 t129 σ2) fun t130 σ3 =>
sN (E 0) fun t131 =>
sF 6 t131 fun t132 =>
sS 1 t132 t130 σ3 fun _ σ4 =>
wC C R3 ((((((((E.q 81 (E 0) 82 t82 83 t83 84 t84).q 85 t85 86 t86 89 (E 7) 91 t91).q 90 t91 117 t117 116 t117 118 (E 0)).q 119 t119 120 t120 121 t121 122 t122).q 123 (E 0) 124 (E 0) 125 t125 126 t126).q 127 t127 128 t128 129 t129 130 t130).set 131 t131).set 132 t132) σ4 (blockK 3 (seqK (wC C (so [oq 4 (.mov oF)] .ret)) (retK f23.res Q)))) (
wC C R3 ((((E.q 81 (E 0) 82 t82 83 t83 84 t84).q 85 t85 86 t86 89 (E 7) 91 t91).q 90 t91 117 t117 116 t117 118 (E 0)).q 119 t119 120 t120 121 t121 122 t122) σ1 (blockK 3 (seqK (wC C (so [oq 4 (.mov oF)] .ret)) (retK f23.res Q))))) (
sB .eql (E 7) (i6 10) fun t142 =>
WIf t142 (
sN (E 0) fun t144 =>
sF 7 t144 fun t145 =>
sL t145 (σ1.bumpT 19) fun t146 =>
Som (unA .not t146) fun t147 =>
sT t147 (some (E 0)) fun t149 =>
sT t147 (vNilck t149) fun t150 =>
sT t147 (vFieldAddr 2 t150) fun t151 =>
sT t147 (vLoadN 2 t151 (σ1.bumpT 19)) fun t152 =>
sT t147 (vLoadN 3 (E 5) (σ1.bumpT 19)) fun t153 =>
sT t147 (some (E 0)) fun t155 =>
sT t147 (vNilck t155) fun t156 =>
sT t147 (vFieldAddr 8 t156) fun t157 =>
sT t147 (vLoad1 t157 (σ1.bumpT 19)) fun t158 =>
gE1 (isB t147 true) (fun K => C 56 [t152, t153] (σ1.bumpT 19) fun t154 σ2 => Sure ((notB (isB t147 true) || SameO (vLoad1 t157 σ2) t158)) (K t154 σ2)) (σ1.bumpT 19) fun t154 σ2 =>
sT t147 (binA .gtr .num t154 t158) fun t159 =>
sP t147 t159 (.bool false) fun t160 =>
Ret [some t160] σ2 Q) (
Ret [some (.bool false)] σ1 Q))))
theorem f23.p2_eq {R3 : PC} : f23.p2 C Q R3 E σ = wC C (f23.t2 R3) E σ (retK f23.res Q) := by kernel_rfl
abbrev f23.J2 (C : CW) (Q : AVal → S → Prop) (E : En) (σ : S) : Prop := wC C f23.c2 E σ (retK f23.res Q)
theorem f23.p2_of (h : f23.p2 C Q f23.c3 E σ) : f23.J2 C Q E σ := Eq.mp f23.p2_eq h
noncomputable def f23.p1 (C : CW) (Q : AVal → S → Prop) (R2 : PC) (E : En) (σ : S) : Prop :=
sF 0 (E 3) fun t50 =>
sL t50 σ fun t51 =>
sB .eql t51 (i6 1) fun t53 =>
WIf t53 (
sN (E 0) fun t55 =>
sF 1 t55 fun t56 =>
sL t56 (σ.bumpT 10) fun t57 =>
sF 1 (E 5) fun t58 =>
sL t58 (σ.bumpT 10) fun t59 =>
sF 2 (E 5) fun t60 =>
sL t60 (σ.bumpT 10) fun t61 =>
C 18 [t57, t59, t61] (σ.bumpT 10) fun t62 σ1 =>
wC C R2 ((((((E.q 7 (i6 0) 50 t50 51 t51 53 t53).q 52 t53 54 (E 0) 55 t55 56 t56).q 57 t57 58 t58 59 t59 60 t60).set 61 t61).set 62 t62).set 7 t62) σ1 (retK f23.res Q)) (
sB .eql t51 (i6 2) fun t64 =>
WIf t64 (
sN (E 0) fun t66 =>
sF 1 t66 fun t67 =>
sL t67 (σ.bumpT 8) fun t68 =>
sF 1 (E 5) fun t69 =>
sL t69 (σ.bumpT 8) fun t70 =>
C 17 [t68, t70] (σ.bumpT 8) fun t71 σ1 =>
wC C R2 ((((((E.q 7 (i6 0) 50 t50 51 t51 53 t53).q 52 t53 64 t64 63 t64 65 (E 0)).q 66 t66 67 t67 68 t68 69 t69).set 70 t70).set 71 t71).set 7 t71) σ1 (retK f23.res Q)) (
sB .eql t51 (i6 3) fun t73 =>
WIf t73 (
sN (E 0) fun t75 =>
sF 1 t75 fun t76 =>
sL t76 (σ.bumpT 8) fun t77 =>
sF 1 (E 5) fun t78 =>
sL t78 (σ.bumpT 8) fun t79 =>
C 19 [t77, t79] (σ.bumpT 8) fun t80 σ1 =>
wC C R2 (((((E.q 7 (i6 0) 50 t50 51 t51 53 t53).q 52 t53 64 t64 63 t64 73 t73).q 72 t73 74 (E 0) 75 t75 76 t76).q 77 t77 78 t78 79 t79 80 t80).set 7 t80) σ1 (retK f23.res Q)) (
wC C R2 (((E.q 7 (i6 0) 50 t50 51 t51 53 t53).q 52 t53 64 t64 63 t64 73 t73).set 72 t73) σ (retK f23.res Q))))
theorem f23.p1_eq {R2 : PC} : f23.p1 C Q R2 E σ = wC C (f23.t1 R2) E σ (retK f23.res Q) := by kernel_rfl
abbrev f23.J1 (C : CW) (Q : AVal → S → Prop) (E : En) (σ : S) : Prop := wC C f23.c1 E σ (retK f23.res Q)
theorem f23.p1_of (h : f23.p1 C Q f23.c2 E σ) : f23.J1 C Q E σ := Eq.mp f23.p1_eq h
noncomputable def f23.p0 (C : CW) (Q : AVal → S → Prop) (R0 R1 : PC) (E : En) (σ : S) : Prop :=
sF 6 (E 3) fun t18 =>
sL t18 σ fun t19 =>
Som (vLenSl t19) fun t20 =>
sB .lss (E 6) t20 fun t21 =>
sT t21 (some (E 6)) fun t23 =>
sT t21 (binA .lss .num t23 (i6 6)) fun t24 =>
sP t21 t24 (.bool false) fun t25 =>
sT t25 (vFieldAddr 0 (E 3)) fun t27 =>
sT t25 (vLoad1 t27 σ) fun t28 =>
sT t25 (binA .eql .num t28 (i6 1)) fun t29 =>
sP t25 t29 (.bool false) fun t30 =>
WIf t30 (
sF 6 (E 3) fun t33 =>
sL t33 σ fun t34 =>
Som (vIxSl 1 t34 (E 6)) fun t36 =>
sL t36 σ fun t37 =>
Som (vLenStr t37) fun t38 =>
sB .leq t38 (i6 600) fun t39 =>
WIf t39 (
sF 2 (E 5) fun t40 =>
sL t40 (σ.bumpT 11) fun t41 =>
sF 6 (E 3) fun t42 =>
sL t42 (σ.bumpT 11) fun t43 =>
Som (vIxSl 1 t43 (E 6)) fun t45 =>
sL t45 (σ.bumpT 11) fun t46 =>
Alb (aSliceV 1 [(.str [])] 1 [(0, 1, t46)]) (Pos.plusT 7 σ.next) (σ.bumpT 11) fun t47 σ1 =>
Eff (appendA 1 16 t41 t47 σ1) fun t48 σ2 =>
sF 2 (E 5) fun t49 =>
sS 1 t49 t48 σ2 fun _ σ3 =>
sB .add (E 6) (i6 1) fun t32 =>
wC C (.loop R0) ((((((((((E.q 17 (E 6) 18 t18 19 t19 20 t20).q 21 t21 22 t21 23 t23 24 t24).q 25 t25 26 t25 27 t27 28 t28).q 29 t29 30 t30 33 t33 34 t34).q 35 (E 6) 36 t36 37 t37 38 t38).q 39 t39 40 t40 41 t41 42 t42).q 43 t43 44 (E 6) 45 t45 46 t46).q 47 t47 48 t48 49 t49 31 (E 6)).set 32 t32).set 6 t32) σ3 (blockK 0 (seqK (wC C R1) (retK f23.res Q)))) (
sB .add (E 6) (i6 1) fun t32 =>
wC C (.loop R0) ((((((E.q 17 (E 6) 18 t18 19 t19 20 t20).q 21 t21 22 t21 23 t23 24 t24).q 25 t25 26 t25 27 t27 28 t28).q 29 t29 30 t30 33 t33 34 t34).q 35 (E 6) 36 t36 37 t37 38 t38).q 39 t39 31 (E 6) 32 t32 6 t32) σ (blockK 0 (seqK (wC C R1) (retK f23.res Q))))) (
wC C R1 (((((E.q 17 (E 6) 18 t18 19 t19 20 t20).q 21 t21 22 t21 23 t23 24 t24).q 25 t25 26 t25 27 t27 28 t28).set 29 t29).set 30 t30) σ (retK f23.res Q))
theorem f23.p0_eq {R0 R1 : PC} : f23.p0 C Q R0 R1 E σ = wC C f23.c0 E σ (loopK C R0 (blockK 0 (seqK (wC C R1) (retK f23.res Q)))) := by kernel_rfl
abbrev f23.L0 (C : CW) (Q : AVal → S → Prop) (E : En) (σ : S) : Prop := wC C (.loop f23.c0) E σ (blockK 0 (seqK (wC C f23.c1) (retK f23.res Q)))
theorem f23.p0_of (h : f23.p0 (WF tab) Q f23.c0 f23.c1 E σ) : f23.L0 (WF tab) Q E σ := wLoop_step (Eq.mp f23.p0_eq h)
noncomputable def f23.body (R0 R1 : PC) : PC := (so [oa 3 (.box 1), oq 4 (.mov oF)] (.seq (.draw 11 [⟨0, ox 8 0 3, []⟩, ⟨1, ol 9 8, []⟩, ⟨2, om 10 0, []⟩, ⟨3, on 11 10, []⟩, ⟨4, ox 12 2 11, []⟩, ⟨5, oq 13 (.loadN 2 12), []⟩, ⟨6, oq 14 (.loadN 7 3), []⟩, ⟨7, oe 15 (.call 53 [13, 14]), [ol 9 8]⟩, ⟨8, oq 16 (.build [(i6 0), (i6 0), .nsl] [(0, 1, 9), (1, 1, 15)]), []⟩, ⟨9, oa 5 (.alloc [(i6 0), (i6 0), .nsl]), []⟩, ⟨10, os (.store 3 5 16), []⟩]) (.seq (so [oq 6 (.mov (oi 0))] (.block 0 (.loop R0))) R1)))
noncomputable def f23.fn : PFn := .code (slotsN 161) (f23.body f23.c0 f23.c1) f23.res
noncomputable def f23 (C : CW) (R0 R1 : PC) (a0 a1 : AVal) (σ : S) (Q : AVal → S → Prop) : Prop :=
Ala (aBoxV a1) σ fun t3 σ1 =>
sF 0 t3 fun t8 =>
sL t8 (σ1.bumpT 11) fun t9 =>
sN a0 fun t11 =>
sF 2 t11 fun t12 =>
Som (vLoadN 2 t12 (σ1.bumpT 11)) fun t13 =>
Som (vLoadN 7 t3 (σ1.bumpT 11)) fun t14 =>
C 53 [t13, t14] (σ1.bumpT 11) fun t15 σ2 =>
Sure (SameO (vLoad1 t8 σ2) t9) <|
Som (vBuild [(i6 0), (i6 0), .nsl] [(0, 1, t9), (1, 1, t15)]) fun t16 =>
Alb (aAllocV [(i6 0), (i6 0), .nsl]) (Pos.plusT 9 σ1.next) σ2 fun t5 σ3 =>
sS 3 t5 t16 σ3 fun _ σ4 =>
wC C (.loop R0) ((((((E0.q 0 a0 1 a1 3 t3 4 (.bool false)).q 8 t8 9 t9 10 a0 11 t11).q 12 t12 13 t13 14 t14 15 t15).set 16 t16).set 5 t5).set 6 (i6 0)) σ4 (blockK 0 (seqK (wC C R1) (retK f23.res Q)))
theorem f23_eq {R0 R1 : PC} {a0 a1 : AVal} : f23 C R0 R1 a0 a1 σ Q = wC C (f23.body R0 R1) ((E0.set 0 a0).set 1 a1) σ (retK f23.res Q) := by kernel_rfl
theorem f23_wf (ht : tab 23 = some f23.fn) {a0 a1 : AVal} (h : f23 (WF tab) f23.c0 f23.c1 a0 a1 σ Q) : WF tab 23 [a0, a1] σ Q := wf_of ht (by kernel_rfl) f23_eq h
noncomputable def f24.c0 : PC := (.cond 8 (so [om 12 0, oq 13 (.loadN 7 3), oe 14 (.call 23 [12, 13]), om 4 14] .ret) (so [ob 16 .eql 7 (oi 4), om 15 16] (.cond 15 (so [om 17 0, on 18 17, ox 19 1 18, ol 20 19, oe 21 (.call 20 [20]), om 5 21] (.seq (so [om 22 5, ob 23 .eql 22 (oi 11)] (.cond 23 (so [om 24 0, on 25 24, ox 26 7 25, os (.store 1 26 oT)] (so [om 27 0, on 28 27, ox 29 0 28, ol 30 29, oe 31 (.call 40 [30]), om 4 31] .ret)) .skip)) (so [om 32 0, om 33 0, om 34 0, on 35 34, ox 36 2 35, oq 37 (.loadN 2 36), on 38 32, ox 39 4 38, os (.store 2 39 37), on 40 33, ox 41 6 40, os (.store 1 41 (.val .nsl))] (so [om 42 5, ob 43 .eql 42 (oi 0), om 44 43, oqg 45 44 true (.mov 0), oqg 46 44 true (.nilck 45), oqg 47 44 true (.fieldAddr 7 46), oqg 48 44 true (.load1 47), oqg 49 44 true (.un .not 48), oq 50 (.pick 44 49 oF), om 4 50] .ret)))) (so [ob 52 .eql 7 (oi 5), om 51 52] (.cond 51 (.seq (so [ox 53 2 3, ol 54 53, ob 55 .gtr 54 (oi 0), om 56 55, oqg 57 56 true (.fieldAddr 2 3), oqg 58 56 true (.load1 57), oqg 59 56 true (.bin .lss .num 58 (oi 100)), oq 60 (.pick 56 59 oF)] (.cond 60 (.draw 7 [⟨0, om 61 0, []⟩, ⟨1, on 62 61, []⟩, ⟨2, ox 63 0 62, []⟩, ⟨3, ol 64 63, []⟩, ⟨4, ox 65 2 3, []⟩, ⟨5, ol 66 65, []⟩, ⟨6, oe 67 (.call 25 [64, 66]), []⟩]) .skip)) (so [oq 4 (.mov oT)] .ret)) (so [ob 69 .eql 7 (oi 6), om 68 69] (.cond 68 (so [om 70 0, oq 71 (.loadN 7 3), oe 72 (.call 26 [70, 71, (oi 0)]), om 4 72] .ret) (so [ob 74 .eql 7 (oi 7), om 73 74] (.cond 73 (.seq (.draw 7 [⟨0, om 75 0, []⟩, ⟨1, oq 76 (.loadN 7 3), []⟩, ⟨2, ox 77 2 3, []⟩, ⟨3, ol 78 77, []⟩, ⟨4, oe 79 (.call 11 [78, (oi 1), (oi 9)]), [oq 76 (.loadN 7 3)]⟩, ⟨5, oe 80 (.call 26 [75, 76, 79]), []⟩, ⟨6, om 4 80, []⟩]) .ret) .skip)))))))))
noncomputable def f24.res : List PRes := [.tmp (sn 4)]
noncomputable def f24.p0 (C : CW) (Q : AVal → S → Prop) (E : En) (σ : S) : Prop :=
WIf (E 8) (
Som (vLoadN 7 (E 3) σ) fun t13 =>
C 23 [(E 0), t13] σ fun t14 σ1 =>
Ret [some t14] σ1 Q) (
sB .eql (E 7) (i6 4) fun t16 =>
WIf t16 (
sN (E 0) fun t18 =>
sF 1 t18 fun t19 =>
sL t19 σ fun t20 =>
C 20 [t20] σ fun t21 σ1 =>
sB .eql t21 (i6 11) fun t23 =>
WIf t23 (
sN (E 0) fun t25 =>
sF 7 t25 fun t26 =>
sS 1 t26 (.bool true) σ1 fun _ σ2 =>
sN (E 0) fun t28 =>
sF 0 t28 fun t29 =>
sL t29 σ2 fun t30 =>
C 40 [t30] σ2 fun t31 σ3 =>
Ret [some t31] σ3 Q) (
sN (E 0) fun t35 =>
sF 2 t35 fun t36 =>
Som (vLoadN 2 t36 σ1) fun t37 =>
sN (E 0) fun t38 =>
sF 4 t38 fun t39 =>
sS 2 t39 t37 σ1 fun _ σ2 =>
sN (E 0) fun t40 =>
sF 6 t40 fun t41 =>
sS 1 t41 .nsl σ2 fun _ σ3 =>
sB .eql t21 (i6 0) fun t43 =>
sT t43 (some (E 0)) fun t45 =>
sT t43 (vNilck t45) fun t46 =>
sT t43 (vFieldAddr 7 t46) fun t47 =>
sT t43 (vLoad1 t47 σ3) fun t48 =>
sT t43 (unA .not t48) fun t49 =>
sP t43 t49 (.bool false) fun t50 =>
Ret [some t50] σ3 Q)) (
sB .eql (E 7) (i6 5) fun t52 =>
WIf t52 (
sF 2 (E 3) fun t53 =>
sL t53 σ fun t54 =>
sB .gtr t54 (i6 0) fun t55 =>
sT t55 (vFieldAddr 2 (E 3)) fun t57 =>
sT t55 (vLoad1 t57 σ) fun t58 =>
sT t55 (binA .lss .num t58 (i6 100)) fun t59 =>
sP t55 t59 (.bool false) fun t60 =>
WIf t60 (
sN (E 0) fun t62 =>
sF 0 t62 fun t63 =>
sL t63 (σ.bumpT 7) fun t64 =>
sF 2 (E 3) fun t65 =>
sL t65 (σ.bumpT 7) fun t66 =>
C 25 [t64, t66] (σ.bumpT 7) fun t67 σ1 =>
Ret [some (.bool true)] σ1 Q) (
Ret [some (.bool true)] σ Q)) (
sB .eql (E 7) (i6 6) fun t69 =>
WIf t69 (
Som (vLoadN 7 (E 3) σ) fun t71 =>
C 26 [(E 0), t71, (i6 0)] σ fun t72 σ1 =>
Ret [some t72] σ1 Q) (
sB .eql (E 7) (i6 7) fun t74 =>
WIf t74 (
Som (vLoadN 7 (E 3) (σ.bumpT 7)) fun t76 =>
sF 2 (E 3) fun t77 =>
sL t77 (σ.bumpT 7) fun t78 =>
C 11 [t78, (i6 1), (i6 9)] (σ.bumpT 7) fun t79 σ1 =>
Sure (SameO (vLoadN 7 (E 3) σ1) t76) <|
C 26 [(E 0), t76, t79] σ1 fun t80 σ2 =>
Ret [some t80] σ2 Q) (
Ret [some (.bool true)] σ Q)))))
theorem f24.p0_eq : f24.p0 C Q E σ = wC C f24.c0 E σ (blockK 0 (seqK (wC C (so [oq 4 (.mov oT)] .ret)) (retK f24.res Q))) := by kernel_rfl
abbrev f24.J0 (C : CW) (Q : AVal → S → Prop) (E : En) (σ : S) : Prop := wC C f24.c0 E σ (blockK 0 (seqK (wC C (so [oq 4 (.mov oT)] .ret)) (retK f24.res Q)))
theorem f24.p0_of (h : f24.p0 C Q E σ) : f24.J0 C Q E σ := Eq.mp f24.p0_eq h
noncomputable def f24.body (R0 : PC) : PC := (so [oa 3 (.box 1), oq 4 (.mov oF)] (.seq (so [ox 6 0 3, ol 7 6] (.block 0 (.seq (so [ob 9 .eql 7 (oi 1), om 8 9] (.cond 8 .skip (so [ob 10 .eql 7 (oi 2), om 8 10] (.cond 8 .skip (.ops [ob 11 .eql 7 (oi 3), om 8 11]))))) R0))) (so [oq 4 (.mov oT)] .ret)))
noncomputable def f24.fn : PFn := .code (slotsN 81) (f24.body f24.c0) f24.res
noncomputable def f24 (C : CW) (R0 : PC) (a0 a1 : AVal) (σ : S) (Q : AVal → S → Prop) : Prop :=
Ala (aBoxV a1) σ fun t3 σ1 =>
sF 0 t3 fun t6 =>
sL t6 σ1 fun t7 =>
sB .eql t7 (i6 1) fun t9 =>
WIf t9 (
wC C R0 ((E0.q 0 a0 1 a1 3 t3 4 (.bool false)).q 6 t6 7 t7 9 t9 8 t9) σ1 (blockK 0 (seqK (wC C (so [oq 4 (.mov oT)] .ret)) (retK f24.res Q)))) (
sB .eql t7 (i6 2) fun t10 =>
WIf t10 (
wC C R0 ((((E0.q 0 a0 1 a1 3 t3 4 (.bool false)).q 6 t6 7 t7 9 t9 8 t9).set 10 t10).set 8 t10) σ1 (blockK 0 (seqK (wC C (so [oq 4 (.mov oT)] .ret)) (retK f24.res Q)))) (
sB .eql t7 (i6 3) fun t11 =>
wC C R0 (((E0.q 0 a0 1 a1 3 t3 4 (.bool false)).q 6 t6 7 t7 9 t9 8 t9).q 10 t10 8 t10 11 t11 8 t11) σ1 (blockK 0 (seqK (wC C (so [oq 4 (.mov oT)] .ret)) (retK f24.res Q)))))
theorem f24_eq {R0 : PC} {a0 a1 : AVal} : f24 C R0 a0 a1 σ Q = wC C (f24.body R0) ((E0.set 0 a0).set 1 a1) σ (retK f24.res Q) := by kernel_rfl
theorem f24_wf (ht : tab 24 = some f24.fn) {a0 a1 : AVal} (h : f24 (WF tab) f24.c0 a0 a1 σ Q) : WF tab 24 [a0, a1] σ Q := wf_of ht (by kernel_rfl) f24_eq h
noncomputable def f25.res : List PRes := []
noncomputable def f25.body : PC := (so [om 4 0, on 5 4, ox 6 5 5, ol 7 6, oq 8 (.un .not 7)] (.cond 8 (.ops [om 9 0, om 10 1, oq 11 (.maxI 10 [(oi 0)]), on 12 9, ox 13 4 12, os (.store 1 13 11)]) .skip))
noncomputable def f25.fn : PFn := .code (slotsN 14) f25.body f25.res
noncomputable def f25 (C : CW) (a0 a1 : AVal) (σ : S) (Q : AVal → S → Prop) : Prop :=
sN a0 fun t5 =>
sF 5 t5 fun t6 =>
sL t6 σ fun t7 =>
Som (unA .not t7) fun t8 =>
WIf t8 (
Som (maxA a1 [(i6 0)]) fun t11 =>
sN a0 fun t12 =>
sF 4 t12 fun t13 =>
sS 1 t13 t11 σ fun _ σ1 =>
Ret [] σ1 Q) (
Ret [] σ Q)
theorem f25_eq {a0 a1 : AVal} : f25 C a0 a1 σ Q = wC C f25.body ((E0.set 0 a0).set 1 a1) σ (retK f25.res Q) := by kernel_rfl
theorem f25_wf (ht : tab 25 = some f25.fn) {a0 a1 : AVal} (h : f25 (WF tab) a0 a1 σ Q) : WF tab 25 [a0, a1] σ Q := wf_of ht (by kernel_rfl) f25_eq h
noncomputable def f26.c0 : PC := (so [om 54 7, oe 55 (.call 12 [54]), om 53 55, oq 56 (.extract 0 53), oq 57 (.extract 1 53), om 10 56, om 11 57] (.seq (so [om 58 10, oq 59 (.bin .eql .ptr 58 (.val .nptr)), om 60 59, oqg 61 60 false (.mov 11), oqg 62 60 false (.bin .neq .num 61 (oi 0)), oq 63 (.pick 60 oT 62)] (.cond 63 (so [oq 6 (.mov oF)] .ret) .skip)) (so [om 65 10, oe 66 (.call 27 [65]), om 64 66, oq 67 (.extract 0 64), oq 68 (.extract 1 64), oa 12 (.alloc [(i6 0), .nsl]), os (.store 2 12 67), om 13 68] (.seq (.seq (.draw 15 [⟨0, om 69 13, []⟩, ⟨1, oq 70 (.un .not 69), []⟩, ⟨2, om 71 70, []⟩, ⟨3, oqg 72 71 false (.mov 0), []⟩, ⟨4, oqg 73 71 false (.nilck 72), []⟩, ⟨5, oqg 74 71 false (.fieldAddr 4 73), []⟩, ⟨6, oqg 75 71 false (.loadN 2 74), []⟩, ⟨7, oqg 76 71 false (.mov 0), []⟩, ⟨8, oqg 77 71 false (.nilck 76), []⟩, ⟨9, oqg 78 71 false (.fieldAddr 6 77), []⟩, ⟨10, oqg 79 71 false (.load1 78), []⟩, ⟨11, oqg 80 71 false (.loadN 2 12), []⟩, ⟨12, oeg 81 71 false (.call 57 [75, 79, 80]), []⟩, ⟨13, oqg 82 71 false (.un .not 81), []⟩, ⟨14, oq 83 (.pick 71 oT 82), []⟩]) (.cond 83 (so [oq 6 (.mov oF)] .ret) .skip)) (.seq (.draw 28 [⟨0, om 84 0, []⟩, ⟨1, om 85 0, []⟩, ⟨2, om 86 0, []⟩, ⟨3, om 87 0, []⟩, ⟨4, om 88 0, []⟩, ⟨5, om 89 0, []⟩, ⟨6, om 90 7, []⟩, ⟨7, om 91 10, []⟩, ⟨8, oq 92 (.loadN 2 12), []⟩, ⟨9, oq 93 (.loadN 2 12), []⟩, ⟨10, on 94 84, []⟩, ⟨11, ox 95 0 94, []⟩, ⟨12, os (.store 1 95 90), [oq 92 (.loadN 2 12), oq 93 (.loadN 2 12)]⟩, ⟨13, on 96 85, []⟩, ⟨14, ox 97 1 96, []⟩, ⟨15, os (.store 1 97 91), [oq 92 (.loadN 2 12), oq 93 (.loadN 2 12)]⟩, ⟨16, on 98 86, []⟩, ⟨17, ox 99 2 98, []⟩, ⟨18, os (.store 2 99 92), [oq 93 (.loadN 2 12)]⟩, ⟨19, on 100 87, []⟩, ⟨20, ox 101 4 100, []⟩, ⟨21, os (.store 2 101 93), []⟩, ⟨22, on 102 88, []⟩, ⟨23, ox 103 6 102, []⟩, ⟨24, os (.store 1 103 (.val .nsl)), []⟩, ⟨25, on 104 89, []⟩, ⟨26, ox 105 7 104, []⟩, ⟨27, os (.store 1 105 oF), []⟩]) (so [oq 6 (.mov oT)] .ret))))))
noncomputable def f26.res : List PRes := [.tmp (sn 6)]
noncomputable def f26.p0 (C : CW) (Q : AVal → S → Prop) (E : En) (σ : S) : Prop :=
C 12 [(E 7)] σ fun t55 σ1 =>
Som (vExtract 0 t55) fun t56 =>
Som (vExtract 1 t55) fun t57 =>
Som (binA .eql .ptr t56 .nptr) fun t59 =>
sU t59 (some t57) fun t61 =>
sU t59 (binA .neq .num t61 (i6 0)) fun t62 =>
sP t59 (.bool true) t62 fun t63 =>
WIf t63 (
Ret [some (.bool false)] σ1 Q) (
C 27 [t56] σ1 fun t66 σ2 =>
Som (vExtract 0 t66) fun t67 =>
Som (vExtract 1 t66) fun t68 =>
Ala (aAllocV [(i6 0), .nsl]) σ2 fun t12 σ3 =>
sS 2 t12 t67 σ3 fun _ σ4 =>
Som (unA .not t68) fun t70 =>
sU t70 (some (E 0)) fun t72 =>
sU t70 (vNilck t72) fun t73 =>
sU t70 (vFieldAddr 4 t73) fun t74 =>
sU t70 (vLoadN 2 t74 (σ4.bumpT 15)) fun t75 =>
sU t70 (some (E 0)) fun t76 =>
sU t70 (vNilck t76) fun t77 =>
sU t70 (vFieldAddr 6 t77) fun t78 =>
sU t70 (vLoad1 t78 (σ4.bumpT 15)) fun t79 =>
sU t70 (vLoadN 2 t12 (σ4.bumpT 15)) fun t80 =>
gE1 (isB t70 false) (fun K => C 57 [t75, t79, t80] (σ4.bumpT 15) K) (σ4.bumpT 15) fun t81 σ5 =>
sU t70 (unA .not t81) fun t82 =>
sP t70 (.bool true) t82 fun t83 =>
WIf t83 (
Ret [some (.bool false)] σ5 Q) (
Som (vLoadN 2 t12 (σ5.bumpT 28)) fun t92 =>
Som (vLoadN 2 t12 (σ5.bumpT 28)) fun t93 =>
sN (E 0) fun t94 =>
sF 0 t94 fun t95 =>
sS 1 t95 (E 7) (σ5.bumpT 28) fun _ σ6 =>
Sure (SameO (vLoadN 2 t12 σ6) t92) <|
Sure (SameO (vLoadN 2 t12 σ6) t93) <|
sN (E 0) fun t96 =>
sF 1 t96 fun t97 =>
sS 1 t97 t56 σ6 fun _ σ7 =>
Sure (SameO (vLoadN 2 t12 σ7) t92) <|
Sure (SameO (vLoadN 2 t12 σ7) t93) <|
sN (E 0) fun t98 =>
sF 2 t98 fun t99 =>
sS 2 t99 t92 σ7 fun _ σ8 =>
Sure (SameO (vLoadN 2 t12 σ8) t93) <|
sN (E 0) fun t100 =>
sF 4 t100 fun t101 =>
sS 2 t101 t93 σ8 fun _ σ9 =>
sN (E 0) fun t102 =>
sF 6 t102 fun t103 =>
sS 1 t103 .nsl σ9 fun _ σ10 =>
sN (E 0) fun t104 =>
sF 7 t104 fun t105 =>
sS 1 t105 (.bool false) σ10 fun _ σ11 =>
Ret [some (.bool true)] σ11 Q))
theorem f26.p0_eq : f26.p0 C Q E σ = wC C f26.c0 E σ (retK f26.res Q) := by kernel_rfl
abbrev f26.J0 (C : CW) (Q : AVal → S → Prop) (E : En) (σ : S) : Prop := wC C f26.c0 E σ (retK f26.res Q)
theorem f26.p0_of (h : f26.p0 C Q E σ) : f26.J0 C Q E σ := Eq.mp f26.p0_eq h
noncomputable def f26.body (R0 : PC) : PC := (so [oa 4 (.box 1), oq 6 (.mov oF)] (.seq (.draw 10 [⟨0, om 14 0, []⟩, ⟨1, on 15 14, []⟩, ⟨2, ox 16 0 15, []⟩, ⟨3, ol 17 16, []⟩, ⟨4, ox 18 3 4, []⟩, ⟨5, ol 19 18, []⟩, ⟨6, ox 20 4 4, []⟩, ⟨7, ol 21 20, []⟩, ⟨8, oe 22 (.call 46 [17, 19, 21]), []⟩, ⟨9, om 7 22, []⟩]) (.seq (so [om 23 7, oq 24 (.bin .eql .ptr 23 (.val .nptr))] (.cond 24 (so [oq 6 (.mov oF)] .ret) .skip)) (.seq (so [om 25 2, ob 26 .gtr 25 (oi 0)] (.cond 26 (so [om 27 7, om 28 2, oe 29 (.call 25 [27, 28])] (so [om 31 7, oe 32 (.call 12 [31]), om 30 32, oq 33 (.extract 0 30), oq 34 (.extract 1 30), om 8 33, om 9 34] (.seq (so [om 35 9, ob 36 .neq 35 (oi 0), om 37 36, oqg 38 37 true (.mov 9), oqg 39 37 true (.bin .neq .num 38 (oi 11)), oqg 40 37 true (.mov 39), oqg 41 40 false (.mov 8), oqg 42 40 false (.bin .neq .ptr 41 (.val .nptr)), oqg 43 37 true (.pick 40 oT 42), oq 44 (.pick 37 43 oF)] (.cond 44 (so [oq 6 (.mov oF)] .ret) .skip)) (so [om 45 7, ox 46 4 4, ol 47 46, ox 48 3 4, ol 49 48, oe 50 (.call 46 [45, 47, 49]), om 7 50] (so [om 51 7, oq 52 (.bin .eql .ptr 51 (.val .nptr))] (.cond 52 (so [oq 6 (.mov oF)] .ret) .skip)))))) .skip)) R0))))
noncomputable def f26.fn : PFn := .code (slotsN 106) (f26.body f26.c0) f26.res
noncomputable def f26 (C : CW) (R0 : PC) (a0 a1 a2 : AVal) (σ : S) (Q : AVal → S → Prop) : Prop :=
Ala (aBoxV a1) σ fun t4 σ1 =>
sN a0 fun t15 =>
sF 0 t15 fun t16 =>
sL t16 (σ1.bumpT 10) fun t17 =>
sF 3 t4 fun t18 =>
sL t18 (σ1.bumpT 10) fun t19 =>
sF 4 t4 fun t20 =>
sL t20 (σ1.bumpT 10) fun t21 =>
C 46 [t17, t19, t21] (σ1.bumpT 10) fun t22 σ2 =>
Som (binA .eql .ptr t22 .nptr) fun t24 =>
WIf t24 (
Ret [some (.bool false)] σ2 Q) (
sB .gtr a2 (i6 0) fun t26 =>
WIf t26 (
C 25 [t22, a2] σ2 fun t29 σ3 =>
C 12 [t22] σ3 fun t32 σ4 =>
Som (vExtract 0 t32) fun t33 =>
Som (vExtract 1 t32) fun t34 =>
sB .neq t34 (i6 0) fun t36 =>
sT t36 (some t34) fun t38 =>
sT t36 (binA .neq .num t38 (i6 11)) fun t39 =>
sT t36 (some t39) fun t40 =>
sU t40 (some t33) fun t41 =>
sU t40 (binA .neq .ptr t41 .nptr) fun t42 =>
sT t36 (vPick t40 (.bool true) t42) fun t43 =>
sP t36 t43 (.bool false) fun t44 =>
WIf t44 (
Ret [some (.bool false)] σ4 Q) (
sF 4 t4 fun t46 =>
sL t46 σ4 fun t47 =>
sF 3 t4 fun t48 =>
sL t48 σ4 fun t49 =>
C 46 [t22, t47, t49] σ4 fun t50 σ5 =>
Som (binA .eql .ptr t50 .nptr) fun t52 =>
WIf t52 (
Ret [some (.bool false)] σ5 Q) (
wC C R0 ((((((((((((E0.q 0 a0 1 a1 2 a2 4 t4).q 6 (.bool false) 14 a0 15 t15 16 t16).q 17 t17 18 t18 19 t19 20 t20).q 21 t21 22 t22 7 t22 23 t22).q 24 t24 25 a2 26 t26 27 t22).q 28 a2 29 t29 31 t22 32 t32).q 30 t32 33 t33 34 t34 8 t33).q 9 t34 35 t34 36 t36 37 t36).q 38 t38 39 t39 40 t40 41 t41).q 42 t42 43 t43 44 t44 45 t22).q 46 t46 47 t47 48 t48 49 t49).q 50 t50 7 t50 51 t50 52 t52) σ5 (retK f26.res Q)))) (
wC C R0 (((((((E0.q 0 a0 1 a1 2 a2 4 t4).q 6 (.bool false) 14 a0 15 t15 16 t16).q 17 t17 18 t18 19 t19 20 t20).q 21 t21 22 t22 7 t22 23 t22).set 24 t24).set 25 a2).set 26 t26) σ2 (retK f26.res Q)))
theorem f26_eq {R0 : PC} {a0 a1 a2 : AVal} : f26 C R0 a0 a1 a2 σ Q = wC C (f26.body R0) (((E0.set 0 a0).set 1 a1).set 2 a2) σ (retK f26.res Q) := by kernel_rfl
theorem f26_wf (ht : tab 26 = some f26.fn) {a0 a1 a2 : AVal} (h : f26 (WF tab) f26.c0 a0 a1 a2 σ Q) : WF tab 26 [a0, a1, a2] σ Q := wf_of ht (by kernel_rfl) f26_eq h
noncomputable def f27.c1 : PC := (so [om 45 0, om 46 0, oe 47 (.call 14 [46]), ob 48 .sub 47 (oi 1), oe 49 (.call 16 [45, 48]), om 44 49, oq 50 (.extract 0 44), oq 51 (.extract 1 44), om 8 50, om 9 51] (so [om 53 0, om 54 0, oe 55 (.call 15 [54]), ob 56 .add 55 (oi 1), oe 57 (.call 16 [53, 56]), om 52 57, oq 58 (.extract 0 52), oq 59 (.extract 1 52), om 10 58, om 11 59] (.seq (.draw 14 [⟨0, oq 60 (.loadN 2 4), []⟩, ⟨1, om 61 9, []⟩, ⟨2, oq 62 (.un .not 61), []⟩, ⟨3, om 63 62, []⟩, ⟨4, oqg 64 63 true (.mov 11), []⟩, ⟨5, oqg 65 63 true (.un .not 64), []⟩, ⟨6, oq 66 (.pick 63 65 oF), []⟩, ⟨7, om 67 66, []⟩, ⟨8, oqg 68 67 true (.fieldAddr 0 4), []⟩, ⟨9, oqg 69 67 true (.load1 68), []⟩, ⟨10, oqg 70 67 true (.bin .geq .num 69 (oi 1)), []⟩, ⟨11, oq 71 (.pick 67 70 oF), []⟩, ⟨12, os (.store 2 2 60), [oqg 69 67 true (.load1 68)]⟩, ⟨13, om 3 71, []⟩]) .ret)))
noncomputable def f27.c0 : PC := (.seq (so [om 17 5, om 18 0, oe 19 (.call 15 [18]), ob 20 .leq 17 19] (.cond 20 .skip (.exit 0))) (.seq (.block 1 (so [om 24 0, om 25 5, oe 26 (.call 16 [24, 25]), om 23 26, oq 27 (.extract 0 23), oq 28 (.extract 1 23), om 6 27, om 7 28] (.seq (so [om 29 7, oq 30 (.un .not 29), om 31 30, oqg 32 31 false (.fieldAddr 1 4), oqg 33 31 false (.load1 32), oqg 34 31 false (.lenSl 33), oqg 35 31 false (.bin .gtr .num 34 (oi 2000)), oq 36 (.pick 31 oT 35)] (.cond 36 (so [oq 37 (.loadN 2 4), os (.store 2 2 37), oq 3 (.mov oF)] .ret) .skip)) (.ops [ox 38 1 4, ol 39 38, om 40 6, oa 41 (.bslice 1 [(.str [])] 1 [(0, 1, 40)]), oe 42 (.append 1 16 39 41), ox 43 1 4, os (.store 1 43 42)])))) (.ops [om 21 5, ob 22 .add 21 (oi 1), om 5 22])))
noncomputable def f27.res : List PRes := [.cellN 2 (sn 2), .tmp (sn 3)]
noncomputable def f27.p1 (C : CW) (Q : AVal → S → Prop) (E : En) (σ : S) : Prop :=
C 14 [(E 0)] σ fun t47 σ1 =>
sB .sub t47 (i6 1) fun t48 =>
C 16 [(E 0), t48] σ1 fun t49 σ2 =>
Som (vExtract 0 t49) fun t50 =>
Som (vExtract 1 t49) fun t51 =>
C 15 [(E 0)] σ2 fun t55 σ3 =>
sB .add t55 (i6 1) fun t56 =>
C 16 [(E 0), t56] σ3 fun t57 σ4 =>
Som (vExtract 0 t57) fun t58 =>
Som (vExtract 1 t57) fun t59 =>
Som (vLoadN 2 (E 4) (σ4.bumpT 14)) fun t60 =>
Som (unA .not t51) fun t62 =>
sT t62 (some t59) fun t64 =>
sT t62 (unA .not t64) fun t65 =>
sP t62 t65 (.bool false) fun t66 =>
sT t66 (vFieldAddr 0 (E 4)) fun t68 =>
sT t66 (vLoad1 t68 (σ4.bumpT 14)) fun t69 =>
sT t66 (binA .geq .num t69 (i6 1)) fun t70 =>
sP t66 t70 (.bool false) fun t71 =>
sS 2 (E 2) t60 (σ4.bumpT 14) fun _ σ5 =>
Sure ((notB (isB t66 true) || SameO (vLoad1 t68 σ5) t69)) <|
Ret [vLoadN 2 (E 2) σ5, some t71] σ5 Q
theorem f27.p1_eq : f27.p1 C Q E σ = wC C f27.c1 E σ (retK f27.res Q) := by kernel_rfl
abbrev f27.J1 (C : CW) (Q : AVal → S → Prop) (E : En) (σ : S) : Prop := wC C f27.c1 E σ (retK f27.res Q)
theorem f27.p1_of (h : f27.p1 C Q E σ) : f27.J1 C Q E σ := Eq.mp f27.p1_eq h
noncomputable def f27.p0 (C : CW) (Q : AVal → S → Prop) (R0 R1 : PC) (E : En) (σ : S) : Prop :=
C 15 [(E 0)] σ fun t19 σ1 =>
sB .leq (E 5) t19 fun t20 =>
WIf t20 (
C 16 [(E 0), (E 5)] σ1 fun t26 σ2 =>
Som (vExtract 0 t26) fun t27 =>
Som (vExtract 1 t26) fun t28 =>
Som (unA .not t28) fun t30 =>
sU t30 (vFieldAddr 1 (E 4)) fun t32 =>
sU t30 (vLoad1 t32 σ2) fun t33 =>
sU t30 (vLenSl t33) fun t34 =>
sU t30 (binA .gtr .num t34 (i6 2000)) fun t35 =>
sP t30 (.bool true) t35 fun t36 =>
WIf t36 (
Som (vLoadN 2 (E 4) σ2) fun t37 =>
sS 2 (E 2) t37 σ2 fun _ σ3 =>
Ret [vLoadN 2 (E 2) σ3, some (.bool false)] σ3 Q) (
sF 1 (E 4) fun t38 =>
sL t38 σ2 fun t39 =>
Ala (aSliceV 1 [(.str [])] 1 [(0, 1, t27)]) σ2 fun t41 σ3 =>
Eff (appendA 1 16 t39 t41 σ3) fun t42 σ4 =>
sF 1 (E 4) fun t43 =>
sS 1 t43 t42 σ4 fun _ σ5 =>
sB .add (E 5) (i6 1) fun t22 =>
wC C (.loop R0) ((((((((E.q 17 (E 5) 18 (E 0) 19 t19 20 t20).q 24 (E 0) 25 (E 5) 26 t26 23 t26).q 27 t27 28 t28 6 t27 7 t28).q 29 t28 30 t30 31 t30 32 t32).q 33 t33 34 t34 35 t35 36 t36).q 38 t38 39 t39 40 t27 41 t41).q 42 t42 43 t43 21 (E 5) 22 t22).set 5 t22) σ5 (blockK 0 (seqK (wC C R1) (retK f27.res Q))))) (
wC C R1 (E.q 17 (E 5) 18 (E 0) 19 t19 20 t20) σ1 (retK f27.res Q))
theorem f27.p0_eq {R0 R1 : PC} : f27.p0 C Q R0 R1 E σ = wC C f27.c0 E σ (loopK C R0 (blockK 0 (seqK (wC C R1) (retK f27.res Q)))) := by kernel_rfl
abbrev f27.L0 (C : CW) (Q : AVal → S → Prop) (E : En) (σ : S) : Prop := wC C (.loop f27.c0) E σ (blockK 0 (seqK (wC C f27.c1) (retK f27.res Q)))
theorem f27.p0_of (h : f27.p0 (WF tab) Q f27.c0 f27.c1 E σ) : f27.L0 (WF tab) Q E σ := wLoop_step (Eq.mp f27.p0_eq h)
noncomputable def f27.body (R0 R1 : PC) : PC := (so [oa 2 (.alloc [(i6 0), .nsl]), oq 3 (.mov oF)] (so [om 12 0, oe 13 (.call 14 [12]), oq 14 (.build [(i6 0), .nsl] [(0, 1, 13)]), oa 4 (.alloc [(i6 0), .nsl]), os (.store 2 4 14)] (.seq (so [om 15 0, oe 16 (.call 14 [15]), om 5 16] (.block 0 (.loop R0))) R1)))
noncomputable def f27.fn : PFn := .code (slotsN 72) (f27.body f27.c0 f27.c1) f27.res
noncomputable def f27 (C : CW) (R0 R1 : PC) (a0 : AVal) (σ : S) (Q : AVal → S → Prop) : Prop :=
Ala (aAllocV [(i6 0), .nsl]) σ fun t2 σ1 =>
C 14 [a0] σ1 fun t13 σ2 =>
Som (vBuild [(i6 0), .nsl] [(0, 1, t13)]) fun t14 =>
Ala (aAllocV [(i6 0), .nsl]) σ2 fun t4 σ3 =>
sS 2 t4 t14 σ3 fun _ σ4 =>
C 14 [a0] σ4 fun t16 σ5 =>
wC C (.loop R0) ((((E0.q 0 a0 2 t2 3 (.bool false) 12 a0).q 13 t13 14 t14 4 t4 15 a0).set 16 t16).set 5 t16) σ5 (blockK 0 (seqK (wC C R1) (retK f27.res Q)))
theorem f27_eq {R0 R1 : PC} {a0 : AVal} : f27 C R0 R1 a0 σ Q = wC C (f27.body R0 R1) (E0.set 0 a0) σ (retK f27.res Q) := by kernel_rfl
theorem f27_wf (ht : tab 27 = some f27.fn) {a0 : AVal} (h : f27 (WF tab) f27.c0 f27.c1 a0 σ Q) : WF tab 27 [a0] σ Q := wf_of ht (by kernel_rfl) f27_eq h
noncomputable def f28.c0 : PC := (.seq (so [om 20 5, ox 21 1 2, ol 22 21, oq 23 (.lenSl 22), ob 24 .lss 20 23] (.cond 24 .skip (.exit 0))) (.seq (.block 1 (.seq (.draw 11 [⟨0, ox 27 1 2, []⟩, ⟨1, ol 28 27, []⟩, ⟨2, om 29 5, []⟩, ⟨3, oq 30 (.ixSl 1 28 29), []⟩, ⟨4, ol 31 30, []⟩, ⟨5, ox 32 1 3, []⟩, ⟨6, ol 33 32, []⟩, ⟨7, om 34 5, []⟩, ⟨8, oq 35 (.ixSl 1 33 34), []⟩, ⟨9, ol 36 35, []⟩, ⟨10, ob 37 .neq 31 36, []⟩]) (.cond 37 (so [oq 4 (.mov oF)] .ret) .skip))) (.ops [om 25 5, ob 26 .add 25 (oi 1), om 5 26])))
noncomputable def f28.res : List PRes := [.tmp (sn 4)]
noncomputable def f28.p0 (C : CW) (Q : AVal → S → Prop) (R0 : PC) (E : En) (σ : S) : Prop :=
sF 1 (E 2) fun t21 =>
sL t21 σ fun t22 =>
Som (vLenSl t22) fun t23 =>
sB .lss (E 5) t23 fun t24 =>
WIf t24 (
sF 1 (E 2) fun t27 =>
sL t27 (σ.bumpT 11) fun t28 =>
Som (vIxSl 1 t28 (E 5)) fun t30 =>
sL t30 (σ.bumpT 11) fun t31 =>
sF 1 (E 3) fun t32 =>
sL t32 (σ.bumpT 11) fun t33 =>
Som (vIxSl 1 t33 (E 5)) fun t35 =>
sL t35 (σ.bumpT 11) fun t36 =>
sB .neq t31 t36 fun t37 =>
WIf t37 (
Ret [some (.bool false)] (σ.bumpT 11) Q) (
sB .add (E 5) (i6 1) fun t26 =>
wC C (.loop R0) (((((((E.q 20 (E 5) 21 t21 22 t22 23 t23).q 24 t24 27 t27 28 t28 29 (E 5)).q 30 t30 31 t31 32 t32 33 t33).q 34 (E 5) 35 t35 36 t36 37 t37).set 25 (E 5)).set 26 t26).set 5 t26) (σ.bumpT 11) (blockK 0 (seqK (wC C (so [oq 4 (.mov oT)] .ret)) (retK f28.res Q))))) (
Ret [some (.bool true)] σ Q)
theorem f28.p0_eq {R0 : PC} : f28.p0 C Q R0 E σ = wC C f28.c0 E σ (loopK C R0 (blockK 0 (seqK (wC C (so [oq 4 (.mov oT)] .ret)) (retK f28.res Q)))) := by kernel_rfl
abbrev f28.L0 (C : CW) (Q : AVal → S → Prop) (E : En) (σ : S) : Prop := wC C (.loop f28.c0) E σ (blockK 0 (seqK (wC C (so [oq 4 (.mov oT)] .ret)) (retK f28.res Q)))
theorem f28.p0_of (h : f28.p0 (WF tab) Q f28.c0 E σ) : f28.L0 (WF tab) Q E σ := wLoop_step (Eq.mp f28.p0_eq h)
noncomputable def f28.body (R0 : PC) : PC := (so [oa 2 (.box 0), oa 3 (.box 1), oq 4 (.mov oF)] (.seq (so [ox 6 0 2, ol 7 6, ox 8 0 3, ol 9 8, ob 10 .neq 7 9, om 11 10, oqg 12 11 false (.fieldAddr 1 2), oqg 13 11 false (.load1 12), oqg 14 11 false (.lenSl 13), oqg 15 11 false (.fieldAddr 1 3), oqg 16 11 false (.load1 15), oqg 17 11 false (.lenSl 16), oqg 18 11 false (.bin .neq .num 14 17), oq 19 (.pick 11 oT 18)] (.cond 19 (so [oq 4 (.mov oF)] .ret) .skip)) (.seq (so [oq 5 (.mov (oi 0))] (.block 0 (.loop R0))) (so [oq 4 (.mov oT)] .ret))))
noncomputable def f28.fn : PFn := .code (slotsN 38) (f28.body f28.c0) f28.res
noncomputable def f28 (C : CW) (R0 : PC) (a0 a1 : AVal) (σ : S) (Q : AVal → S → Prop) : Prop :=
Ala (aBoxV a0) σ fun t2 σ1 =>
Ala (aBoxV a1) σ1 fun t3 σ2 =>
sF 0 t2 fun t6 =>
sL t6 σ2 fun t7 =>
sF 0 t3 fun t8 =>
sL t8 σ2 fun t9 =>
sB .neq t7 t9 fun t10 =>
sU t10 (vFieldAddr 1 t2) fun t12 =>
sU t10 (vLoad1 t12 σ2) fun t13 =>
sU t10 (vLenSl t13) fun t14 =>
sU t10 (vFieldAddr 1 t3) fun t15 =>
sU t10 (vLoad1 t15 σ2) fun t16 =>
sU t10 (vLenSl t16) fun t17 =>
sU t10 (binA .neq .num t14 t17) fun t18 =>
sP t10 (.bool true) t18 fun t19 =>
WIf t19 (
Ret [some (.bool false)] σ2 Q) (
wC C (.loop R0) (((((E0.q 0 a0 1 a1 2 t2 3 t3).q 4 (.bool false) 6 t6 7 t7 8 t8).q 9 t9 10 t10 11 t10 12 t12).q 13 t13 14 t14 15 t15 16 t16).q 17 t17 18 t18 19 t19 5 (i6 0)) σ2 (blockK 0 (seqK (wC C (so [oq 4 (.mov oT)] .ret)) (retK f28.res Q))))
theorem f28_eq {R0 : PC} {a0 a1 : AVal} : f28 C R0 a0 a1 σ Q = wC C (f28.body R0) ((E0.set 0 a0).set 1 a1) σ (retK f28.res Q) := by kernel_rfl
theorem f28_wf (ht : tab 28 = some f28.fn) {a0 a1 : AVal} (h : f28 (WF tab) f28.c0 a0 a1 σ Q) : WF tab 28 [a0, a1] σ Q := wf_of ht (by kernel_rfl) f28_eq h
noncomputable def f35.res : List PRes := [.tmp (sn 2)]
noncomputable def f35.body : PC := (so [oq 2 (.mov (.val .nptr))] (.seq (.draw 6 [⟨0, om 3 0, []⟩, ⟨1, oa 4 (.mkslice 1 24 [.nsl] (oi 64) (oi 64)), []⟩, ⟨2, oa 5 (.mkslice 1 24 [.nsl] (oi 64) (oi 64)), []⟩, ⟨3, oq 6 (.build [(i6 0), .nsl, .nsl, .nsl, (i6 0), (.bool false)] [(0, 1, 3), (1, 1, 4), (2, 1, 5)]), []⟩, ⟨4, oa 7 (.box 6), []⟩, ⟨5, om 2 7, []⟩]) .ret))
noncomputable def f35.fn : PFn := .code (slotsN 8) f35.body f35.res
noncomputable def f35 (C : CW) (a0 : AVal) (σ : S) (Q : AVal → S → Prop) : Prop :=
Alb (aMakeV 1 24 [.nsl] (i6 64) (i6 64)) (Pos.plusT 1 σ.next) (σ.bumpT 6) fun t4 σ1 =>
Alb (aMakeV 1 24 [.nsl] (i6 64) (i6 64)) (Pos.plusT 2 σ.next) σ1 fun t5 σ2 =>
Som (vBuild [(i6 0), .nsl, .nsl, .nsl, (i6 0), (.bool false)] [(0, 1, a0), (1, 1, t4), (2, 1, t5)]) fun t6 =>
Alb (aBoxV t6) (Pos.plusT 4 σ.next) σ2 fun t7 σ3 =>
Ret [some t7] σ3 Q
theorem f35_eq {a0 : AVal} : f35 C a0 σ Q = wC C f35.body (E0.set 0 a0) σ (retK f35.res Q) := by kernel_rfl
theorem f35_wf (ht : tab 35 = some f35.fn) {a0 : AVal} (h : f35 (WF tab) a0 σ Q) : WF tab 35 [a0] σ Q := wf_of ht (by kernel_rfl) f35_eq h
noncomputable def f36.res : List PRes := [.tmp (sn 2)]
noncomputable def f36.body : PC := (so [oq 2 (.mov oF)] (.seq (so [om 3 0, on 4 3, ox 5 5 4, ol 6 5] (.cond 6 (so [oq 2 (.mov oF)] .ret) .skip)) (.seq (so [om 7 0, on 8 7, ox 9 4 8, ol 10 9, ob 11 .gtr 10 (oi 0)] (.cond 11 (so [om 12 0, on 13 12, ox 14 4 13, ol 15 14, ob 16 .sub 15 (oi 1), on 17 12, ox 18 4 17, os (.store 1 18 16)] (.ops [om 19 0, om 20 0, on 21 20, ox 22 4 21, ol 23 22, ob 24 .eql 23 (oi 0), on 25 19, ox 26 5 25, os (.store 1 26 24)])) .skip)) (so [om 27 0, on 28 27, ox 29 5 28, ol 30 29, oq 31 (.un .not 30), om 2 31] .ret))))
noncomputable def f36.fn : PFn := .code (slotsN 32) f36.body f36.res
noncomputable def f36 (C : CW) (a0 : AVal) (σ : S) (Q : AVal → S → Prop) : Prop :=
sN a0 fun t4 =>
sF 5 t4 fun t5 =>
sL t5 σ fun t6 =>
WIf t6 (
Ret [some (.bool false)] σ Q) (
sN a0 fun t8 =>
sF 4 t8 fun t9 =>
sL t9 σ fun t10 =>
sB .gtr t10 (i6 0) fun t11 =>
WIf t11 (
sN a0 fun t13 =>
sF 4 t13 fun t14 =>
sL t14 σ fun t15 =>
sB .sub t15 (i6 1) fun t16 =>
sN a0 fun t17 =>
sF 4 t17 fun t18 =>
sS 1 t18 t16 σ fun _ σ1 =>
sN a0 fun t21 =>
sF 4 t21 fun t22 =>
sL t22 σ1 fun t23 =>
sB .eql t23 (i6 0) fun t24 =>
sN a0 fun t25 =>
sF 5 t25 fun t26 =>
sS 1 t26 t24 σ1 fun _ σ2 =>
sN a0 fun t28 =>
sF 5 t28 fun t29 =>
sL t29 σ2 fun t30 =>
Som (unA .not t30) fun t31 =>
Ret [some t31] σ2 Q) (
sN a0 fun t28 =>
sF 5 t28 fun t29 =>
sL t29 σ fun t30 =>
Som (unA .not t30) fun t31 =>
Ret [some t31] σ Q))
theorem f36_eq {a0 : AVal} : f36 C a0 σ Q = wC C f36.body (E0.set 0 a0) σ (retK f36.res Q) := by kernel_rfl
theorem f36_wf (ht : tab 36 = some f36.fn) {a0 : AVal} (h : f36 (WF tab) a0 σ Q) : WF tab 36 [a0] σ Q := wf_of ht (by kernel_rfl) f36_eq h
end Go.Am
