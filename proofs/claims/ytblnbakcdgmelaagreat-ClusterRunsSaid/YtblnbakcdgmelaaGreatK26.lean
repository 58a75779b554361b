/-
  The same evaluator with its code laid out as functions: what is looked up once a run is looked up once a table. Conditions: none.
-/
import Derived.Test.YtblnbakcdgmelaaGreatK25
namespace Go.Am
abbrev N1 := N16 (Option AVal)
abbrev K1 := Caller → Pos → Tm → S → Out
abbrev K2 := Caller → Nat → Tm → S → Out
noncomputable def N1.a1 (t : Tm) : N1 := @N16.rec N1 (fun _ => N1) (fun c1 _ _ _ _ _ _ _ _ _ _ _ _ _ _ _ => c1) t
noncomputable def N1.a2 (t : Tm) : N1 := @N16.rec N1 (fun _ => N1) (fun _ c2 _ _ _ _ _ _ _ _ _ _ _ _ _ _ => c2) t
noncomputable def N1.a3 (t : Tm) : N1 := @N16.rec N1 (fun _ => N1) (fun _ _ c3 _ _ _ _ _ _ _ _ _ _ _ _ _ => c3) t
noncomputable def N1.a4 (t : Tm) : N1 := @N16.rec N1 (fun _ => N1) (fun _ _ _ c4 _ _ _ _ _ _ _ _ _ _ _ _ => c4) t
noncomputable def N1.a5 (t : Tm) : N1 := @N16.rec N1 (fun _ => N1) (fun _ _ _ _ c5 _ _ _ _ _ _ _ _ _ _ _ => c5) t
noncomputable def N1.a6 (t : Tm) : N1 := @N16.rec N1 (fun _ => N1) (fun _ _ _ _ _ c6 _ _ _ _ _ _ _ _ _ _ => c6) t
noncomputable def N1.a7 (t : Tm) : N1 := @N16.rec N1 (fun _ => N1) (fun _ _ _ _ _ _ c7 _ _ _ _ _ _ _ _ _ => c7) t
noncomputable def N1.a8 (t : Tm) : N1 := @N16.rec N1 (fun _ => N1) (fun _ _ _ _ _ _ _ c8 _ _ _ _ _ _ _ _ => c8) t
noncomputable def N1.a9 (t : Tm) : N1 := @N16.rec N1 (fun _ => N1) (fun _ _ _ _ _ _ _ _ c9 _ _ _ _ _ _ _ => c9) t
noncomputable def N1.a10 (t : Tm) : N1 := @N16.rec N1 (fun _ => N1) (fun _ _ _ _ _ _ _ _ _ c10 _ _ _ _ _ _ => c10) t
noncomputable def N1.a11 (t : Tm) : N1 := @N16.rec N1 (fun _ => N1) (fun _ _ _ _ _ _ _ _ _ _ c11 _ _ _ _ _ => c11) t
noncomputable def N1.a12 (t : Tm) : N1 := @N16.rec N1 (fun _ => N1) (fun _ _ _ _ _ _ _ _ _ _ _ c12 _ _ _ _ => c12) t
noncomputable def N1.a13 (t : Tm) : N1 := @N16.rec N1 (fun _ => N1) (fun _ _ _ _ _ _ _ _ _ _ _ _ c13 _ _ _ => c13) t
noncomputable def N1.a14 (t : Tm) : N1 := @N16.rec N1 (fun _ => N1) (fun _ _ _ _ _ _ _ _ _ _ _ _ _ c14 _ _ => c14) t
noncomputable def N1.a15 (t : Tm) : N1 := @N16.rec N1 (fun _ => N1) (fun _ _ _ _ _ _ _ _ _ _ _ _ _ _ c15 _ => c15) t
noncomputable def N1.a16 (t : Tm) : N1 := @N16.rec N1 (fun _ => N1) (fun _ _ _ _ _ _ _ _ _ _ _ _ _ _ _ c16 => c16) t
noncomputable def N1.b1 (t : N1) : Option AVal := @N16.rec (Option AVal) (fun _ => Option AVal) (fun c1 _ _ _ _ _ _ _ _ _ _ _ _ _ _ _ => c1) t
noncomputable def N1.b2 (t : N1) : Option AVal := @N16.rec (Option AVal) (fun _ => Option AVal) (fun _ c2 _ _ _ _ _ _ _ _ _ _ _ _ _ _ => c2) t
noncomputable def N1.b3 (t : N1) : Option AVal := @N16.rec (Option AVal) (fun _ => Option AVal) (fun _ _ c3 _ _ _ _ _ _ _ _ _ _ _ _ _ => c3) t
noncomputable def N1.b4 (t : N1) : Option AVal := @N16.rec (Option AVal) (fun _ => Option AVal) (fun _ _ _ c4 _ _ _ _ _ _ _ _ _ _ _ _ => c4) t
noncomputable def N1.b5 (t : N1) : Option AVal := @N16.rec (Option AVal) (fun _ => Option AVal) (fun _ _ _ _ c5 _ _ _ _ _ _ _ _ _ _ _ => c5) t
noncomputable def N1.b6 (t : N1) : Option AVal := @N16.rec (Option AVal) (fun _ => Option AVal) (fun _ _ _ _ _ c6 _ _ _ _ _ _ _ _ _ _ => c6) t
noncomputable def N1.b7 (t : N1) : Option AVal := @N16.rec (Option AVal) (fun _ => Option AVal) (fun _ _ _ _ _ _ c7 _ _ _ _ _ _ _ _ _ => c7) t
noncomputable def N1.b8 (t : N1) : Option AVal := @N16.rec (Option AVal) (fun _ => Option AVal) (fun _ _ _ _ _ _ _ c8 _ _ _ _ _ _ _ _ => c8) t
noncomputable def N1.b9 (t : N1) : Option AVal := @N16.rec (Option AVal) (fun _ => Option AVal) (fun _ _ _ _ _ _ _ _ c9 _ _ _ _ _ _ _ => c9) t
noncomputable def N1.b10 (t : N1) : Option AVal := @N16.rec (Option AVal) (fun _ => Option AVal) (fun _ _ _ _ _ _ _ _ _ c10 _ _ _ _ _ _ => c10) t
noncomputable def N1.b11 (t : N1) : Option AVal := @N16.rec (Option AVal) (fun _ => Option AVal) (fun _ _ _ _ _ _ _ _ _ _ c11 _ _ _ _ _ => c11) t
noncomputable def N1.b12 (t : N1) : Option AVal := @N16.rec (Option AVal) (fun _ => Option AVal) (fun _ _ _ _ _ _ _ _ _ _ _ c12 _ _ _ _ => c12) t
noncomputable def N1.b13 (t : N1) : Option AVal := @N16.rec (Option AVal) (fun _ => Option AVal) (fun _ _ _ _ _ _ _ _ _ _ _ _ c13 _ _ _ => c13) t
noncomputable def N1.b14 (t : N1) : Option AVal := @N16.rec (Option AVal) (fun _ => Option AVal) (fun _ _ _ _ _ _ _ _ _ _ _ _ _ c14 _ _ => c14) t
noncomputable def N1.b15 (t : N1) : Option AVal := @N16.rec (Option AVal) (fun _ => Option AVal) (fun _ _ _ _ _ _ _ _ _ _ _ _ _ _ c15 _ => c15) t
noncomputable def N1.b16 (t : N1) : Option AVal := @N16.rec (Option AVal) (fun _ => Option AVal) (fun _ _ _ _ _ _ _ _ _ _ _ _ _ _ _ c16 => c16) t
noncomputable def N1.sa1 (x : N1) (t : Tm) (k : Tm → Out) : Out := @N16.rec N1 (fun _ => N1 → (Tm → Out) → Out) (fun _ c2 c3 c4 c5 c6 c7 c8 c9 c10 c11 c12 c13 c14 c15 c16 x k => k (.mk x c2 c3 c4 c5 c6 c7 c8 c9 c10 c11 c12 c13 c14 c15 c16)) t x k
noncomputable def N1.sa2 (x : N1) (t : Tm) (k : Tm → Out) : Out := @N16.rec N1 (fun _ => N1 → (Tm → Out) → Out) (fun c1 _ c3 c4 c5 c6 c7 c8 c9 c10 c11 c12 c13 c14 c15 c16 x k => k (.mk c1 x c3 c4 c5 c6 c7 c8 c9 c10 c11 c12 c13 c14 c15 c16)) t x k
noncomputable def N1.sa3 (x : N1) (t : Tm) (k : Tm → Out) : Out := @N16.rec N1 (fun _ => N1 → (Tm → Out) → Out) (fun c1 c2 _ c4 c5 c6 c7 c8 c9 c10 c11 c12 c13 c14 c15 c16 x k => k (.mk c1 c2 x c4 c5 c6 c7 c8 c9 c10 c11 c12 c13 c14 c15 c16)) t x k
noncomputable def N1.sa4 (x : N1) (t : Tm) (k : Tm → Out) : Out := @N16.rec N1 (fun _ => N1 → (Tm → Out) → Out) (fun c1 c2 c3 _ c5 c6 c7 c8 c9 c10 c11 c12 c13 c14 c15 c16 x k => k (.mk c1 c2 c3 x c5 c6 c7 c8 c9 c10 c11 c12 c13 c14 c15 c16)) t x k
noncomputable def N1.sa5 (x : N1) (t : Tm) (k : Tm → Out) : Out := @N16.rec N1 (fun _ => N1 → (Tm → Out) → Out) (fun c1 c2 c3 c4 _ c6 c7 c8 c9 c10 c11 c12 c13 c14 c15 c16 x k => k (.mk c1 c2 c3 c4 x c6 c7 c8 c9 c10 c11 c12 c13 c14 c15 c16)) t x k
noncomputable def N1.sa6 (x : N1) (t : Tm) (k : Tm → Out) : Out := @N16.rec N1 (fun _ => N1 → (Tm → Out) → Out) (fun c1 c2 c3 c4 c5 _ c7 c8 c9 c10 c11 c12 c13 c14 c15 c16 x k => k (.mk c1 c2 c3 c4 c5 x c7 c8 c9 c10 c11 c12 c13 c14 c15 c16)) t x k
noncomputable def N1.sa7 (x : N1) (t : Tm) (k : Tm → Out) : Out := @N16.rec N1 (fun _ => N1 → (Tm → Out) → Out) (fun c1 c2 c3 c4 c5 c6 _ c8 c9 c10 c11 c12 c13 c14 c15 c16 x k => k (.mk c1 c2 c3 c4 c5 c6 x c8 c9 c10 c11 c12 c13 c14 c15 c16)) t x k
noncomputable def N1.sa8 (x : N1) (t : Tm) (k : Tm → Out) : Out := @N16.rec N1 (fun _ => N1 → (Tm → Out) → Out) (fun c1 c2 c3 c4 c5 c6 c7 _ c9 c10 c11 c12 c13 c14 c15 c16 x k => k (.mk c1 c2 c3 c4 c5 c6 c7 x c9 c10 c11 c12 c13 c14 c15 c16)) t x k
noncomputable def N1.sa9 (x : N1) (t : Tm) (k : Tm → Out) : Out := @N16.rec N1 (fun _ => N1 → (Tm → Out) → Out) (fun c1 c2 c3 c4 c5 c6 c7 c8 _ c10 c11 c12 c13 c14 c15 c16 x k => k (.mk c1 c2 c3 c4 c5 c6 c7 c8 x c10 c11 c12 c13 c14 c15 c16)) t x k
noncomputable def N1.sa10 (x : N1) (t : Tm) (k : Tm → Out) : Out := @N16.rec N1 (fun _ => N1 → (Tm → Out) → Out) (fun c1 c2 c3 c4 c5 c6 c7 c8 c9 _ c11 c12 c13 c14 c15 c16 x k => k (.mk c1 c2 c3 c4 c5 c6 c7 c8 c9 x c11 c12 c13 c14 c15 c16)) t x k
noncomputable def N1.sa11 (x : N1) (t : Tm) (k : Tm → Out) : Out := @N16.rec N1 (fun _ => N1 → (Tm → Out) → Out) (fun c1 c2 c3 c4 c5 c6 c7 c8 c9 c10 _ c12 c13 c14 c15 c16 x k => k (.mk c1 c2 c3 c4 c5 c6 c7 c8 c9 c10 x c12 c13 c14 c15 c16)) t x k
noncomputable def N1.sa12 (x : N1) (t : Tm) (k : Tm → Out) : Out := @N16.rec N1 (fun _ => N1 → (Tm → Out) → Out) (fun c1 c2 c3 c4 c5 c6 c7 c8 c9 c10 c11 _ c13 c14 c15 c16 x k => k (.mk c1 c2 c3 c4 c5 c6 c7 c8 c9 c10 c11 x c13 c14 c15 c16)) t x k
noncomputable def N1.sa13 (x : N1) (t : Tm) (k : Tm → Out) : Out := @N16.rec N1 (fun _ => N1 → (Tm → Out) → Out) (fun c1 c2 c3 c4 c5 c6 c7 c8 c9 c10 c11 c12 _ c14 c15 c16 x k => k (.mk c1 c2 c3 c4 c5 c6 c7 c8 c9 c10 c11 c12 x c14 c15 c16)) t x k
noncomputable def N1.sa14 (x : N1) (t : Tm) (k : Tm → Out) : Out := @N16.rec N1 (fun _ => N1 → (Tm → Out) → Out) (fun c1 c2 c3 c4 c5 c6 c7 c8 c9 c10 c11 c12 c13 _ c15 c16 x k => k (.mk c1 c2 c3 c4 c5 c6 c7 c8 c9 c10 c11 c12 c13 x c15 c16)) t x k
noncomputable def N1.sa15 (x : N1) (t : Tm) (k : Tm → Out) : Out := @N16.rec N1 (fun _ => N1 → (Tm → Out) → Out) (fun c1 c2 c3 c4 c5 c6 c7 c8 c9 c10 c11 c12 c13 c14 _ c16 x k => k (.mk c1 c2 c3 c4 c5 c6 c7 c8 c9 c10 c11 c12 c13 c14 x c16)) t x k
noncomputable def N1.sa16 (x : N1) (t : Tm) (k : Tm → Out) : Out := @N16.rec N1 (fun _ => N1 → (Tm → Out) → Out) (fun c1 c2 c3 c4 c5 c6 c7 c8 c9 c10 c11 c12 c13 c14 c15 _ x k => k (.mk c1 c2 c3 c4 c5 c6 c7 c8 c9 c10 c11 c12 c13 c14 c15 x)) t x k
noncomputable def N1.sb1 (x : Option AVal) (t : N1) (k : N1 → Out) : Out := @N16.rec (Option AVal) (fun _ => Option AVal → (N1 → Out) → Out) (fun _ c2 c3 c4 c5 c6 c7 c8 c9 c10 c11 c12 c13 c14 c15 c16 x k => k (.mk x c2 c3 c4 c5 c6 c7 c8 c9 c10 c11 c12 c13 c14 c15 c16)) t x k
noncomputable def N1.sb2 (x : Option AVal) (t : N1) (k : N1 → Out) : Out := @N16.rec (Option AVal) (fun _ => Option AVal → (N1 → Out) → Out) (fun c1 _ c3 c4 c5 c6 c7 c8 c9 c10 c11 c12 c13 c14 c15 c16 x k => k (.mk c1 x c3 c4 c5 c6 c7 c8 c9 c10 c11 c12 c13 c14 c15 c16)) t x k
noncomputable def N1.sb3 (x : Option AVal) (t : N1) (k : N1 → Out) : Out := @N16.rec (Option AVal) (fun _ => Option AVal → (N1 → Out) → Out) (fun c1 c2 _ c4 c5 c6 c7 c8 c9 c10 c11 c12 c13 c14 c15 c16 x k => k (.mk c1 c2 x c4 c5 c6 c7 c8 c9 c10 c11 c12 c13 c14 c15 c16)) t x k
noncomputable def N1.sb4 (x : Option AVal) (t : N1) (k : N1 → Out) : Out := @N16.rec (Option AVal) (fun _ => Option AVal → (N1 → Out) → Out) (fun c1 c2 c3 _ c5 c6 c7 c8 c9 c10 c11 c12 c13 c14 c15 c16 x k => k (.mk c1 c2 c3 x c5 c6 c7 c8 c9 c10 c11 c12 c13 c14 c15 c16)) t x k
noncomputable def N1.sb5 (x : Option AVal) (t : N1) (k : N1 → Out) : Out := @N16.rec (Option AVal) (fun _ => Option AVal → (N1 → Out) → Out) (fun c1 c2 c3 c4 _ c6 c7 c8 c9 c10 c11 c12 c13 c14 c15 c16 x k => k (.mk c1 c2 c3 c4 x c6 c7 c8 c9 c10 c11 c12 c13 c14 c15 c16)) t x k
noncomputable def N1.sb6 (x : Option AVal) (t : N1) (k : N1 → Out) : Out := @N16.rec (Option AVal) (fun _ => Option AVal → (N1 → Out) → Out) (fun c1 c2 c3 c4 c5 _ c7 c8 c9 c10 c11 c12 c13 c14 c15 c16 x k => k (.mk c1 c2 c3 c4 c5 x c7 c8 c9 c10 c11 c12 c13 c14 c15 c16)) t x k
noncomputable def N1.sb7 (x : Option AVal) (t : N1) (k : N1 → Out) : Out := @N16.rec (Option AVal) (fun _ => Option AVal → (N1 → Out) → Out) (fun c1 c2 c3 c4 c5 c6 _ c8 c9 c10 c11 c12 c13 c14 c15 c16 x k => k (.mk c1 c2 c3 c4 c5 c6 x c8 c9 c10 c11 c12 c13 c14 c15 c16)) t x k
noncomputable def N1.sb8 (x : Option AVal) (t : N1) (k : N1 → Out) : Out := @N16.rec (Option AVal) (fun _ => Option AVal → (N1 → Out) → Out) (fun c1 c2 c3 c4 c5 c6 c7 _ c9 c10 c11 c12 c13 c14 c15 c16 x k => k (.mk c1 c2 c3 c4 c5 c6 c7 x c9 c10 c11 c12 c13 c14 c15 c16)) t x k
noncomputable def N1.sb9 (x : Option AVal) (t : N1) (k : N1 → Out) : Out := @N16.rec (Option AVal) (fun _ => Option AVal → (N1 → Out) → Out) (fun c1 c2 c3 c4 c5 c6 c7 c8 _ c10 c11 c12 c13 c14 c15 c16 x k => k (.mk c1 c2 c3 c4 c5 c6 c7 c8 x c10 c11 c12 c13 c14 c15 c16)) t x k
noncomputable def N1.sb10 (x : Option AVal) (t : N1) (k : N1 → Out) : Out := @N16.rec (Option AVal) (fun _ => Option AVal → (N1 → Out) → Out) (fun c1 c2 c3 c4 c5 c6 c7 c8 c9 _ c11 c12 c13 c14 c15 c16 x k => k (.mk c1 c2 c3 c4 c5 c6 c7 c8 c9 x c11 c12 c13 c14 c15 c16)) t x k
noncomputable def N1.sb11 (x : Option AVal) (t : N1) (k : N1 → Out) : Out := @N16.rec (Option AVal) (fun _ => Option AVal → (N1 → Out) → Out) (fun c1 c2 c3 c4 c5 c6 c7 c8 c9 c10 _ c12 c13 c14 c15 c16 x k => k (.mk c1 c2 c3 c4 c5 c6 c7 c8 c9 c10 x c12 c13 c14 c15 c16)) t x k
noncomputable def N1.sb12 (x : Option AVal) (t : N1) (k : N1 → Out) : Out := @N16.rec (Option AVal) (fun _ => Option AVal → (N1 → Out) → Out) (fun c1 c2 c3 c4 c5 c6 c7 c8 c9 c10 c11 _ c13 c14 c15 c16 x k => k (.mk c1 c2 c3 c4 c5 c6 c7 c8 c9 c10 c11 x c13 c14 c15 c16)) t x k
noncomputable def N1.sb13 (x : Option AVal) (t : N1) (k : N1 → Out) : Out := @N16.rec (Option AVal) (fun _ => Option AVal → (N1 → Out) → Out) (fun c1 c2 c3 c4 c5 c6 c7 c8 c9 c10 c11 c12 _ c14 c15 c16 x k => k (.mk c1 c2 c3 c4 c5 c6 c7 c8 c9 c10 c11 c12 x c14 c15 c16)) t x k
noncomputable def N1.sb14 (x : Option AVal) (t : N1) (k : N1 → Out) : Out := @N16.rec (Option AVal) (fun _ => Option AVal → (N1 → Out) → Out) (fun c1 c2 c3 c4 c5 c6 c7 c8 c9 c10 c11 c12 c13 _ c15 c16 x k => k (.mk c1 c2 c3 c4 c5 c6 c7 c8 c9 c10 c11 c12 c13 x c15 c16)) t x k
noncomputable def N1.sb15 (x : Option AVal) (t : N1) (k : N1 → Out) : Out := @N16.rec (Option AVal) (fun _ => Option AVal → (N1 → Out) → Out) (fun c1 c2 c3 c4 c5 c6 c7 c8 c9 c10 c11 c12 c13 c14 _ c16 x k => k (.mk c1 c2 c3 c4 c5 c6 c7 c8 c9 c10 c11 c12 c13 c14 x c16)) t x k
noncomputable def N1.sb16 (x : Option AVal) (t : N1) (k : N1 → Out) : Out := @N16.rec (Option AVal) (fun _ => Option AVal → (N1 → Out) → Out) (fun c1 c2 c3 c4 c5 c6 c7 c8 c9 c10 c11 c12 c13 c14 c15 _ x k => k (.mk c1 c2 c3 c4 c5 c6 c7 c8 c9 c10 c11 c12 c13 c14 c15 x)) t x k
noncomputable def N1.sel_a {R : Type} (i : D) (ret : (Tm → N1) → R) : R := match i with
  | .a1 => ret N1.a1
  | .a2 => ret N1.a2
  | .a3 => ret N1.a3
  | .a4 => ret N1.a4
  | .a5 => ret N1.a5
  | .a6 => ret N1.a6
  | .a7 => ret N1.a7
  | .a8 => ret N1.a8
  | .a9 => ret N1.a9
  | .a10 => ret N1.a10
  | .a11 => ret N1.a11
  | .a12 => ret N1.a12
  | .a13 => ret N1.a13
  | .a14 => ret N1.a14
  | .a15 => ret N1.a15
  | .a16 => ret N1.a16
noncomputable def N1.sel_b {R : Type} (i : D) (ret : (N1 → Option AVal) → R) : R := match i with
  | .a1 => ret N1.b1
  | .a2 => ret N1.b2
  | .a3 => ret N1.b3
  | .a4 => ret N1.b4
  | .a5 => ret N1.b5
  | .a6 => ret N1.b6
  | .a7 => ret N1.b7
  | .a8 => ret N1.b8
  | .a9 => ret N1.b9
  | .a10 => ret N1.b10
  | .a11 => ret N1.b11
  | .a12 => ret N1.b12
  | .a13 => ret N1.b13
  | .a14 => ret N1.b14
  | .a15 => ret N1.b15
  | .a16 => ret N1.b16
noncomputable def N1.sel_sa {R : Type} (i : D) (ret : (N1 → Tm → (Tm → Out) → Out) → R) : R := match i with
  | .a1 => ret N1.sa1
  | .a2 => ret N1.sa2
  | .a3 => ret N1.sa3
  | .a4 => ret N1.sa4
  | .a5 => ret N1.sa5
  | .a6 => ret N1.sa6
  | .a7 => ret N1.sa7
  | .a8 => ret N1.sa8
  | .a9 => ret N1.sa9
  | .a10 => ret N1.sa10
  | .a11 => ret N1.sa11
  | .a12 => ret N1.sa12
  | .a13 => ret N1.sa13
  | .a14 => ret N1.sa14
  | .a15 => ret N1.sa15
  | .a16 => ret N1.sa16
noncomputable def N1.sel_sb {R : Type} (i : D) (ret : (Option AVal → N1 → (N1 → Out) → Out) → R) : R := match i with
  | .a1 => ret N1.sb1
  | .a2 => ret N1.sb2
  | .a3 => ret N1.sb3
  | .a4 => ret N1.sb4
  | .a5 => ret N1.sb5
  | .a6 => ret N1.sb6
  | .a7 => ret N1.sb7
  | .a8 => ret N1.sb8
  | .a9 => ret N1.sb9
  | .a10 => ret N1.sb10
  | .a11 => ret N1.sb11
  | .a12 => ret N1.sb12
  | .a13 => ret N1.sb13
  | .a14 => ret N1.sb14
  | .a15 => ret N1.sb15
  | .a16 => ret N1.sb16
theorem N1.sel_a_eq {R : Type} (i : D) (ret : (Tm → N1) → R) : N1.sel_a i ret = ret (N16.g i) := by cases i <;> rfl
theorem N1.sel_b_eq {R : Type} (i : D) (ret : (N1 → Option AVal) → R) : N1.sel_b i ret = ret (N16.g i) := by cases i <;> rfl
theorem N1.sel_sa_eq {R : Type} (i : D) (ret : (N1 → Tm → (Tm → Out) → Out) → R) : N1.sel_sa i ret = ret (N16.s i) := by
  cases i <;> (unfold N1.sel_sa; simp only; congr 1; first | done | (funext x t k; cases t; rfl))
theorem N1.sel_sb_eq {R : Type} (i : D) (ret : (Option AVal → N1 → (N1 → Out) → Out) → R) : N1.sel_sb i ret = ret (N16.s i) := by
  cases i <;> (unfold N1.sel_sb; simp only; congr 1; first | done | (funext x t k; cases t; rfl))
abbrev H1 := N16 (Option Blk)
abbrev H2 := N16 H1
abbrev H3 := N16 H2
noncomputable def N1.h1_1 (t : H1) : Option Blk := @N16.rec (Option Blk) (fun _ => Option Blk) (fun c1 _ _ _ _ _ _ _ _ _ _ _ _ _ _ _ => c1) t
noncomputable def N1.h1_2 (t : H1) : Option Blk := @N16.rec (Option Blk) (fun _ => Option Blk) (fun _ c2 _ _ _ _ _ _ _ _ _ _ _ _ _ _ => c2) t
noncomputable def N1.h1_3 (t : H1) : Option Blk := @N16.rec (Option Blk) (fun _ => Option Blk) (fun _ _ c3 _ _ _ _ _ _ _ _ _ _ _ _ _ => c3) t
noncomputable def N1.h1_4 (t : H1) : Option Blk := @N16.rec (Option Blk) (fun _ => Option Blk) (fun _ _ _ c4 _ _ _ _ _ _ _ _ _ _ _ _ => c4) t
noncomputable def N1.h1_5 (t : H1) : Option Blk := @N16.rec (Option Blk) (fun _ => Option Blk) (fun _ _ _ _ c5 _ _ _ _ _ _ _ _ _ _ _ => c5) t
noncomputable def N1.h1_6 (t : H1) : Option Blk := @N16.rec (Option Blk) (fun _ => Option Blk) (fun _ _ _ _ _ c6 _ _ _ _ _ _ _ _ _ _ => c6) t
noncomputable def N1.h1_7 (t : H1) : Option Blk := @N16.rec (Option Blk) (fun _ => Option Blk) (fun _ _ _ _ _ _ c7 _ _ _ _ _ _ _ _ _ => c7) t
noncomputable def N1.h1_8 (t : H1) : Option Blk := @N16.rec (Option Blk) (fun _ => Option Blk) (fun _ _ _ _ _ _ _ c8 _ _ _ _ _ _ _ _ => c8) t
noncomputable def N1.h1_9 (t : H1) : Option Blk := @N16.rec (Option Blk) (fun _ => Option Blk) (fun _ _ _ _ _ _ _ _ c9 _ _ _ _ _ _ _ => c9) t
noncomputable def N1.h1_10 (t : H1) : Option Blk := @N16.rec (Option Blk) (fun _ => Option Blk) (fun _ _ _ _ _ _ _ _ _ c10 _ _ _ _ _ _ => c10) t
noncomputable def N1.h1_11 (t : H1) : Option Blk := @N16.rec (Option Blk) (fun _ => Option Blk) (fun _ _ _ _ _ _ _ _ _ _ c11 _ _ _ _ _ => c11) t
noncomputable def N1.h1_12 (t : H1) : Option Blk := @N16.rec (Option Blk) (fun _ => Option Blk) (fun _ _ _ _ _ _ _ _ _ _ _ c12 _ _ _ _ => c12) t
noncomputable def N1.h1_13 (t : H1) : Option Blk := @N16.rec (Option Blk) (fun _ => Option Blk) (fun _ _ _ _ _ _ _ _ _ _ _ _ c13 _ _ _ => c13) t
noncomputable def N1.h1_14 (t : H1) : Option Blk := @N16.rec (Option Blk) (fun _ => Option Blk) (fun _ _ _ _ _ _ _ _ _ _ _ _ _ c14 _ _ => c14) t
noncomputable def N1.h1_15 (t : H1) : Option Blk := @N16.rec (Option Blk) (fun _ => Option Blk) (fun _ _ _ _ _ _ _ _ _ _ _ _ _ _ c15 _ => c15) t
noncomputable def N1.h1_16 (t : H1) : Option Blk := @N16.rec (Option Blk) (fun _ => Option Blk) (fun _ _ _ _ _ _ _ _ _ _ _ _ _ _ _ c16 => c16) t
noncomputable def N1.h1 (i : D) (t : H1) : Option Blk := @D.rec (fun _ => H1 → Option Blk) N1.h1_1 N1.h1_2 N1.h1_3 N1.h1_4 N1.h1_5 N1.h1_6 N1.h1_7 N1.h1_8 N1.h1_9 N1.h1_10 N1.h1_11 N1.h1_12 N1.h1_13 N1.h1_14 N1.h1_15 N1.h1_16 i t
noncomputable def N1.h2_1 (t : H2) : H1 := @N16.rec (H1) (fun _ => H1) (fun c1 _ _ _ _ _ _ _ _ _ _ _ _ _ _ _ => c1) t
noncomputable def N1.h2_2 (t : H2) : H1 := @N16.rec (H1) (fun _ => H1) (fun _ c2 _ _ _ _ _ _ _ _ _ _ _ _ _ _ => c2) t
noncomputable def N1.h2_3 (t : H2) : H1 := @N16.rec (H1) (fun _ => H1) (fun _ _ c3 _ _ _ _ _ _ _ _ _ _ _ _ _ => c3) t
noncomputable def N1.h2_4 (t : H2) : H1 := @N16.rec (H1) (fun _ => H1) (fun _ _ _ c4 _ _ _ _ _ _ _ _ _ _ _ _ => c4) t
noncomputable def N1.h2_5 (t : H2) : H1 := @N16.rec (H1) (fun _ => H1) (fun _ _ _ _ c5 _ _ _ _ _ _ _ _ _ _ _ => c5) t
noncomputable def N1.h2_6 (t : H2) : H1 := @N16.rec (H1) (fun _ => H1) (fun _ _ _ _ _ c6 _ _ _ _ _ _ _ _ _ _ => c6) t
noncomputable def N1.h2_7 (t : H2) : H1 := @N16.rec (H1) (fun _ => H1) (fun _ _ _ _ _ _ c7 _ _ _ _ _ _ _ _ _ => c7) t
noncomputable def N1.h2_8 (t : H2) : H1 := @N16.rec (H1) (fun _ => H1) (fun _ _ _ _ _ _ _ c8 _ _ _ _ _ _ _ _ => c8) t
noncomputable def N1.h2_9 (t : H2) : H1 := @N16.rec (H1) (fun _ => H1) (fun _ _ _ _ _ _ _ _ c9 _ _ _ _ _ _ _ => c9) t
noncomputable def N1.h2_10 (t : H2) : H1 := @N16.rec (H1) (fun _ => H1) (fun _ _ _ _ _ _ _ _ _ c10 _ _ _ _ _ _ => c10) t
noncomputable def N1.h2_11 (t : H2) : H1 := @N16.rec (H1) (fun _ => H1) (fun _ _ _ _ _ _ _ _ _ _ c11 _ _ _ _ _ => c11) t
noncomputable def N1.h2_12 (t : H2) : H1 := @N16.rec (H1) (fun _ => H1) (fun _ _ _ _ _ _ _ _ _ _ _ c12 _ _ _ _ => c12) t
noncomputable def N1.h2_13 (t : H2) : H1 := @N16.rec (H1) (fun _ => H1) (fun _ _ _ _ _ _ _ _ _ _ _ _ c13 _ _ _ => c13) t
noncomputable def N1.h2_14 (t : H2) : H1 := @N16.rec (H1) (fun _ => H1) (fun _ _ _ _ _ _ _ _ _ _ _ _ _ c14 _ _ => c14) t
noncomputable def N1.h2_15 (t : H2) : H1 := @N16.rec (H1) (fun _ => H1) (fun _ _ _ _ _ _ _ _ _ _ _ _ _ _ c15 _ => c15) t
noncomputable def N1.h2_16 (t : H2) : H1 := @N16.rec (H1) (fun _ => H1) (fun _ _ _ _ _ _ _ _ _ _ _ _ _ _ _ c16 => c16) t
noncomputable def N1.h2 (i : D) (t : H2) : H1 := @D.rec (fun _ => H2 → H1) N1.h2_1 N1.h2_2 N1.h2_3 N1.h2_4 N1.h2_5 N1.h2_6 N1.h2_7 N1.h2_8 N1.h2_9 N1.h2_10 N1.h2_11 N1.h2_12 N1.h2_13 N1.h2_14 N1.h2_15 N1.h2_16 i t
noncomputable def N1.h3_1 (t : H3) : H2 := @N16.rec (H2) (fun _ => H2) (fun c1 _ _ _ _ _ _ _ _ _ _ _ _ _ _ _ => c1) t
noncomputable def N1.h3_2 (t : H3) : H2 := @N16.rec (H2) (fun _ => H2) (fun _ c2 _ _ _ _ _ _ _ _ _ _ _ _ _ _ => c2) t
noncomputable def N1.h3_3 (t : H3) : H2 := @N16.rec (H2) (fun _ => H2) (fun _ _ c3 _ _ _ _ _ _ _ _ _ _ _ _ _ => c3) t
noncomputable def N1.h3_4 (t : H3) : H2 := @N16.rec (H2) (fun _ => H2) (fun _ _ _ c4 _ _ _ _ _ _ _ _ _ _ _ _ => c4) t
noncomputable def N1.h3_5 (t : H3) : H2 := @N16.rec (H2) (fun _ => H2) (fun _ _ _ _ c5 _ _ _ _ _ _ _ _ _ _ _ => c5) t
noncomputable def N1.h3_6 (t : H3) : H2 := @N16.rec (H2) (fun _ => H2) (fun _ _ _ _ _ c6 _ _ _ _ _ _ _ _ _ _ => c6) t
noncomputable def N1.h3_7 (t : H3) : H2 := @N16.rec (H2) (fun _ => H2) (fun _ _ _ _ _ _ c7 _ _ _ _ _ _ _ _ _ => c7) t
noncomputable def N1.h3_8 (t : H3) : H2 := @N16.rec (H2) (fun _ => H2) (fun _ _ _ _ _ _ _ c8 _ _ _ _ _ _ _ _ => c8) t
noncomputable def N1.h3_9 (t : H3) : H2 := @N16.rec (H2) (fun _ => H2) (fun _ _ _ _ _ _ _ _ c9 _ _ _ _ _ _ _ => c9) t
noncomputable def N1.h3_10 (t : H3) : H2 := @N16.rec (H2) (fun _ => H2) (fun _ _ _ _ _ _ _ _ _ c10 _ _ _ _ _ _ => c10) t
noncomputable def N1.h3_11 (t : H3) : H2 := @N16.rec (H2) (fun _ => H2) (fun _ _ _ _ _ _ _ _ _ _ c11 _ _ _ _ _ => c11) t
noncomputable def N1.h3_12 (t : H3) : H2 := @N16.rec (H2) (fun _ => H2) (fun _ _ _ _ _ _ _ _ _ _ _ c12 _ _ _ _ => c12) t
noncomputable def N1.h3_13 (t : H3) : H2 := @N16.rec (H2) (fun _ => H2) (fun _ _ _ _ _ _ _ _ _ _ _ _ c13 _ _ _ => c13) t
noncomputable def N1.h3_14 (t : H3) : H2 := @N16.rec (H2) (fun _ => H2) (fun _ _ _ _ _ _ _ _ _ _ _ _ _ c14 _ _ => c14) t
noncomputable def N1.h3_15 (t : H3) : H2 := @N16.rec (H2) (fun _ => H2) (fun _ _ _ _ _ _ _ _ _ _ _ _ _ _ c15 _ => c15) t
noncomputable def N1.h3_16 (t : H3) : H2 := @N16.rec (H2) (fun _ => H2) (fun _ _ _ _ _ _ _ _ _ _ _ _ _ _ _ c16 => c16) t
noncomputable def N1.h3 (i : D) (t : H3) : H2 := @D.rec (fun _ => H3 → H2) N1.h3_1 N1.h3_2 N1.h3_3 N1.h3_4 N1.h3_5 N1.h3_6 N1.h3_7 N1.h3_8 N1.h3_9 N1.h3_10 N1.h3_11 N1.h3_12 N1.h3_13 N1.h3_14 N1.h3_15 N1.h3_16 i t
noncomputable def N1.h4_1 (t : Tr Blk) : H3 := @N16.rec (H3) (fun _ => H3) (fun c1 _ _ _ _ _ _ _ _ _ _ _ _ _ _ _ => c1) t
noncomputable def N1.h4_2 (t : Tr Blk) : H3 := @N16.rec (H3) (fun _ => H3) (fun _ c2 _ _ _ _ _ _ _ _ _ _ _ _ _ _ => c2) t
noncomputable def N1.h4_3 (t : Tr Blk) : H3 := @N16.rec (H3) (fun _ => H3) (fun _ _ c3 _ _ _ _ _ _ _ _ _ _ _ _ _ => c3) t
noncomputable def N1.h4_4 (t : Tr Blk) : H3 := @N16.rec (H3) (fun _ => H3) (fun _ _ _ c4 _ _ _ _ _ _ _ _ _ _ _ _ => c4) t
noncomputable def N1.h4_5 (t : Tr Blk) : H3 := @N16.rec (H3) (fun _ => H3) (fun _ _ _ _ c5 _ _ _ _ _ _ _ _ _ _ _ => c5) t
noncomputable def N1.h4_6 (t : Tr Blk) : H3 := @N16.rec (H3) (fun _ => H3) (fun _ _ _ _ _ c6 _ _ _ _ _ _ _ _ _ _ => c6) t
noncomputable def N1.h4_7 (t : Tr Blk) : H3 := @N16.rec (H3) (fun _ => H3) (fun _ _ _ _ _ _ c7 _ _ _ _ _ _ _ _ _ => c7) t
noncomputable def N1.h4_8 (t : Tr Blk) : H3 := @N16.rec (H3) (fun _ => H3) (fun _ _ _ _ _ _ _ c8 _ _ _ _ _ _ _ _ => c8) t
noncomputable def N1.h4_9 (t : Tr Blk) : H3 := @N16.rec (H3) (fun _ => H3) (fun _ _ _ _ _ _ _ _ c9 _ _ _ _ _ _ _ => c9) t
noncomputable def N1.h4_10 (t : Tr Blk) : H3 := @N16.rec (H3) (fun _ => H3) (fun _ _ _ _ _ _ _ _ _ c10 _ _ _ _ _ _ => c10) t
noncomputable def N1.h4_11 (t : Tr Blk) : H3 := @N16.rec (H3) (fun _ => H3) (fun _ _ _ _ _ _ _ _ _ _ c11 _ _ _ _ _ => c11) t
noncomputable def N1.h4_12 (t : Tr Blk) : H3 := @N16.rec (H3) (fun _ => H3) (fun _ _ _ _ _ _ _ _ _ _ _ c12 _ _ _ _ => c12) t
noncomputable def N1.h4_13 (t : Tr Blk) : H3 := @N16.rec (H3) (fun _ => H3) (fun _ _ _ _ _ _ _ _ _ _ _ _ c13 _ _ _ => c13) t
noncomputable def N1.h4_14 (t : Tr Blk) : H3 := @N16.rec (H3) (fun _ => H3) (fun _ _ _ _ _ _ _ _ _ _ _ _ _ c14 _ _ => c14) t
noncomputable def N1.h4_15 (t : Tr Blk) : H3 := @N16.rec (H3) (fun _ => H3) (fun _ _ _ _ _ _ _ _ _ _ _ _ _ _ c15 _ => c15) t
noncomputable def N1.h4_16 (t : Tr Blk) : H3 := @N16.rec (H3) (fun _ => H3) (fun _ _ _ _ _ _ _ _ _ _ _ _ _ _ _ c16 => c16) t
noncomputable def N1.h4 (i : D) (t : Tr Blk) : H3 := @D.rec (fun _ => Tr Blk → H3) N1.h4_1 N1.h4_2 N1.h4_3 N1.h4_4 N1.h4_5 N1.h4_6 N1.h4_7 N1.h4_8 N1.h4_9 N1.h4_10 N1.h4_11 N1.h4_12 N1.h4_13 N1.h4_14 N1.h4_15 N1.h4_16 i t
noncomputable def getH (p : Pos) (t : Tr Blk) : Option Blk := @Pos.rec (fun _ => Tr Blk → Option Blk) (fun i j k l t => N1.h1 l (N1.h2 k (N1.h3 j (N1.h4 i t)))) p t
theorem getH_eq (p : Pos) (t : Tr Blk) : getH p t = Tr.get p t := by
  obtain ⟨i, j, k, l⟩ := p
  have e4 : ∀ (i : D) (t : Tr Blk), N1.h4 i t = N16.g i t := by intro i t; cases i <;> rfl
  have e3 : ∀ (i : D) (t : H3), N1.h3 i t = N16.g i t := by intro i t; cases i <;> rfl
  have e2 : ∀ (i : D) (t : H2), N1.h2 i t = N16.g i t := by intro i t; cases i <;> rfl
  have e1 : ∀ (i : D) (t : H1), N1.h1 i t = N16.g i t := by intro i t; cases i <;> rfl
  show N1.h1 l (N1.h2 k (N1.h3 j (N1.h4 i t))) = _
  rw [e4, e3, e2, e1]; rfl
noncomputable def headO (v : AVal) (k : AVal → Out) : Out := @AVal.rec (fun _ => (AVal → Out) → Out) (fun _ => PUnit) (fun b k => k (.bool b)) (fun q n k => k (.int q n)) (fun s k => k (.str s)) (fun k => k .nptr) (fun b o k => k (.ptr b o)) (fun k => k .nsl) (fun b o l c k => k (.sl b o l c)) (fun b o l e k => k (.slu b o l e)) (fun k => k .nmap) (fun b k => k (.map b)) (fun f c _ k => k (.func f c)) (fun k => k .nfunc) (fun k => k .niface) (fun x _ k => k (.agg x)) (fun x _ k => k (.tup x)) .unit (fun _ _ _ _ => .unit) v k
theorem headO_eq (v : AVal) (k : AVal → Out) : headO v k = k v := by cases v <;> rfl
noncomputable def intO (v : AVal) (f : IntKind → Int → Out) (e : Out) : Out := @AVal.rec (fun _ => (IntKind → Int → Out) → Out → Out) (fun _ => PUnit) (fun _ _ e => e) (fun q n f _ => f q n) (fun _ _ e => e) (fun _ e => e) (fun _ _ _ e => e) (fun _ e => e) (fun _ _ _ _ _ e => e) (fun _ _ _ _ _ e => e) (fun _ e => e) (fun _ _ e => e) (fun _ _ _ _ e => e) (fun _ e => e) (fun _ e => e) (fun _ _ _ e => e) (fun _ _ _ e => e) .unit (fun _ _ _ _ => .unit) v f e
noncomputable def ptrO (v : AVal) (f : Pos → Nat → Out) (e : Out) : Out := @AVal.rec (fun _ => (Pos → Nat → Out) → Out → Out) (fun _ => PUnit) (fun _ _ e => e) (fun _ _ _ e => e) (fun _ _ e => e) (fun _ e => e) (fun b o f _ => f b o) (fun _ e => e) (fun _ _ _ _ _ e => e) (fun _ _ _ _ _ e => e) (fun _ e => e) (fun _ _ e => e) (fun _ _ _ _ e => e) (fun _ e => e) (fun _ e => e) (fun _ _ _ e => e) (fun _ _ _ e => e) .unit (fun _ _ _ _ => .unit) v f e
noncomputable def boolO (v : AVal) (f : Bool → Out) (e : Out) : Out := @AVal.rec (fun _ => (Bool → Out) → Out → Out) (fun _ => PUnit) (fun b f _ => f b) (fun _ _ _ e => e) (fun _ _ e => e) (fun _ e => e) (fun _ _ _ e => e) (fun _ e => e) (fun _ _ _ _ _ e => e) (fun _ _ _ _ _ e => e) (fun _ e => e) (fun _ _ e => e) (fun _ _ _ _ e => e) (fun _ e => e) (fun _ e => e) (fun _ _ _ e => e) (fun _ _ _ e => e) .unit (fun _ _ _ _ => .unit) v f e
noncomputable def lenO (v : AVal) (f : Nat → Out) (e : Out) : Out := @AVal.rec (fun _ => (Nat → Out) → Out → Out) (fun _ => PUnit) (fun _ _ e => e) (fun _ _ _ e => e) (fun _ _ e => e) (fun _ e => e) (fun _ _ _ e => e) (fun f _ => f 0) (fun _ _ l _ f _ => f l) (fun _ _ l _ f _ => f l) (fun _ e => e) (fun _ _ e => e) (fun _ _ _ _ e => e) (fun _ e => e) (fun _ e => e) (fun _ _ _ e => e) (fun _ _ _ e => e) .unit (fun _ _ _ _ => .unit) v f e
noncomputable def sliceO (v : AVal) (f : Pos → Nat → Nat → Out) (e : Out) : Out := @AVal.rec (fun _ => (Pos → Nat → Nat → Out) → Out → Out) (fun _ => PUnit) (fun _ _ e => e) (fun _ _ _ e => e) (fun _ _ e => e) (fun _ e => e) (fun _ _ _ e => e) (fun _ e => e) (fun b o l _ f _ => f b o l) (fun b o l _ f _ => f b o l) (fun _ e => e) (fun _ _ e => e) (fun _ _ _ _ e => e) (fun _ e => e) (fun _ e => e) (fun _ _ _ e => e) (fun _ _ _ e => e) .unit (fun _ _ _ _ => .unit) v f e
noncomputable def liveO (v : AVal) (k : AVal → Out) (e : Out) : Out := @AVal.rec (fun _ => (AVal → Out) → Out → Out) (fun _ => PUnit) (fun b k _ => k (.bool b)) (fun q n k _ => k (.int q n)) (fun s k _ => k (.str s)) (fun _ e => e) (fun b o k _ => k (.ptr b o)) (fun k _ => k .nsl) (fun b o l c k _ => k (.sl b o l c)) (fun b o l e k _ => k (.slu b o l e)) (fun k _ => k .nmap) (fun b k _ => k (.map b)) (fun _ _ _ _ e => e) (fun _ e => e) (fun _ e => e) (fun x _ k _ => k (.agg x)) (fun x _ k _ => k (.tup x)) .unit (fun _ _ _ _ => .unit) v k e
noncomputable def kindEq (a b : IntKind) : Bool := @IntKind.rec (fun _ => IntKind → Bool) (@IntKind.rec (fun _ => Bool) true false false false false false false false) (@IntKind.rec (fun _ => Bool) false true false false false false false false) (@IntKind.rec (fun _ => Bool) false false true false false false false false) (@IntKind.rec (fun _ => Bool) false false false true false false false false) (@IntKind.rec (fun _ => Bool) false false false false true false false false) (@IntKind.rec (fun _ => Bool) false false false false false true false false) (@IntKind.rec (fun _ => Bool) false false false false false false true false) (@IntKind.rec (fun _ => Bool) false false false false false false false true) a b
theorem kindEq_eq (a b : IntKind) : kindEq a b = keq a b := by cases a <;> cases b <;> rfl
noncomputable def bindO (o : Option AVal) (f : AVal → Out) : Out := @Option.rec AVal (fun _ => (AVal → Out) → Out) (fun _ => none) (fun v f => f v) o f
noncomputable def bindB (o : Option Blk) (f : Blk → Out) : Out := @Option.rec Blk (fun _ => (Blk → Out) → Out) (fun _ => none) (fun v f => f v) o f
noncomputable def bindT (o : Option (Tm × S)) (f : Tm → S → Out) : Out := @Option.rec (Tm × S) (fun _ => (Tm → S → Out) → Out) (fun _ => none) (fun x => @Prod.rec Tm S (fun _ => (Tm → S → Out) → Out) (fun T σ f => f T σ) x) o f
noncomputable def ifO (b : Bool) (t e : Out) : Out := @Bool.rec (fun _ => Out → Out → Out) (fun _ e => e) (fun t _ => t) b t e
theorem bindO_eq (o : Option AVal) (f : AVal → Out) : bindO o f = andThen o f := by cases o <;> rfl
theorem bindB_eq (o : Option Blk) (f : Blk → Out) : bindB o f = andThen o f := by cases o <;> rfl
theorem bindT_eq (o : Option (Tm × S)) (f : Tm → S → Out) : bindT o f = andThen o fun x => f x.1 x.2 := by cases o <;> rfl
/-! Operands and destinations. -/
noncomputable def tmpG (g : Tm → N1) (h : N1 → Option AVal) (T : Tm) : AVal := @Option.rec AVal (fun _ => AVal) .undef (fun v => v) (h (g T))
noncomputable def valG (v : AVal) (_ : Tm) : AVal := v
noncomputable def compOpd {R : Type} (x : Opd) (ret : (Tm → AVal) → R) : R := match x with
  | .tmp p => match p with | ⟨i, j⟩ => N1.sel_a i fun g => N1.sel_b j fun h => ret (tmpG g h)
  | .val v => ret (valG v)
theorem compOpd_eq {R : Type} (x : Opd) (ret : (Tm → AVal) → R) : compOpd x ret = ret (fun T => x.ev T) := by
  cases x with
  | val v => rfl
  | tmp p => obtain ⟨i, j⟩ := p; simp only [compOpd, N1.sel_a_eq, N1.sel_b_eq]; rfl
noncomputable def setG2 (sa : N1 → Tm → (Tm → Out) → Out) (T : Tm) (k : Tm → Out) (x : N1) : Out := sa x T k
noncomputable def setG (g : Tm → N1) (sb : Option AVal → N1 → (N1 → Out) → Out) (sa : N1 → Tm → (Tm → Out) → Out) (v : AVal) (T : Tm) (k : Tm → Out) : Out := sb (some v) (g T) (setG2 sa T k)
noncomputable def noG (_ : AVal) (T : Tm) (k : Tm → Out) : Out := k T
noncomputable def compDst {R : Type} (d : Option Slot) (ret : (AVal → Tm → (Tm → Out) → Out) → R) : R := match d with
  | none => ret noG
  | some p => match p with | ⟨i, j⟩ => N1.sel_a i fun g => N1.sel_sb j fun sb => N1.sel_sa i fun sa => ret (setG g sb sa)
theorem compDst_eq {R : Type} (d : Option Slot) (ret : (AVal → Tm → (Tm → Out) → Out) → R) : compDst d ret = ret (fun v T k => T.putK d v k) := by
  cases d with
  | none => rfl
  | some p => obtain ⟨i, j⟩ := p; simp only [compDst, N1.sel_a_eq, N1.sel_sb_eq, N1.sel_sa_eq]; rfl
/-- An operation, and what comes behind it. -/
noncomputable def Sp (o : POp) (k : K1) : K1 := fun call base T σ => andThen (evalOp call o T σ) fun x => k call base x.1 x.2
noncomputable def cGen (o : POp) (k : K1) (call : Caller) (base : Pos) (T : Tm) (σ : S) : Out := bindT (evalOp call o T σ) (k call base)
theorem cGen_eq (o : POp) (k : K1) : cGen o k = Sp o k := by
  funext call base T σ
  simp only [cGen, Sp, bindT_eq]
noncomputable def goK (k : K1) (call : Caller) (base : Pos) (σ : S) (T : Tm) : Out := k call base T σ
noncomputable def putG (d : AVal → Tm → (Tm → Out) → Out) (k : K1) (call : Caller) (base : Pos) (T : Tm) (σ : S) (v : AVal) : Out := d v T (goK k call base σ)
noncomputable def cMov (x : Tm → AVal) (d : AVal → Tm → (Tm → Out) → Out) (k : K1) (call : Caller) (base : Pos) (T : Tm) (σ : S) : Out := headO (x T) (putG d k call base T σ)
noncomputable def binO2 (h : IntKind → Int → Int → Option AVal) (p : AVal → Out) (e : Out) (q : IntKind) (a : Int) (r : IntKind) (b : Int) : Out := ifO (kindEq q r) (bindO (h q a b) p) e
noncomputable def binO1 (h : IntKind → Int → Int → Option AVal) (p : AVal → Out) (e : Out) (y : AVal) (q : IntKind) (a : Int) : Out := intO y (binO2 h p e q a) e
noncomputable def cBin (h : IntKind → Int → Int → Option AVal) (g : K1) (x y : Tm → AVal) (d : AVal → Tm → (Tm → Out) → Out) (k : K1) (call : Caller) (base : Pos) (T : Tm) (σ : S) : Out :=
  intO (x T) (binO1 h (putG d k call base T σ) (g call base T σ) (y T)) (g call base T σ)
noncomputable def loadO2 (o : Nat) (p : AVal → Out) (blk : Blk) : Out := bindO (nthV o blk.cells) p
noncomputable def loadO1 (σ : S) (p : AVal → Out) (b : Pos) (o : Nat) : Out := bindB (getH b σ.heap) (loadO2 o p)
noncomputable def cLoad1 (x : Tm → AVal) (d : AVal → Tm → (Tm → Out) → Out) (k : K1) (call : Caller) (base : Pos) (T : Tm) (σ : S) : Out := ptrO (x T) (loadO1 σ (putG d k call base T σ)) none
noncomputable def fieldO (off : Nat) (p : AVal → Out) (b : Pos) (o : Nat) : Out := forceNat (Nat.add o off) fun o => p (.ptr b o)
noncomputable def cFieldAddr (off : Nat) (x : Tm → AVal) (d : AVal → Tm → (Tm → Out) → Out) (k : K1) (call : Caller) (base : Pos) (T : Tm) (σ : S) : Out := ptrO (x T) (fieldO off (putG d k call base T σ)) none
noncomputable def lenO1 (p : AVal → Out) (l : Nat) : Out := p (.int .i64 (.ofNat l))
noncomputable def cLenSl (x : Tm → AVal) (d : AVal → Tm → (Tm → Out) → Out) (k : K1) (call : Caller) (base : Pos) (T : Tm) (σ : S) : Out := lenO (x T) (lenO1 (putG d k call base T σ)) none
noncomputable def cNilck (x : Tm → AVal) (d : AVal → Tm → (Tm → Out) → Out) (k : K1) (call : Caller) (base : Pos) (T : Tm) (σ : S) : Out := liveO (x T) (putG d k call base T σ) none
noncomputable def ixO (esz : Nat) (p : AVal → Out) (i : AVal) (b : Pos) (o l : Nat) : Out := bindO (andThen (ixOf i l) fun j => outPtr b (o + j * esz)) p
noncomputable def cIxSl (esz : Nat) (x i : Tm → AVal) (d : AVal → Tm → (Tm → Out) → Out) (k : K1) (call : Caller) (base : Pos) (T : Tm) (σ : S) : Out := sliceO (x T) (ixO esz (putG d k call base T σ) (i T)) none
theorem putG_eq {d : Option Slot} {k : K1} {call : Caller} {base : Pos} {T : Tm} {σ : S} (v : AVal) : putG (fun v T k => T.putK d v k) k call base T σ v = k call base (T.put d v) σ := by
  simp only [putG, goK, Tm.putK_eq]
theorem Sp_q {q : QOp} {d : Option Slot} {k : K1} {call : Caller} {base : Pos} {T : Tm} {σ : S} : Sp ⟨d, none, .q q⟩ k call base T σ = andThen (evalQ q T σ) fun v => k call base (T.put d v) σ := by
  simp only [Sp, evalOp, wanted_none, opK, opQ, Tm.putK_eq]
  cases evalQ q T σ <;> rfl
section
variable {d : Option Slot} {k : K1}
theorem cMov_eq (x : Opd) : cMov (fun T => x.ev T) (fun v T k => T.putK d v k) k = Sp ⟨d, none, .q (.mov x)⟩ k := by
  funext call base T σ
  rw [Sp_q]
  simp only [cMov, headO_eq, putG_eq, evalQ, qMov, headK_eq, andThen_some]
theorem cBin_eq (op : BinOp) (tk : TK) (x y : Opd) (hop : isSh op = false) : cBin (intOp op) (cGen ⟨d, none, .q (.bin op tk x y)⟩ k) (fun T => x.ev T) (fun T => y.ev T) (fun v T k => T.putK d v k) k = Sp ⟨d, none, .q (.bin op tk x y)⟩ k := by
  funext call base T σ
  rw [cGen_eq]
  show intO (x.ev T) _ _ = _
  cases hx : x.ev T with
  | int q a =>
    show binO1 _ _ _ _ q a = _
    unfold binO1
    show intO (y.ev T) _ _ = _
    cases hy : y.ev T with
    | int r b =>
      show binO2 _ _ _ q a r b = _
      unfold binO2
      cases hk : kindEq q r with
      | false => rfl
      | true =>
        show bindO _ _ = _
        rw [bindO_eq, Sp_q]
        have : evalQ (.bin op tk x y) T σ = intOp op q a b := by
          show binA op tk (x.ev T) (y.ev T) = _
          rw [hx, hy]
          show binII op q a r b = _
          unfold binII
          rw [hop, ← kindEq_eq, hk]
        rw [this]
        congr 1
        funext v
        exact putG_eq v
    | _ => rfl
  | _ => rfl
theorem cLoad1_eq (x : Opd) : cLoad1 (fun T => x.ev T) (fun v T k => T.putK d v k) k = Sp ⟨d, none, .q (.load1 x)⟩ k := by
  funext call base T σ
  rw [Sp_q]
  show ptrO (x.ev T) _ _ = andThen (vLoad1 (x.ev T) σ) _
  cases x.ev T with
  | ptr b o =>
    show loadO1 σ _ b o = andThen (andThen (Tr.get b σ.heap) fun blk => nthV o blk.cells) _
    unfold loadO1
    rw [bindB_eq, getH_eq]
    cases Tr.get b σ.heap with
    | none => rfl
    | some blk =>
      show loadO2 o _ blk = andThen (nthV o blk.cells) _
      unfold loadO2
      rw [bindO_eq]
      congr 1
      funext v
      exact putG_eq v
  | _ => rfl
theorem cFieldAddr_eq (off : Nat) (x : Opd) : cFieldAddr off (fun T => x.ev T) (fun v T k => T.putK d v k) k = Sp ⟨d, none, .q (.fieldAddr off x)⟩ k := by
  funext call base T σ
  rw [Sp_q]
  show ptrO (x.ev T) _ _ = andThen (vFieldAddr off (x.ev T)) _
  cases x.ev T with
  | ptr b o =>
    show fieldO off _ b o = andThen (outPtr b (o + off)) _
    unfold fieldO outPtr
    rw [forceNat_eq, forceNat_eq, putG_eq]
    rfl
  | _ => rfl
theorem cLenSl_eq (x : Opd) : cLenSl (fun T => x.ev T) (fun v T k => T.putK d v k) k = Sp ⟨d, none, .q (.lenSl x)⟩ k := by
  funext call base T σ
  rw [Sp_q]
  show lenO (x.ev T) _ _ = andThen (vLenSl (x.ev T)) _
  cases x.ev T <;> first | rfl | exact putG_eq _
theorem cNilck_eq (x : Opd) : cNilck (fun T => x.ev T) (fun v T k => T.putK d v k) k = Sp ⟨d, none, .q (.nilck x)⟩ k := by
  funext call base T σ
  rw [Sp_q]
  show liveO (x.ev T) _ _ = andThen (vNilck (x.ev T)) _
  cases x.ev T <;> first | rfl | exact putG_eq _
theorem cIxSl_eq (esz : Nat) (x i : Opd) : cIxSl esz (fun T => x.ev T) (fun T => i.ev T) (fun v T k => T.putK d v k) k = Sp ⟨d, none, .q (.ixSl esz x i)⟩ k := by
  funext call base T σ
  rw [Sp_q]
  show sliceO (x.ev T) _ _ = andThen (vIxSl esz (x.ev T) (i.ev T)) _
  cases x.ev T <;> first | rfl | (show ixO esz _ _ _ _ _ = _; unfold ixO; rw [bindO_eq]; congr 1; funext v; exact putG_eq v)
end
noncomputable def compQ {R : Type} (q : QOp) (d : Option Slot) (k : K1) (ret : K1 → R) : R := match q with
  | .mov x => compOpd x fun x => compDst d fun d => ret (cMov x d k)
  | .bin op tk x y => match isSh op with
    | true => ret (cGen ⟨d, none, .q (.bin op tk x y)⟩ k)
    | false => compOpd x fun gx => compOpd y fun gy => compDst d fun gd => ret (cBin (intOp op) (cGen ⟨d, none, .q (.bin op tk x y)⟩ k) gx gy gd k)
  | .load1 x => compOpd x fun x => compDst d fun d => ret (cLoad1 x d k)
  | .fieldAddr off x => compOpd x fun x => compDst d fun d => ret (cFieldAddr off x d k)
  | .lenSl x => compOpd x fun x => compDst d fun d => ret (cLenSl x d k)
  | .nilck x => compOpd x fun x => compDst d fun d => ret (cNilck x d k)
  | .ixSl e x i => compOpd x fun x => compOpd i fun i => compDst d fun d => ret (cIxSl e x i d k)
  | q => ret (cGen ⟨d, none, .q q⟩ k)
theorem compQ_eq {R : Type} (q : QOp) (d : Option Slot) (k : K1) (ret : K1 → R) : compQ q d k ret = ret (Sp ⟨d, none, .q q⟩ k) := by
  cases q <;> simp only [compQ, compOpd_eq, compDst_eq, cMov_eq, cLoad1_eq, cFieldAddr_eq, cLenSl_eq, cNilck_eq, cIxSl_eq, cGen_eq]
  rename_i op tk x y
  cases hop : isSh op with
  | true => rfl
  | false => simp only; rw [← cGen_eq, cBin_eq op tk x y hop, cGen_eq]
noncomputable def compOp {R : Type} (o : POp) (k : K1) (ret : K1 → R) : R := match o with
  | ⟨d, g, x⟩ => match g with
    | some g => ret (cGen ⟨d, some g, x⟩ k)
    | none => match x with
      | .q q => compQ q d k ret
      | x => ret (cGen ⟨d, none, x⟩ k)
theorem compOp_eq {R : Type} (o : POp) (k : K1) (ret : K1 → R) : compOp o k ret = ret (Sp o k) := by
  obtain ⟨d, g, x⟩ := o
  cases g with
  | some g => simp only [compOp, cGen_eq]
  | none => cases x <;> simp only [compOp, compQ_eq, cGen_eq]
noncomputable def endK (_ : Caller) (_ : Pos) (T : Tm) (σ : S) : Out := some (.normal, T, σ)
noncomputable def compOps {R : Type} (l : List POp) (ret : K1 → R) : R := match l with
  | [] => ret endK
  | o :: l => compOps l fun k => compOp o k ret
noncomputable def SpL (l : List POp) : K1 := fun call _ T σ => cOps call l T σ
theorem compOps_eq {R : Type} (l : List POp) (ret : K1 → R) : compOps l ret = ret (SpL l) := by
  induction l generalizing ret with
  | nil => rfl
  | cons o l ih =>
    show compOps l _ = _
    rw [ih, compOp_eq]
    congr 1
    funext call base T σ
    simp only [Sp, SpL, cOps, evalOps_cons]
    cases evalOp call o T σ <;> rfl
noncomputable def SpD (d : DOp) (k : K1) : K1 := fun call base T σ => andThen (evalD call base d T σ) fun x => k call base x.1 x.2
noncomputable def dGen (d : DOp) (k : K1) (call : Caller) (base : Pos) (T : Tm) (σ : S) : Out := bindT (evalD call base d T σ) (k call base)
theorem dGen_eq (d : DOp) (k : K1) : dGen d k = SpD d k := by
  funext call base T σ
  simp only [dGen, SpD, bindT_eq]
noncomputable def compD {R : Type} (x : DOp) (k : K1) (ret : K1 → R) : R := match x with
  | ⟨ix, o, checks⟩ => match o with
    | ⟨d, g, x⟩ => match g with
      | some g => ret (dGen ⟨ix, ⟨d, some g, x⟩, checks⟩ k)
      | none => match x with
        | .q q => compQ q d k ret
        | x => ret (dGen ⟨ix, ⟨d, none, x⟩, checks⟩ k)
theorem compD_eq {R : Type} (x : DOp) (k : K1) (ret : K1 → R) : compD x k ret = ret (SpD x k) := by
  obtain ⟨ix, ⟨d, g, x⟩, checks⟩ := x
  cases g with
  | some g => simp only [compD, dGen_eq]
  | none =>
    cases x with
    | q q =>
      simp only [compD, compQ_eq]
      congr 1
    | a q => simp only [compD, dGen_eq]
    | e q => simp only [compD, dGen_eq]
noncomputable def compDs {R : Type} (l : List DOp) (ret : K1 → R) : R := match l with
  | [] => ret endK
  | o :: l => compDs l fun k => compD o k ret
noncomputable def SpDs (l : List DOp) : K1 := fun call base T σ => andThen (evalDs call base l T σ) fun x => some (.normal, x.1, x.2)
theorem compDs_eq {R : Type} (l : List DOp) (ret : K1 → R) : compDs l ret = ret (SpDs l) := by
  induction l generalizing ret with
  | nil => rfl
  | cons o l ih =>
    show compDs l _ = _
    rw [ih, compD_eq]
    congr 1
    funext call base T σ
    simp only [SpD, SpDs, evalDs]
    cases evalD call base o T σ <;> rfl
noncomputable def bOps (k : K1) (call : Caller) (_ : Nat) (T : Tm) (σ : S) : Out := k call Pos.first T σ
noncomputable def bDraw (n : Nat) (k : K1) (call : Caller) (_ : Nat) (T : Tm) (σ : S) : Out := andThen (σ.bumpN n) fun σ' => k call σ.next T σ'
noncomputable def bSkip (_ : Caller) (_ : Nat) (T : Tm) (σ : S) : Out := some (.normal, T, σ)
noncomputable def contE (next : K2) (call : Caller) (fuel : Nat) (e : Ex) (T : Tm) (σ : S) : Out := @Ex.rec (fun _ => K2 → Caller → Nat → Tm → S → Out) (fun next call fuel T σ => next call fuel T σ) (fun i _ _ _ T σ => some (.exit i, T, σ)) (fun _ _ _ T σ => some (.ret, T, σ)) e next call fuel T σ
noncomputable def contO (next : K2) (call : Caller) (fuel : Nat) (o : Out) : Out := @Option.rec (Ex × Tm × S) (fun _ => K2 → Caller → Nat → Out) (fun _ _ _ => none)
  (fun x => @Prod.rec Ex (Tm × S) (fun _ => K2 → Caller → Nat → Out) (fun e y => @Prod.rec Tm S (fun _ => K2 → Caller → Nat → Out) (fun T σ next call fuel => contE next call fuel e T σ) y) x) o next call fuel
theorem contO_eq (next : K2) (call : Caller) (fuel : Nat) (o : Out) : contO next call fuel o = thenC (next call fuel) o := by
  cases o with
  | none => rfl
  | some x => obtain ⟨e, T, σ⟩ := x; cases e <;> rfl
noncomputable def bSeq (a b : K2) (call : Caller) (fuel : Nat) (T : Tm) (σ : S) : Out := contO b call fuel (a call fuel T σ)
noncomputable def condO (a b : K2) (call : Caller) (fuel : Nat) (T : Tm) (σ : S) (t : Bool) : Out := @Bool.rec (fun _ => K2 → K2 → Caller → Nat → Tm → S → Out) (fun _ b => b) (fun a _ => a) t a b call fuel T σ
noncomputable def bCond (c : Tm → AVal) (a b : K2) (call : Caller) (fuel : Nat) (T : Tm) (σ : S) : Out := boolO (c T) (condO a b call fuel T σ) none
noncomputable def bBlock (id : Nat) (c : K2) (call : Caller) (fuel : Nat) (T : Tm) (σ : S) : Out := cBlock id (c call fuel) T σ
noncomputable def bLoop (c : K2) (call : Caller) (fuel : Nat) (T : Tm) (σ : S) : Out := iter (c call fuel) fuel T σ
noncomputable def bExit (id : Nat) (_ : Caller) (_ : Nat) (T : Tm) (σ : S) : Out := some (.exit id, T, σ)
noncomputable def bRet (_ : Caller) (_ : Nat) (T : Tm) (σ : S) : Out := some (.ret, T, σ)
noncomputable def compC {R : Type} (c : PC) (ret : K2 → R) : R := match c with
  | .skip => ret bSkip
  | .ops l => compOps l fun k => ret (bOps k)
  | .draw n l => compDs l fun k => ret (bDraw n k)
  | .seq a b => compC a fun a => compC b fun b => ret (bSeq a b)
  | .cond c a b => compOpd c fun c => compC a fun a => compC b fun b => ret (bCond c a b)
  | .block id c => compC c fun c => ret (bBlock id c)
  | .loop c => compC c fun c => ret (bLoop c)
  | .exit id => ret (bExit id)
  | .ret => ret bRet
theorem compC_eq {R : Type} (c : PC) (ret : K2 → R) : compC c ret = ret (fun call fuel T σ => evalC call fuel c T σ) := by
  induction c generalizing ret with
  | skip => rfl
  | exit id => rfl
  | ret => rfl
  | ops l =>
    show compOps l _ = _
    rw [compOps_eq]; rfl
  | draw n l =>
    show compDs l _ = _
    rw [compDs_eq]; rfl
  | seq a b iha ihb =>
    show compC a _ = _
    rw [iha, ihb]
    congr 1
    funext call fuel T σ
    exact contO_eq _ _ _ _
  | cond c a b iha ihb =>
    show compOpd c _ = _
    rw [compOpd_eq, iha, ihb]
    congr 1
    funext call fuel T σ
    show boolO (c.ev T) _ _ = cCond c _ _ T σ
    unfold cCond
    cases c.ev T with
    | bool t => cases t <;> rfl
    | _ => rfl
  | block id c ih =>
    show compC c _ = _
    rw [ih]; rfl
  | loop c ih =>
    show compC c _ = _
    rw [ih]; rfl
/-- A function laid out so. -/
inductive CFn where
  | code (slots : List Slot) (body : K2) (results : List PRes)
  | raw (p : PFn)
noncomputable def runG (call : Caller) (fuel : Nat) (fn : CFn) (args : List AVal) (σ : S) : Option (AVal × S) := match fn with
  | .code slots body res => enterK args slots Ts.empty fun T => andThen (body call fuel T σ) fun x => match x with
    | (e, T, σ) => match e with
      | .normal => leave res T σ
      | .ret => leave res T σ
      | .exit _ => none
  | .raw p => runF call fuel p args σ
noncomputable def evalG (tab : Nat → Option CFn) (n : Nat) : Caller :=
  Nat.rec (fun _ _ _ => none) (fun n ih f args σ => andThen (tab f) fun fn => runG ih n fn args σ) n
noncomputable def compFn {R : Type} (p : PFn) (ret : CFn → R) : R := match p with
  | .code slots body res => compC body fun body => ret (.code slots body res)
  | p => ret (.raw p)
def CFnOk (c : CFn) (p : PFn) : Prop := ∀ call fuel args σ, runG call fuel c args σ = runF call fuel p args σ
theorem compFn_ok (p : PFn) : ∃ c, CFnOk c p ∧ ∀ {R : Type} (ret : CFn → R), compFn p ret = ret c := by
  cases p with
  | code slots body res => exact ⟨.code slots (fun call fuel T σ => evalC call fuel body T σ) res, fun _ _ _ _ => rfl, fun ret => compC_eq _ _⟩
  | keys off => exact ⟨.raw (.keys off), fun _ _ _ _ => rfl, fun ret => rfl⟩
noncomputable def tabG (t : Tr CFn) (f : Nat) : Option CFn := andThen (Pos.ofNat f) fun p => Tr.get p t
noncomputable def layOneG (f : Nat) (fn : Option PFn) (t : Tr CFn) (k : Tr CFn → Bool) : Bool := match fn with
  | some fn => match Pos.ofNat f with
    | some p => forcePos p fun p => forceFn fn fun fn => compFn fn fun c => Tr.setK p (some c) t k
    | none => false
  | none => k t
noncomputable def layFnsG (P : Program) (I : TypeId → Option TypeInfo) (hk : List (Nat × PFn)) (need : Nat) (l : List Func) (f : Nat) (t : Tr CFn) (k : Tr CFn → Bool) : Bool := match l with
  | [] => k t
  | fn :: l => match hasBit need f with
    | false => forceNat (Nat.succ f) fun f => layFnsG P I hk need l f t k
    | true => match hookOf hk f with
      | some p => layOneG f (some p) t fun t => forceNat (Nat.succ f) fun f => layFnsG P I hk need l f t k
      | none => layOneG f (cfnF P (und I) I fn) t fun t => forceNat (Nat.succ f) fun f => layFnsG P I hk need l f t k
noncomputable def layTabG (P : Program) (hk : List (Nat × PFn)) (need : Nat) (k : Tr CFn → Bool) : Bool :=
  layTypes P.types.toList 0 Tr.empty fun types => layFnsG P (infoT P types) hk need P.funcs.toList 0 Tr.empty k
section
variable {P : Program}
def TabGOk (P : Program) (t : Tr CFn) : Prop := ∀ f c, tabG t f = some c → ∃ p, CFnOk c p ∧ (tabOf P f = some p ∨ HookOk P f p)
theorem tabGOk_empty : TabGOk P Tr.empty := fun f p h => by
  unfold tabG at h
  obtain ⟨q, _, h2⟩ := andThen_eq.1 h
  rw [Tr.get_empty] at h2; cases h2
theorem tabGOk_set {t : Tr CFn} {f : Nat} {q : Pos} {c : CFn} (h : TabGOk P t) (hf : ∃ p, CFnOk c p ∧ (tabOf P f = some p ∨ HookOk P f p)) (hq : Pos.ofNat f = some q) : TabGOk P (Tr.set q (some c) t) := fun f' p' h' => by
  unfold tabG at h'
  obtain ⟨q', h1, h2⟩ := andThen_eq.1 h'
  rw [Tr.get_set] at h2
  by_cases e : q' = q
  · rw [if_pos e] at h2; cases h2
    have h3 := Pos.ofNat_nat h1
    have h4 := Pos.ofNat_nat hq
    rw [e, h4] at h3; subst h3; exact hf
  · rw [if_neg e] at h2
    exact h f' p' (by unfold tabG; rw [h1]; exact h2)
theorem layOneG_ok {k : Tr CFn → Bool} {f : Nat} {fn : Option PFn} {t : Tr CFn} (ht : TabGOk P t) (hf : ∀ p, fn = some p → tabOf P f = some p ∨ HookOk P f p) (h : layOneG f fn t k = true) : ∃ t, TabGOk P t ∧ k t = true := by
  unfold layOneG at h
  split at h
  · rename_i p
    split at h
    · rename_i q hq
      obtain ⟨c, hc, he⟩ := compFn_ok p
      rw [forcePos_eq, forceFn_eq, he, Tr.setK_eq] at h
      exact ⟨_, tabGOk_set ht ⟨p, hc, hf p rfl⟩ hq, h⟩
    · cases h
  · exact ⟨t, ht, h⟩
theorem layFnsG_ok {k : Tr CFn → Bool} {hk : List (Nat × PFn)} {need : Nat} (hh : ∀ f p, (f, p) ∈ hk → HookOk P f p) : ∀ (l : List Func) (f : Nat) (t : Tr CFn), TabGOk P t → (∀ j fn, l[j]? = some fn → P.funcs[f + j]? = some fn) →
    layFnsG P P.info? hk need l f t k = true → ∃ t, TabGOk P t ∧ k t = true
  | [], f, t, ht, _, h => ⟨t, ht, h⟩
  | fn :: l, f, t, ht, hl, h => by
    have hl' : ∀ j fn', l[j]? = some fn' → P.funcs[Nat.succ f + j]? = some fn' := fun j fn' hj => by
      have := hl (j + 1) fn' (by simpa using hj)
      rw [show f.succ + j = f + (j + 1) by omega]
      exact this
    unfold layFnsG at h
    split at h
    · rw [forceNat_eq] at h
      exact layFnsG_ok hh l _ t ht hl' h
    · split at h
      · rename_i p hp
        obtain ⟨t', h1, h2⟩ := layOneG_ok ht (fun q hq => by cases hq; exact .inr (hh f _ (hookOf_mem hp))) h
        rw [forceNat_eq] at h2
        exact layFnsG_ok hh l _ t' h1 hl' h2
      · rw [und_eq, cfnF_eq] at h
        obtain ⟨t', h1, h2⟩ := layOneG_ok ht (fun q hq => by
          left
          unfold tabOf
          have := hl 0 fn rfl
          rw [Nat.add_zero] at this
          rw [this]; exact hq) h
        rw [forceNat_eq] at h2
        exact layFnsG_ok hh l _ t' h1 hl' h2
theorem layTabG_ok {k : Tr CFn → Bool} {hk : List (Nat × PFn)} {need : Nat} (hh : ∀ f p, (f, p) ∈ hk → HookOk P f p) (h : layTabG P hk need k = true) : ∃ t, TabGOk P t ∧ k t = true := by
  unfold layTabG at h
  obtain ⟨types, h1, h2⟩ := layTypes_ok (P := P) P.types.toList 0 Tr.empty (fun q x hq => by rw [Tr.get_empty] at hq; cases hq) (fun j x hj => by
    rw [Nat.zero_add]
    have hj : P.types[j]? = some x := by rw [← Array.getElem?_toList]; exact hj
    have hlt := (Array.getElem?_eq_some_iff.1 hj).1
    show Tables.info? _ j = _
    unfold Tables.info?
    rw [if_pos hlt]; exact hj) h
  rw [infoT_eq h1] at h2
  exact layFnsG_ok hh _ 0 _ tabGOk_empty (fun j fn hj => by rw [Nat.zero_add, ← Array.getElem?_toList]; exact hj) h2
open Classical in
/-- The table that it stands for. -/
noncomputable def tabF (P : Program) (t : Tr CFn) (f : Nat) : Option PFn := match tabG t f with
  | some c => if h : ∃ p, CFnOk c p ∧ (tabOf P f = some p ∨ HookOk P f p) then some h.choose else none
  | none => none
theorem evalG_eq {t : Tr CFn} (ht : TabGOk P t) (n : Nat) : evalG (tabG t) n = evalF (tabF P t) n := by
  induction n with
  | zero => rfl
  | succ n ih =>
    funext f args σ
    rw [evalF_succ]
    show andThen (tabG t f) (fun fn => runG (evalG (tabG t) n) n fn args σ) = _
    unfold tabF
    cases hc : tabG t f with
    | none => rfl
    | some c =>
      have h := ht f c hc
      simp only [dif_pos h, andThen_some]
      rw [ih]
      exact h.choose_spec.1 _ _ _ _
theorem tabF_ok {t : Tr CFn} (f : Nat) (p : PFn) (h : tabF P t f = some p) : tabOf P f = some p ∨ HookOk P f p := by
  unfold tabF at h
  split at h
  · rename_i c hc
    split at h
    · rename_i hx
      cases h
      exact hx.choose_spec.2
    · cases h
  · cases h
/-- ONE TEST BY THE KERNEL. -/
theorem closedG {hk : List (Nat × PFn)} {need n f : Nat} (hm : P.follows .mixedOrders = true) (hh : ∀ f p, (f, p) ∈ hk → HookOk P f p) (h : layTabG P hk need (fun t => isTrue (evalG (tabG t) n f [] S.start)) = true) (w : World) :
    Calls P f #[] w fun | .returned x, w' => x = .bool true ∧ RowKit.Below w.heap.size w w' | _, _ => False := by
  obtain ⟨t, ht, h⟩ := layTabG_ok hh h
  rw [evalG_eq ht] at h
  obtain ⟨σ', h⟩ := isTrue_iff h
  exact calls_closed hm (fun f p => tabF_ok f p) h w
end
end Go.Am
