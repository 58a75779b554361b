/-
  The same evaluator with its code laid out as functions, each handing on to what comes behind it. Conditions: none.
-/
import Derived.Test.YthnjfpfcnpefaaaGreatK25
namespace Go.Am
abbrev N1 := N16 (Option AVal)
abbrev CB := Nat → List AVal → S → (AVal → S → Bool) → Bool
abbrev KT := Tm → S → Bool
abbrev K1 := CB → Pos → KT → Tm → S → Bool
abbrev K2 := CB → Nat → KT → (Nat → Tm → S → Bool) → KT → Tm → S → Bool
noncomputable def N1.a1 (t : Tm) : N1 := @N16.rec N1 (fun _ => N1) (fun c1 _ _ _ _ _ _ _ _ _ _ _ _ _ _ _ => c1) t
noncomputable def N1.a2 (t : Tm) : N1 := @N16.rec N1 (fun _ => N1) (fun _ c2 _ _ _ _ _ _ _ _ _ _ _ _ _ _ => c2) t
noncomputable def N1.a3 (t : Tm) : N1 := @N16.rec N1 (fun _ => N1) (fun _ _ c3 _ _ _ _ _ _ _ _ _ _ _ _ _ => c3) t
noncomputable def N1.a4 (t : Tm) : N1 := @N16.rec N1 (fun _ => N1) (fun _ _ _ c4 _ _ _ _ _ _ _ _ _ _ _ _ => c4) t
noncomputable def N1.a5 (t : Tm) : N1 := @N16.rec N1 (fun _ => N1) (fun _ _ _ _ c5 _ _ _ _ _ _ _ _ _ _ _ => c5) t
noncomputable def N1.a6 (t : Tm) : N1 := @N16.rec N1 (fun _ => N1) (fun _ _ _ _ _ c6 _ _ _ _ _ _ _ _ _ _ => c6) t
noncomputable def N1.a7 (t : Tm) : N1 := @N16.rec N1 (fun _ => N1) (fun _ _ _ _ _ _ c7 _ _ _ _ _ _ _ _ _ => c7) t
noncomputable def N1.a8 (t : Tm) : N1 := @N16.rec N1 (fun _ => N1) (fun _ _ _ _ _ _ _ c8 _ _ _ _ _ _ _ _ => c8) t
noncomputable def N1.a9 (t : Tm) : N1 := @N16.rec N1 (fun _ => N1) (fun _ _ _ _ _ _ _ _ c9 _ _ _ _ _ _ _ => c9) t
noncomputable def N1.a10 (t : Tm) : N1 := @N16.rec N1 (fun _ => N1) (fun _ _ _ _ _ _ _ _ _ c10 _ _ _ _ _ _ => c10) t
noncomputable def N1.a11 (t : Tm) : N1 := @N16.rec N1 (fun _ => N1) (fun _ _ _ _ _ _ _ _ _ _ c11 _ _ _ _ _ => c11) t
noncomputable def N1.a12 (t : Tm) : N1 := @N16.rec N1 (fun _ => N1) (fun _ _ _ _ _ _ _ _ _ _ _ c12 _ _ _ _ => c12) t
noncomputable def N1.a13 (t : Tm) : N1 := @N16.rec N1 (fun _ => N1) (fun _ _ _ _ _ _ _ _ _ _ _ _ c13 _ _ _ => c13) t
noncomputable def N1.a14 (t : Tm) : N1 := @N16.rec N1 (fun _ => N1) (fun _ _ _ _ _ _ _ _ _ _ _ _ _ c14 _ _ => c14) t
noncomputable def N1.a15 (t : Tm) : N1 := @N16.rec N1 (fun _ => N1) (fun _ _ _ _ _ _ _ _ _ _ _ _ _ _ c15 _ => c15) t
noncomputable def N1.a16 (t : Tm) : N1 := @N16.rec N1 (fun _ => N1) (fun _ _ _ _ _ _ _ _ _ _ _ _ _ _ _ c16 => c16) t
noncomputable def N1.b1 (t : N1) : Option AVal := @N16.rec (Option AVal) (fun _ => Option AVal) (fun c1 _ _ _ _ _ _ _ _ _ _ _ _ _ _ _ => c1) t
noncomputable def N1.b2 (t : N1) : Option AVal := @N16.rec (Option AVal) (fun _ => Option AVal) (fun _ c2 _ _ _ _ _ _ _ _ _ _ _ _ _ _ => c2) t
noncomputable def N1.b3 (t : N1) : Option AVal := @N16.rec (Option AVal) (fun _ => Option AVal) (fun _ _ c3 _ _ _ _ _ _ _ _ _ _ _ _ _ => c3) t
noncomputable def N1.b4 (t : N1) : Option AVal := @N16.rec (Option AVal) (fun _ => Option AVal) (fun _ _ _ c4 _ _ _ _ _ _ _ _ _ _ _ _ => c4) t
noncomputable def N1.b5 (t : N1) : Option AVal := @N16.rec (Option AVal) (fun _ => Option AVal) (fun _ _ _ _ c5 _ _ _ _ _ _ _ _ _ _ _ => c5) t
noncomputable def N1.b6 (t : N1) : Option AVal := @N16.rec (Option AVal) (fun _ => Option AVal) (fun _ _ _ _ _ c6 _ _ _ _ _ _ _ _ _ _ => c6) t
noncomputable def N1.b7 (t : N1) : Option AVal := @N16.rec (Option AVal) (fun _ => Option AVal) (fun _ _ _ _ _ _ c7 _ _ _ _ _ _ _ _ _ => c7) t
noncomputable def N1.b8 (t : N1) : Option AVal := @N16.rec (Option AVal) (fun _ => Option AVal) (fun _ _ _ _ _ _ _ c8 _ _ _ _ _ _ _ _ => c8) t
noncomputable def N1.b9 (t : N1) : Option AVal := @N16.rec (Option AVal) (fun _ => Option AVal) (fun _ _ _ _ _ _ _ _ c9 _ _ _ _ _ _ _ => c9) t
noncomputable def N1.b10 (t : N1) : Option AVal := @N16.rec (Option AVal) (fun _ => Option AVal) (fun _ _ _ _ _ _ _ _ _ c10 _ _ _ _ _ _ => c10) t
noncomputable def N1.b11 (t : N1) : Option AVal := @N16.rec (Option AVal) (fun _ => Option AVal) (fun _ _ _ _ _ _ _ _ _ _ c11 _ _ _ _ _ => c11) t
noncomputable def N1.b12 (t : N1) : Option AVal := @N16.rec (Option AVal) (fun _ => Option AVal) (fun _ _ _ _ _ _ _ _ _ _ _ c12 _ _ _ _ => c12) t
noncomputable def N1.b13 (t : N1) : Option AVal := @N16.rec (Option AVal) (fun _ => Option AVal) (fun _ _ _ _ _ _ _ _ _ _ _ _ c13 _ _ _ => c13) t
noncomputable def N1.b14 (t : N1) : Option AVal := @N16.rec (Option AVal) (fun _ => Option AVal) (fun _ _ _ _ _ _ _ _ _ _ _ _ _ c14 _ _ => c14) t
noncomputable def N1.b15 (t : N1) : Option AVal := @N16.rec (Option AVal) (fun _ => Option AVal) (fun _ _ _ _ _ _ _ _ _ _ _ _ _ _ c15 _ => c15) t
noncomputable def N1.b16 (t : N1) : Option AVal := @N16.rec (Option AVal) (fun _ => Option AVal) (fun _ _ _ _ _ _ _ _ _ _ _ _ _ _ _ c16 => c16) t
noncomputable def N1.sa1 (x : N1) (t : Tm) (k : Tm → Bool) : Bool := @N16.rec N1 (fun _ => N1 → (Tm → Bool) → Bool) (fun _ c2 c3 c4 c5 c6 c7 c8 c9 c10 c11 c12 c13 c14 c15 c16 x k => k (.mk x c2 c3 c4 c5 c6 c7 c8 c9 c10 c11 c12 c13 c14 c15 c16)) t x k
noncomputable def N1.sa2 (x : N1) (t : Tm) (k : Tm → Bool) : Bool := @N16.rec N1 (fun _ => N1 → (Tm → Bool) → Bool) (fun c1 _ c3 c4 c5 c6 c7 c8 c9 c10 c11 c12 c13 c14 c15 c16 x k => k (.mk c1 x c3 c4 c5 c6 c7 c8 c9 c10 c11 c12 c13 c14 c15 c16)) t x k
noncomputable def N1.sa3 (x : N1) (t : Tm) (k : Tm → Bool) : Bool := @N16.rec N1 (fun _ => N1 → (Tm → Bool) → Bool) (fun c1 c2 _ c4 c5 c6 c7 c8 c9 c10 c11 c12 c13 c14 c15 c16 x k => k (.mk c1 c2 x c4 c5 c6 c7 c8 c9 c10 c11 c12 c13 c14 c15 c16)) t x k
noncomputable def N1.sa4 (x : N1) (t : Tm) (k : Tm → Bool) : Bool := @N16.rec N1 (fun _ => N1 → (Tm → Bool) → Bool) (fun c1 c2 c3 _ c5 c6 c7 c8 c9 c10 c11 c12 c13 c14 c15 c16 x k => k (.mk c1 c2 c3 x c5 c6 c7 c8 c9 c10 c11 c12 c13 c14 c15 c16)) t x k
noncomputable def N1.sa5 (x : N1) (t : Tm) (k : Tm → Bool) : Bool := @N16.rec N1 (fun _ => N1 → (Tm → Bool) → Bool) (fun c1 c2 c3 c4 _ c6 c7 c8 c9 c10 c11 c12 c13 c14 c15 c16 x k => k (.mk c1 c2 c3 c4 x c6 c7 c8 c9 c10 c11 c12 c13 c14 c15 c16)) t x k
noncomputable def N1.sa6 (x : N1) (t : Tm) (k : Tm → Bool) : Bool := @N16.rec N1 (fun _ => N1 → (Tm → Bool) → Bool) (fun c1 c2 c3 c4 c5 _ c7 c8 c9 c10 c11 c12 c13 c14 c15 c16 x k => k (.mk c1 c2 c3 c4 c5 x c7 c8 c9 c10 c11 c12 c13 c14 c15 c16)) t x k
noncomputable def N1.sa7 (x : N1) (t : Tm) (k : Tm → Bool) : Bool := @N16.rec N1 (fun _ => N1 → (Tm → Bool) → Bool) (fun c1 c2 c3 c4 c5 c6 _ c8 c9 c10 c11 c12 c13 c14 c15 c16 x k => k (.mk c1 c2 c3 c4 c5 c6 x c8 c9 c10 c11 c12 c13 c14 c15 c16)) t x k
noncomputable def N1.sa8 (x : N1) (t : Tm) (k : Tm → Bool) : Bool := @N16.rec N1 (fun _ => N1 → (Tm → Bool) → Bool) (fun c1 c2 c3 c4 c5 c6 c7 _ c9 c10 c11 c12 c13 c14 c15 c16 x k => k (.mk c1 c2 c3 c4 c5 c6 c7 x c9 c10 c11 c12 c13 c14 c15 c16)) t x k
noncomputable def N1.sa9 (x : N1) (t : Tm) (k : Tm → Bool) : Bool := @N16.rec N1 (fun _ => N1 → (Tm → Bool) → Bool) (fun c1 c2 c3 c4 c5 c6 c7 c8 _ c10 c11 c12 c13 c14 c15 c16 x k => k (.mk c1 c2 c3 c4 c5 c6 c7 c8 x c10 c11 c12 c13 c14 c15 c16)) t x k
noncomputable def N1.sa10 (x : N1) (t : Tm) (k : Tm → Bool) : Bool := @N16.rec N1 (fun _ => N1 → (Tm → Bool) → Bool) (fun c1 c2 c3 c4 c5 c6 c7 c8 c9 _ c11 c12 c13 c14 c15 c16 x k => k (.mk c1 c2 c3 c4 c5 c6 c7 c8 c9 x c11 c12 c13 c14 c15 c16)) t x k
noncomputable def N1.sa11 (x : N1) (t : Tm) (k : Tm → Bool) : Bool := @N16.rec N1 (fun _ => N1 → (Tm → Bool) → Bool) (fun c1 c2 c3 c4 c5 c6 c7 c8 c9 c10 _ c12 c13 c14 c15 c16 x k => k (.mk c1 c2 c3 c4 c5 c6 c7 c8 c9 c10 x c12 c13 c14 c15 c16)) t x k
noncomputable def N1.sa12 (x : N1) (t : Tm) (k : Tm → Bool) : Bool := @N16.rec N1 (fun _ => N1 → (Tm → Bool) → Bool) (fun c1 c2 c3 c4 c5 c6 c7 c8 c9 c10 c11 _ c13 c14 c15 c16 x k => k (.mk c1 c2 c3 c4 c5 c6 c7 c8 c9 c10 c11 x c13 c14 c15 c16)) t x k
noncomputable def N1.sa13 (x : N1) (t : Tm) (k : Tm → Bool) : Bool := @N16.rec N1 (fun _ => N1 → (Tm → Bool) → Bool) (fun c1 c2 c3 c4 c5 c6 c7 c8 c9 c10 c11 c12 _ c14 c15 c16 x k => k (.mk c1 c2 c3 c4 c5 c6 c7 c8 c9 c10 c11 c12 x c14 c15 c16)) t x k
noncomputable def N1.sa14 (x : N1) (t : Tm) (k : Tm → Bool) : Bool := @N16.rec N1 (fun _ => N1 → (Tm → Bool) → Bool) (fun c1 c2 c3 c4 c5 c6 c7 c8 c9 c10 c11 c12 c13 _ c15 c16 x k => k (.mk c1 c2 c3 c4 c5 c6 c7 c8 c9 c10 c11 c12 c13 x c15 c16)) t x k
noncomputable def N1.sa15 (x : N1) (t : Tm) (k : Tm → Bool) : Bool := @N16.rec N1 (fun _ => N1 → (Tm → Bool) → Bool) (fun c1 c2 c3 c4 c5 c6 c7 c8 c9 c10 c11 c12 c13 c14 _ c16 x k => k (.mk c1 c2 c3 c4 c5 c6 c7 c8 c9 c10 c11 c12 c13 c14 x c16)) t x k
noncomputable def N1.sa16 (x : N1) (t : Tm) (k : Tm → Bool) : Bool := @N16.rec N1 (fun _ => N1 → (Tm → Bool) → Bool) (fun c1 c2 c3 c4 c5 c6 c7 c8 c9 c10 c11 c12 c13 c14 c15 _ x k => k (.mk c1 c2 c3 c4 c5 c6 c7 c8 c9 c10 c11 c12 c13 c14 c15 x)) t x k
noncomputable def N1.sb1 (x : Option AVal) (t : N1) (k : N1 → Bool) : Bool := @N16.rec (Option AVal) (fun _ => Option AVal → (N1 → Bool) → Bool) (fun _ c2 c3 c4 c5 c6 c7 c8 c9 c10 c11 c12 c13 c14 c15 c16 x k => k (.mk x c2 c3 c4 c5 c6 c7 c8 c9 c10 c11 c12 c13 c14 c15 c16)) t x k
noncomputable def N1.sb2 (x : Option AVal) (t : N1) (k : N1 → Bool) : Bool := @N16.rec (Option AVal) (fun _ => Option AVal → (N1 → Bool) → Bool) (fun c1 _ c3 c4 c5 c6 c7 c8 c9 c10 c11 c12 c13 c14 c15 c16 x k => k (.mk c1 x c3 c4 c5 c6 c7 c8 c9 c10 c11 c12 c13 c14 c15 c16)) t x k
noncomputable def N1.sb3 (x : Option AVal) (t : N1) (k : N1 → Bool) : Bool := @N16.rec (Option AVal) (fun _ => Option AVal → (N1 → Bool) → Bool) (fun c1 c2 _ c4 c5 c6 c7 c8 c9 c10 c11 c12 c13 c14 c15 c16 x k => k (.mk c1 c2 x c4 c5 c6 c7 c8 c9 c10 c11 c12 c13 c14 c15 c16)) t x k
noncomputable def N1.sb4 (x : Option AVal) (t : N1) (k : N1 → Bool) : Bool := @N16.rec (Option AVal) (fun _ => Option AVal → (N1 → Bool) → Bool) (fun c1 c2 c3 _ c5 c6 c7 c8 c9 c10 c11 c12 c13 c14 c15 c16 x k => k (.mk c1 c2 c3 x c5 c6 c7 c8 c9 c10 c11 c12 c13 c14 c15 c16)) t x k
noncomputable def N1.sb5 (x : Option AVal) (t : N1) (k : N1 → Bool) : Bool := @N16.rec (Option AVal) (fun _ => Option AVal → (N1 → Bool) → Bool) (fun c1 c2 c3 c4 _ c6 c7 c8 c9 c10 c11 c12 c13 c14 c15 c16 x k => k (.mk c1 c2 c3 c4 x c6 c7 c8 c9 c10 c11 c12 c13 c14 c15 c16)) t x k
noncomputable def N1.sb6 (x : Option AVal) (t : N1) (k : N1 → Bool) : Bool := @N16.rec (Option AVal) (fun _ => Option AVal → (N1 → Bool) → Bool) (fun c1 c2 c3 c4 c5 _ c7 c8 c9 c10 c11 c12 c13 c14 c15 c16 x k => k (.mk c1 c2 c3 c4 c5 x c7 c8 c9 c10 c11 c12 c13 c14 c15 c16)) t x k
noncomputable def N1.sb7 (x : Option AVal) (t : N1) (k : N1 → Bool) : Bool := @N16.rec (Option AVal) (fun _ => Option AVal → (N1 → Bool) → Bool) (fun c1 c2 c3 c4 c5 c6 _ c8 c9 c10 c11 c12 c13 c14 c15 c16 x k => k (.mk c1 c2 c3 c4 c5 c6 x c8 c9 c10 c11 c12 c13 c14 c15 c16)) t x k
noncomputable def N1.sb8 (x : Option AVal) (t : N1) (k : N1 → Bool) : Bool := @N16.rec (Option AVal) (fun _ => Option AVal → (N1 → Bool) → Bool) (fun c1 c2 c3 c4 c5 c6 c7 _ c9 c10 c11 c12 c13 c14 c15 c16 x k => k (.mk c1 c2 c3 c4 c5 c6 c7 x c9 c10 c11 c12 c13 c14 c15 c16)) t x k
noncomputable def N1.sb9 (x : Option AVal) (t : N1) (k : N1 → Bool) : Bool := @N16.rec (Option AVal) (fun _ => Option AVal → (N1 → Bool) → Bool) (fun c1 c2 c3 c4 c5 c6 c7 c8 _ c10 c11 c12 c13 c14 c15 c16 x k => k (.mk c1 c2 c3 c4 c5 c6 c7 c8 x c10 c11 c12 c13 c14 c15 c16)) t x k
noncomputable def N1.sb10 (x : Option AVal) (t : N1) (k : N1 → Bool) : Bool := @N16.rec (Option AVal) (fun _ => Option AVal → (N1 → Bool) → Bool) (fun c1 c2 c3 c4 c5 c6 c7 c8 c9 _ c11 c12 c13 c14 c15 c16 x k => k (.mk c1 c2 c3 c4 c5 c6 c7 c8 c9 x c11 c12 c13 c14 c15 c16)) t x k
noncomputable def N1.sb11 (x : Option AVal) (t : N1) (k : N1 → Bool) : Bool := @N16.rec (Option AVal) (fun _ => Option AVal → (N1 → Bool) → Bool) (fun c1 c2 c3 c4 c5 c6 c7 c8 c9 c10 _ c12 c13 c14 c15 c16 x k => k (.mk c1 c2 c3 c4 c5 c6 c7 c8 c9 c10 x c12 c13 c14 c15 c16)) t x k
noncomputable def N1.sb12 (x : Option AVal) (t : N1) (k : N1 → Bool) : Bool := @N16.rec (Option AVal) (fun _ => Option AVal → (N1 → Bool) → Bool) (fun c1 c2 c3 c4 c5 c6 c7 c8 c9 c10 c11 _ c13 c14 c15 c16 x k => k (.mk c1 c2 c3 c4 c5 c6 c7 c8 c9 c10 c11 x c13 c14 c15 c16)) t x k
noncomputable def N1.sb13 (x : Option AVal) (t : N1) (k : N1 → Bool) : Bool := @N16.rec (Option AVal) (fun _ => Option AVal → (N1 → Bool) → Bool) (fun c1 c2 c3 c4 c5 c6 c7 c8 c9 c10 c11 c12 _ c14 c15 c16 x k => k (.mk c1 c2 c3 c4 c5 c6 c7 c8 c9 c10 c11 c12 x c14 c15 c16)) t x k
noncomputable def N1.sb14 (x : Option AVal) (t : N1) (k : N1 → Bool) : Bool := @N16.rec (Option AVal) (fun _ => Option AVal → (N1 → Bool) → Bool) (fun c1 c2 c3 c4 c5 c6 c7 c8 c9 c10 c11 c12 c13 _ c15 c16 x k => k (.mk c1 c2 c3 c4 c5 c6 c7 c8 c9 c10 c11 c12 c13 x c15 c16)) t x k
noncomputable def N1.sb15 (x : Option AVal) (t : N1) (k : N1 → Bool) : Bool := @N16.rec (Option AVal) (fun _ => Option AVal → (N1 → Bool) → Bool) (fun c1 c2 c3 c4 c5 c6 c7 c8 c9 c10 c11 c12 c13 c14 _ c16 x k => k (.mk c1 c2 c3 c4 c5 c6 c7 c8 c9 c10 c11 c12 c13 c14 x c16)) t x k
noncomputable def N1.sb16 (x : Option AVal) (t : N1) (k : N1 → Bool) : Bool := @N16.rec (Option AVal) (fun _ => Option AVal → (N1 → Bool) → Bool) (fun c1 c2 c3 c4 c5 c6 c7 c8 c9 c10 c11 c12 c13 c14 c15 _ x k => k (.mk c1 c2 c3 c4 c5 c6 c7 c8 c9 c10 c11 c12 c13 c14 c15 x)) t x k
noncomputable def N1.sel_a {R : Type} (i : D) (ret : (Tm → N1) → R) : R := match i with
  | .a1 => ret N1.a1
  | .a2 => ret N1.a2
  | .a3 => ret N1.a3
  | .a4 => ret N1.a4
  | .a5 => ret N1.a5
  | .a6 => ret N1.a6
  | .a7 => ret N1.a7
  | .a8 => ret N1.a8
  | .a9 => ret N1.a9
  | .a10 => ret N1.a10
  | .a11 => ret N1.a11
  | .a12 => ret N1.a12
  | .a13 => ret N1.a13
  | .a14 => ret N1.a14
  | .a15 => ret N1.a15
  | .a16 => ret N1.a16
noncomputable def N1.sel_b {R : Type} (i : D) (ret : (N1 → Option AVal) → R) : R := match i with
  | .a1 => ret N1.b1
  | .a2 => ret N1.b2
  | .a3 => ret N1.b3
  | .a4 => ret N1.b4
  | .a5 => ret N1.b5
  | .a6 => ret N1.b6
  | .a7 => ret N1.b7
  | .a8 => ret N1.b8
  | .a9 => ret N1.b9
  | .a10 => ret N1.b10
  | .a11 => ret N1.b11
  | .a12 => ret N1.b12
  | .a13 => ret N1.b13
  | .a14 => ret N1.b14
  | .a15 => ret N1.b15
  | .a16 => ret N1.b16
noncomputable def N1.sel_sa {R : Type} (i : D) (ret : (N1 → Tm → (Tm → Bool) → Bool) → R) : R := match i with
  | .a1 => ret N1.sa1
  | .a2 => ret N1.sa2
  | .a3 => ret N1.sa3
  | .a4 => ret N1.sa4
  | .a5 => ret N1.sa5
  | .a6 => ret N1.sa6
  | .a7 => ret N1.sa7
  | .a8 => ret N1.sa8
  | .a9 => ret N1.sa9
  | .a10 => ret N1.sa10
  | .a11 => ret N1.sa11
  | .a12 => ret N1.sa12
  | .a13 => ret N1.sa13
  | .a14 => ret N1.sa14
  | .a15 => ret N1.sa15
  | .a16 => ret N1.sa16
noncomputable def N1.sel_sb {R : Type} (i : D) (ret : (Option AVal → N1 → (N1 → Bool) → Bool) → R) : R := match i with
  | .a1 => ret N1.sb1
  | .a2 => ret N1.sb2
  | .a3 => ret N1.sb3
  | .a4 => ret N1.sb4
  | .a5 => ret N1.sb5
  | .a6 => ret N1.sb6
  | .a7 => ret N1.sb7
  | .a8 => ret N1.sb8
  | .a9 => ret N1.sb9
  | .a10 => ret N1.sb10
  | .a11 => ret N1.sb11
  | .a12 => ret N1.sb12
  | .a13 => ret N1.sb13
  | .a14 => ret N1.sb14
  | .a15 => ret N1.sb15
  | .a16 => ret N1.sb16
theorem N1.sel_a_eq {R : Type} (i : D) (ret : (Tm → N1) → R) : N1.sel_a i ret = ret (N16.g i) := by cases i <;> rfl
theorem N1.sel_b_eq {R : Type} (i : D) (ret : (N1 → Option AVal) → R) : N1.sel_b i ret = ret (N16.g i) := by cases i <;> rfl
theorem N1.sel_sa_eq {R : Type} (i : D) (ret : (N1 → Tm → (Tm → Bool) → Bool) → R) : N1.sel_sa i ret = ret (N16.s i) := by
  cases i <;> (unfold N1.sel_sa; simp only; congr 1; first | done | (funext x t k; cases t; rfl))
theorem N1.sel_sb_eq {R : Type} (i : D) (ret : (Option AVal → N1 → (N1 → Bool) → Bool) → R) : N1.sel_sb i ret = ret (N16.s i) := by
  cases i <;> (unfold N1.sel_sb; simp only; congr 1; first | done | (funext x t k; cases t; rfl))
abbrev H1 := N16 (Option Blk)
abbrev H2 := N16 H1
abbrev H3 := N16 H2
abbrev H4 := N16 H3
abbrev H5 := N16 H4
noncomputable def N1.h1_1 (t : H1) : Option Blk := @N16.rec (Option Blk) (fun _ => Option Blk) (fun c1 _ _ _ _ _ _ _ _ _ _ _ _ _ _ _ => c1) t
noncomputable def N1.h1_2 (t : H1) : Option Blk := @N16.rec (Option Blk) (fun _ => Option Blk) (fun _ c2 _ _ _ _ _ _ _ _ _ _ _ _ _ _ => c2) t
noncomputable def N1.h1_3 (t : H1) : Option Blk := @N16.rec (Option Blk) (fun _ => Option Blk) (fun _ _ c3 _ _ _ _ _ _ _ _ _ _ _ _ _ => c3) t
noncomputable def N1.h1_4 (t : H1) : Option Blk := @N16.rec (Option Blk) (fun _ => Option Blk) (fun _ _ _ c4 _ _ _ _ _ _ _ _ _ _ _ _ => c4) t
noncomputable def N1.h1_5 (t : H1) : Option Blk := @N16.rec (Option Blk) (fun _ => Option Blk) (fun _ _ _ _ c5 _ _ _ _ _ _ _ _ _ _ _ => c5) t
noncomputable def N1.h1_6 (t : H1) : Option Blk := @N16.rec (Option Blk) (fun _ => Option Blk) (fun _ _ _ _ _ c6 _ _ _ _ _ _ _ _ _ _ => c6) t
noncomputable def N1.h1_7 (t : H1) : Option Blk := @N16.rec (Option Blk) (fun _ => Option Blk) (fun _ _ _ _ _ _ c7 _ _ _ _ _ _ _ _ _ => c7) t
noncomputable def N1.h1_8 (t : H1) : Option Blk := @N16.rec (Option Blk) (fun _ => Option Blk) (fun _ _ _ _ _ _ _ c8 _ _ _ _ _ _ _ _ => c8) t
noncomputable def N1.h1_9 (t : H1) : Option Blk := @N16.rec (Option Blk) (fun _ => Option Blk) (fun _ _ _ _ _ _ _ _ c9 _ _ _ _ _ _ _ => c9) t
noncomputable def N1.h1_10 (t : H1) : Option Blk := @N16.rec (Option Blk) (fun _ => Option Blk) (fun _ _ _ _ _ _ _ _ _ c10 _ _ _ _ _ _ => c10) t
noncomputable def N1.h1_11 (t : H1) : Option Blk := @N16.rec (Option Blk) (fun _ => Option Blk) (fun _ _ _ _ _ _ _ _ _ _ c11 _ _ _ _ _ => c11) t
noncomputable def N1.h1_12 (t : H1) : Option Blk := @N16.rec (Option Blk) (fun _ => Option Blk) (fun _ _ _ _ _ _ _ _ _ _ _ c12 _ _ _ _ => c12) t
noncomputable def N1.h1_13 (t : H1) : Option Blk := @N16.rec (Option Blk) (fun _ => Option Blk) (fun _ _ _ _ _ _ _ _ _ _ _ _ c13 _ _ _ => c13) t
noncomputable def N1.h1_14 (t : H1) : Option Blk := @N16.rec (Option Blk) (fun _ => Option Blk) (fun _ _ _ _ _ _ _ _ _ _ _ _ _ c14 _ _ => c14) t
noncomputable def N1.h1_15 (t : H1) : Option Blk := @N16.rec (Option Blk) (fun _ => Option Blk) (fun _ _ _ _ _ _ _ _ _ _ _ _ _ _ c15 _ => c15) t
noncomputable def N1.h1_16 (t : H1) : Option Blk := @N16.rec (Option Blk) (fun _ => Option Blk) (fun _ _ _ _ _ _ _ _ _ _ _ _ _ _ _ c16 => c16) t
noncomputable def N1.h1 (i : D) (t : H1) : Option Blk := @D.rec (fun _ => H1 → Option Blk) N1.h1_1 N1.h1_2 N1.h1_3 N1.h1_4 N1.h1_5 N1.h1_6 N1.h1_7 N1.h1_8 N1.h1_9 N1.h1_10 N1.h1_11 N1.h1_12 N1.h1_13 N1.h1_14 N1.h1_15 N1.h1_16 i t
noncomputable def N1.h2_1 (t : H2) : H1 := @N16.rec (H1) (fun _ => H1) (fun c1 _ _ _ _ _ _ _ _ _ _ _ _ _ _ _ => c1) t
noncomputable def N1.h2_2 (t : H2) : H1 := @N16.rec (H1) (fun _ => H1) (fun _ c2 _ _ _ _ _ _ _ _ _ _ _ _ _ _ => c2) t
noncomputable def N1.h2_3 (t : H2) : H1 := @N16.rec (H1) (fun _ => H1) (fun _ _ c3 _ _ _ _ _ _ _ _ _ _ _ _ _ => c3) t
noncomputable def N1.h2_4 (t : H2) : H1 := @N16.rec (H1) (fun _ => H1) (fun _ _ _ c4 _ _ _ _ _ _ _ _ _ _ _ _ => c4) t
noncomputable def N1.h2_5 (t : H2) : H1 := @N16.rec (H1) (fun _ => H1) (fun _ _ _ _ c5 _ _ _ _ _ _ _ _ _ _ _ => c5) t
noncomputable def N1.h2_6 (t : H2) : H1 := @N16.rec (H1) (fun _ => H1) (fun _ _ _ _ _ c6 _ _ _ _ _ _ _ _ _ _ => c6) t
noncomputable def N1.h2_7 (t : H2) : H1 := @N16.rec (H1) (fun _ => H1) (fun _ _ _ _ _ _ c7 _ _ _ _ _ _ _ _ _ => c7) t
noncomputable def N1.h2_8 (t : H2) : H1 := @N16.rec (H1) (fun _ => H1) (fun _ _ _ _ _ _ _ c8 _ _ _ _ _ _ _ _ => c8) t
noncomputable def N1.h2_9 (t : H2) : H1 := @N16.rec (H1) (fun _ => H1) (fun _ _ _ _ _ _ _ _ c9 _ _ _ _ _ _ _ => c9) t
noncomputable def N1.h2_10 (t : H2) : H1 := @N16.rec (H1) (fun _ => H1) (fun _ _ _ _ _ _ _ _ _ c10 _ _ _ _ _ _ => c10) t
noncomputable def N1.h2_11 (t : H2) : H1 := @N16.rec (H1) (fun _ => H1) (fun _ _ _ _ _ _ _ _ _ _ c11 _ _ _ _ _ => c11) t
noncomputable def N1.h2_12 (t : H2) : H1 := @N16.rec (H1) (fun _ => H1) (fun _ _ _ _ _ _ _ _ _ _ _ c12 _ _ _ _ => c12) t
noncomputable def N1.h2_13 (t : H2) : H1 := @N16.rec (H1) (fun _ => H1) (fun _ _ _ _ _ _ _ _ _ _ _ _ c13 _ _ _ => c13) t
noncomputable def N1.h2_14 (t : H2) : H1 := @N16.rec (H1) (fun _ => H1) (fun _ _ _ _ _ _ _ _ _ _ _ _ _ c14 _ _ => c14) t
noncomputable def N1.h2_15 (t : H2) : H1 := @N16.rec (H1) (fun _ => H1) (fun _ _ _ _ _ _ _ _ _ _ _ _ _ _ c15 _ => c15) t
noncomputable def N1.h2_16 (t : H2) : H1 := @N16.rec (H1) (fun _ => H1) (fun _ _ _ _ _ _ _ _ _ _ _ _ _ _ _ c16 => c16) t
noncomputable def N1.h2 (i : D) (t : H2) : H1 := @D.rec (fun _ => H2 → H1) N1.h2_1 N1.h2_2 N1.h2_3 N1.h2_4 N1.h2_5 N1.h2_6 N1.h2_7 N1.h2_8 N1.h2_9 N1.h2_10 N1.h2_11 N1.h2_12 N1.h2_13 N1.h2_14 N1.h2_15 N1.h2_16 i t
noncomputable def N1.h3_1 (t : H3) : H2 := @N16.rec (H2) (fun _ => H2) (fun c1 _ _ _ _ _ _ _ _ _ _ _ _ _ _ _ => c1) t
noncomputable def N1.h3_2 (t : H3) : H2 := @N16.rec (H2) (fun _ => H2) (fun _ c2 _ _ _ _ _ _ _ _ _ _ _ _ _ _ => c2) t
noncomputable def N1.h3_3 (t : H3) : H2 := @N16.rec (H2) (fun _ => H2) (fun _ _ c3 _ _ _ _ _ _ _ _ _ _ _ _ _ => c3) t
noncomputable def N1.h3_4 (t : H3) : H2 := @N16.rec (H2) (fun _ => H2) (fun _ _ _ c4 _ _ _ _ _ _ _ _ _ _ _ _ => c4) t
noncomputable def N1.h3_5 (t : H3) : H2 := @N16.rec (H2) (fun _ => H2) (fun _ _ _ _ c5 _ _ _ _ _ _ _ _ _ _ _ => c5) t
noncomputable def N1.h3_6 (t : H3) : H2 := @N16.rec (H2) (fun _ => H2) (fun _ _ _ _ _ c6 _ _ _ _ _ _ _ _ _ _ => c6) t
noncomputable def N1.h3_7 (t : H3) : H2 := @N16.rec (H2) (fun _ => H2) (fun _ _ _ _ _ _ c7 _ _ _ _ _ _ _ _ _ => c7) t
noncomputable def N1.h3_8 (t : H3) : H2 := @N16.rec (H2) (fun _ => H2) (fun _ _ _ _ _ _ _ c8 _ _ _ _ _ _ _ _ => c8) t
noncomputable def N1.h3_9 (t : H3) : H2 := @N16.rec (H2) (fun _ => H2) (fun _ _ _ _ _ _ _ _ c9 _ _ _ _ _ _ _ => c9) t
noncomputable def N1.h3_10 (t : H3) : H2 := @N16.rec (H2) (fun _ => H2) (fun _ _ _ _ _ _ _ _ _ c10 _ _ _ _ _ _ => c10) t
noncomputable def N1.h3_11 (t : H3) : H2 := @N16.rec (H2) (fun _ => H2) (fun _ _ _ _ _ _ _ _ _ _ c11 _ _ _ _ _ => c11) t
noncomputable def N1.h3_12 (t : H3) : H2 := @N16.rec (H2) (fun _ => H2) (fun _ _ _ _ _ _ _ _ _ _ _ c12 _ _ _ _ => c12) t
noncomputable def N1.h3_13 (t : H3) : H2 := @N16.rec (H2) (fun _ => H2) (fun _ _ _ _ _ _ _ _ _ _ _ _ c13 _ _ _ => c13) t
noncomputable def N1.h3_14 (t : H3) : H2 := @N16.rec (H2) (fun _ => H2) (fun _ _ _ _ _ _ _ _ _ _ _ _ _ c14 _ _ => c14) t
noncomputable def N1.h3_15 (t : H3) : H2 := @N16.rec (H2) (fun _ => H2) (fun _ _ _ _ _ _ _ _ _ _ _ _ _ _ c15 _ => c15) t
noncomputable def N1.h3_16 (t : H3) : H2 := @N16.rec (H2) (fun _ => H2) (fun _ _ _ _ _ _ _ _ _ _ _ _ _ _ _ c16 => c16) t
noncomputable def N1.h3 (i : D) (t : H3) : H2 := @D.rec (fun _ => H3 → H2) N1.h3_1 N1.h3_2 N1.h3_3 N1.h3_4 N1.h3_5 N1.h3_6 N1.h3_7 N1.h3_8 N1.h3_9 N1.h3_10 N1.h3_11 N1.h3_12 N1.h3_13 N1.h3_14 N1.h3_15 N1.h3_16 i t
noncomputable def N1.h4_1 (t : H4) : H3 := @N16.rec (H3) (fun _ => H3) (fun c1 _ _ _ _ _ _ _ _ _ _ _ _ _ _ _ => c1) t
noncomputable def N1.h4_2 (t : H4) : H3 := @N16.rec (H3) (fun _ => H3) (fun _ c2 _ _ _ _ _ _ _ _ _ _ _ _ _ _ => c2) t
noncomputable def N1.h4_3 (t : H4) : H3 := @N16.rec (H3) (fun _ => H3) (fun _ _ c3 _ _ _ _ _ _ _ _ _ _ _ _ _ => c3) t
noncomputable def N1.h4_4 (t : H4) : H3 := @N16.rec (H3) (fun _ => H3) (fun _ _ _ c4 _ _ _ _ _ _ _ _ _ _ _ _ => c4) t
noncomputable def N1.h4_5 (t : H4) : H3 := @N16.rec (H3) (fun _ => H3) (fun _ _ _ _ c5 _ _ _ _ _ _ _ _ _ _ _ => c5) t
noncomputable def N1.h4_6 (t : H4) : H3 := @N16.rec (H3) (fun _ => H3) (fun _ _ _ _ _ c6 _ _ _ _ _ _ _ _ _ _ => c6) t
noncomputable def N1.h4_7 (t : H4) : H3 := @N16.rec (H3) (fun _ => H3) (fun _ _ _ _ _ _ c7 _ _ _ _ _ _ _ _ _ => c7) t
noncomputable def N1.h4_8 (t : H4) : H3 := @N16.rec (H3) (fun _ => H3) (fun _ _ _ _ _ _ _ c8 _ _ _ _ _ _ _ _ => c8) t
noncomputable def N1.h4_9 (t : H4) : H3 := @N16.rec (H3) (fun _ => H3) (fun _ _ _ _ _ _ _ _ c9 _ _ _ _ _ _ _ => c9) t
noncomputable def N1.h4_10 (t : H4) : H3 := @N16.rec (H3) (fun _ => H3) (fun _ _ _ _ _ _ _ _ _ c10 _ _ _ _ _ _ => c10) t
noncomputable def N1.h4_11 (t : H4) : H3 := @N16.rec (H3) (fun _ => H3) (fun _ _ _ _ _ _ _ _ _ _ c11 _ _ _ _ _ => c11) t
noncomputable def N1.h4_12 (t : H4) : H3 := @N16.rec (H3) (fun _ => H3) (fun _ _ _ _ _ _ _ _ _ _ _ c12 _ _ _ _ => c12) t
noncomputable def N1.h4_13 (t : H4) : H3 := @N16.rec (H3) (fun _ => H3) (fun _ _ _ _ _ _ _ _ _ _ _ _ c13 _ _ _ => c13) t
noncomputable def N1.h4_14 (t : H4) : H3 := @N16.rec (H3) (fun _ => H3) (fun _ _ _ _ _ _ _ _ _ _ _ _ _ c14 _ _ => c14) t
noncomputable def N1.h4_15 (t : H4) : H3 := @N16.rec (H3) (fun _ => H3) (fun _ _ _ _ _ _ _ _ _ _ _ _ _ _ c15 _ => c15) t
noncomputable def N1.h4_16 (t : H4) : H3 := @N16.rec (H3) (fun _ => H3) (fun _ _ _ _ _ _ _ _ _ _ _ _ _ _ _ c16 => c16) t
noncomputable def N1.h4 (i : D) (t : H4) : H3 := @D.rec (fun _ => H4 → H3) N1.h4_1 N1.h4_2 N1.h4_3 N1.h4_4 N1.h4_5 N1.h4_6 N1.h4_7 N1.h4_8 N1.h4_9 N1.h4_10 N1.h4_11 N1.h4_12 N1.h4_13 N1.h4_14 N1.h4_15 N1.h4_16 i t
noncomputable def N1.h5_1 (t : H5) : H4 := @N16.rec (H4) (fun _ => H4) (fun c1 _ _ _ _ _ _ _ _ _ _ _ _ _ _ _ => c1) t
noncomputable def N1.h5_2 (t : H5) : H4 := @N16.rec (H4) (fun _ => H4) (fun _ c2 _ _ _ _ _ _ _ _ _ _ _ _ _ _ => c2) t
noncomputable def N1.h5_3 (t : H5) : H4 := @N16.rec (H4) (fun _ => H4) (fun _ _ c3 _ _ _ _ _ _ _ _ _ _ _ _ _ => c3) t
noncomputable def N1.h5_4 (t : H5) : H4 := @N16.rec (H4) (fun _ => H4) (fun _ _ _ c4 _ _ _ _ _ _ _ _ _ _ _ _ => c4) t
noncomputable def N1.h5_5 (t : H5) : H4 := @N16.rec (H4) (fun _ => H4) (fun _ _ _ _ c5 _ _ _ _ _ _ _ _ _ _ _ => c5) t
noncomputable def N1.h5_6 (t : H5) : H4 := @N16.rec (H4) (fun _ => H4) (fun _ _ _ _ _ c6 _ _ _ _ _ _ _ _ _ _ => c6) t
noncomputable def N1.h5_7 (t : H5) : H4 := @N16.rec (H4) (fun _ => H4) (fun _ _ _ _ _ _ c7 _ _ _ _ _ _ _ _ _ => c7) t
noncomputable def N1.h5_8 (t : H5) : H4 := @N16.rec (H4) (fun _ => H4) (fun _ _ _ _ _ _ _ c8 _ _ _ _ _ _ _ _ => c8) t
noncomputable def N1.h5_9 (t : H5) : H4 := @N16.rec (H4) (fun _ => H4) (fun _ _ _ _ _ _ _ _ c9 _ _ _ _ _ _ _ => c9) t
noncomputable def N1.h5_10 (t : H5) : H4 := @N16.rec (H4) (fun _ => H4) (fun _ _ _ _ _ _ _ _ _ c10 _ _ _ _ _ _ => c10) t
noncomputable def N1.h5_11 (t : H5) : H4 := @N16.rec (H4) (fun _ => H4) (fun _ _ _ _ _ _ _ _ _ _ c11 _ _ _ _ _ => c11) t
noncomputable def N1.h5_12 (t : H5) : H4 := @N16.rec (H4) (fun _ => H4) (fun _ _ _ _ _ _ _ _ _ _ _ c12 _ _ _ _ => c12) t
noncomputable def N1.h5_13 (t : H5) : H4 := @N16.rec (H4) (fun _ => H4) (fun _ _ _ _ _ _ _ _ _ _ _ _ c13 _ _ _ => c13) t
noncomputable def N1.h5_14 (t : H5) : H4 := @N16.rec (H4) (fun _ => H4) (fun _ _ _ _ _ _ _ _ _ _ _ _ _ c14 _ _ => c14) t
noncomputable def N1.h5_15 (t : H5) : H4 := @N16.rec (H4) (fun _ => H4) (fun _ _ _ _ _ _ _ _ _ _ _ _ _ _ c15 _ => c15) t
noncomputable def N1.h5_16 (t : H5) : H4 := @N16.rec (H4) (fun _ => H4) (fun _ _ _ _ _ _ _ _ _ _ _ _ _ _ _ c16 => c16) t
noncomputable def N1.h5 (i : D) (t : H5) : H4 := @D.rec (fun _ => H5 → H4) N1.h5_1 N1.h5_2 N1.h5_3 N1.h5_4 N1.h5_5 N1.h5_6 N1.h5_7 N1.h5_8 N1.h5_9 N1.h5_10 N1.h5_11 N1.h5_12 N1.h5_13 N1.h5_14 N1.h5_15 N1.h5_16 i t
noncomputable def getH (p : Pos) (t : Tr Blk) : Option Blk := @Tr.rec Blk (fun _ => Pos → Option Blk) (fun lo hi p => @Pos.rec (fun _ => H5 → (Nat → Option Blk) → Option Blk) (fun h i j k l lo _ => N1.h1 l (N1.h2 k (N1.h3 j (N1.h4 i (N1.h5 h lo))))) (fun n _ hi => hi n) p lo hi) t p
theorem getH_eq (p : Pos) (t : Tr Blk) : getH p t = Tr.get p t := by
  cases t with | mk lo hi => cases p with
    | big n => rfl
    | mk h i j k l =>
      have e5 : ∀ (i : D) (t : H5), N1.h5 i t = N16.g i t := by intro i t; cases i <;> rfl
      have e4 : ∀ (i : D) (t : H4), N1.h4 i t = N16.g i t := by intro i t; cases i <;> rfl
      have e3 : ∀ (i : D) (t : H3), N1.h3 i t = N16.g i t := by intro i t; cases i <;> rfl
      have e2 : ∀ (i : D) (t : H2), N1.h2 i t = N16.g i t := by intro i t; cases i <;> rfl
      have e1 : ∀ (i : D) (t : H1), N1.h1 i t = N16.g i t := by intro i t; cases i <;> rfl
      show N1.h1 l (N1.h2 k (N1.h3 j (N1.h4 i (N1.h5 h lo)))) = _
      rw [e5, e4, e3, e2, e1]; rfl
noncomputable def headO (v : AVal) (k : AVal → Bool) : Bool := @AVal.rec (fun _ => (AVal → Bool) → Bool) (fun _ => PUnit) (fun b k => k (.bool b)) (fun q n k => k (.int q n)) (fun s k => k (.str s)) (fun k => k .nptr) (fun b o k => k (.ptr b o)) (fun k => k .nsl) (fun b o l c k => k (.sl b o l c)) (fun b o l e k => k (.slu b o l e)) (fun k => k .nmap) (fun b k => k (.map b)) (fun f c _ k => k (.func f c)) (fun k => k .nfunc) (fun k => k .niface) (fun x _ k => k (.agg x)) (fun x _ k => k (.tup x)) .unit (fun _ _ _ _ => .unit) v k
theorem headO_eq (v : AVal) (k : AVal → Bool) : headO v k = k v := by cases v <;> rfl
noncomputable def intO (v : AVal) (f : IntKind → Int → Bool) (e : Bool) : Bool := @AVal.rec (fun _ => (IntKind → Int → Bool) → Bool → Bool) (fun _ => PUnit) (fun _ _ e => e) (fun q n f _ => f q n) (fun _ _ e => e) (fun _ e => e) (fun _ _ _ e => e) (fun _ e => e) (fun _ _ _ _ _ e => e) (fun _ _ _ _ _ e => e) (fun _ e => e) (fun _ _ e => e) (fun _ _ _ _ e => e) (fun _ e => e) (fun _ e => e) (fun _ _ _ e => e) (fun _ _ _ e => e) .unit (fun _ _ _ _ => .unit) v f e
noncomputable def ptrO (v : AVal) (f : Pos → Nat → Bool) (e : Bool) : Bool := @AVal.rec (fun _ => (Pos → Nat → Bool) → Bool → Bool) (fun _ => PUnit) (fun _ _ e => e) (fun _ _ _ e => e) (fun _ _ e => e) (fun _ e => e) (fun b o f _ => f b o) (fun _ e => e) (fun _ _ _ _ _ e => e) (fun _ _ _ _ _ e => e) (fun _ e => e) (fun _ _ e => e) (fun _ _ _ _ e => e) (fun _ e => e) (fun _ e => e) (fun _ _ _ e => e) (fun _ _ _ e => e) .unit (fun _ _ _ _ => .unit) v f e
noncomputable def boolO (v : AVal) (f : Bool → Bool) (e : Bool) : Bool := @AVal.rec (fun _ => (Bool → Bool) → Bool → Bool) (fun _ => PUnit) (fun b f _ => f b) (fun _ _ _ e => e) (fun _ _ e => e) (fun _ e => e) (fun _ _ _ e => e) (fun _ e => e) (fun _ _ _ _ _ e => e) (fun _ _ _ _ _ e => e) (fun _ e => e) (fun _ _ e => e) (fun _ _ _ _ e => e) (fun _ e => e) (fun _ e => e) (fun _ _ _ e => e) (fun _ _ _ e => e) .unit (fun _ _ _ _ => .unit) v f e
noncomputable def lenO (v : AVal) (f : Nat → Bool) (e : Bool) : Bool := @AVal.rec (fun _ => (Nat → Bool) → Bool → Bool) (fun _ => PUnit) (fun _ _ e => e) (fun _ _ _ e => e) (fun _ _ e => e) (fun _ e => e) (fun _ _ _ e => e) (fun f _ => f 0) (fun _ _ l _ f _ => f l) (fun _ _ l _ f _ => f l) (fun _ e => e) (fun _ _ e => e) (fun _ _ _ _ e => e) (fun _ e => e) (fun _ e => e) (fun _ _ _ e => e) (fun _ _ _ e => e) .unit (fun _ _ _ _ => .unit) v f e
noncomputable def sliceO (v : AVal) (f : Pos → Nat → Nat → Bool) (e : Bool) : Bool := @AVal.rec (fun _ => (Pos → Nat → Nat → Bool) → Bool → Bool) (fun _ => PUnit) (fun _ _ e => e) (fun _ _ _ e => e) (fun _ _ e => e) (fun _ e => e) (fun _ _ _ e => e) (fun _ e => e) (fun b o l _ f _ => f b o l) (fun b o l _ f _ => f b o l) (fun _ e => e) (fun _ _ e => e) (fun _ _ _ _ e => e) (fun _ e => e) (fun _ e => e) (fun _ _ _ e => e) (fun _ _ _ e => e) .unit (fun _ _ _ _ => .unit) v f e
noncomputable def liveO (v : AVal) (k : AVal → Bool) (e : Bool) : Bool := @AVal.rec (fun _ => (AVal → Bool) → Bool → Bool) (fun _ => PUnit) (fun b k _ => k (.bool b)) (fun q n k _ => k (.int q n)) (fun s k _ => k (.str s)) (fun _ e => e) (fun b o k _ => k (.ptr b o)) (fun k _ => k .nsl) (fun b o l c k _ => k (.sl b o l c)) (fun b o l e k _ => k (.slu b o l e)) (fun k _ => k .nmap) (fun b k _ => k (.map b)) (fun _ _ _ _ e => e) (fun _ e => e) (fun _ e => e) (fun x _ k _ => k (.agg x)) (fun x _ k _ => k (.tup x)) .unit (fun _ _ _ _ => .unit) v k e
noncomputable def kindEq (a b : IntKind) : Bool := @IntKind.rec (fun _ => IntKind → Bool) (@IntKind.rec (fun _ => Bool) true false false false false false false false) (@IntKind.rec (fun _ => Bool) false true false false false false false false) (@IntKind.rec (fun _ => Bool) false false true false false false false false) (@IntKind.rec (fun _ => Bool) false false false true false false false false) (@IntKind.rec (fun _ => Bool) false false false false true false false false) (@IntKind.rec (fun _ => Bool) false false false false false true false false) (@IntKind.rec (fun _ => Bool) false false false false false false true false) (@IntKind.rec (fun _ => Bool) false false false false false false false true) a b
theorem kindEq_eq (a b : IntKind) : kindEq a b = keq a b := by cases a <;> cases b <;> rfl
/-- What an answer is handed on to. -/
noncomputable def toB {α : Type} (o : Option α) (k : α → Bool) : Bool := match o with
  | some x => k x
  | none => false
noncomputable def bindV (o : Option AVal) (f : AVal → Bool) : Bool := @Option.rec AVal (fun _ => (AVal → Bool) → Bool) (fun _ => false) (fun v f => f v) o f
noncomputable def bindB (o : Option Blk) (f : Blk → Bool) : Bool := @Option.rec Blk (fun _ => (Blk → Bool) → Bool) (fun _ => false) (fun v f => f v) o f
noncomputable def bindT (o : Option (Tm × S)) (f : Tm → S → Bool) : Bool := @Option.rec (Tm × S) (fun _ => (Tm → S → Bool) → Bool) (fun _ => false) (fun x => @Prod.rec Tm S (fun _ => (Tm → S → Bool) → Bool) (fun T σ f => f T σ) x) o f
noncomputable def bindS (o : Option (AVal × S)) (f : AVal → S → Bool) : Bool := @Option.rec (AVal × S) (fun _ => (AVal → S → Bool) → Bool) (fun _ => false) (fun x => @Prod.rec AVal S (fun _ => (AVal → S → Bool) → Bool) (fun T σ f => f T σ) x) o f
noncomputable def ifB (b : Bool) (t e : Bool) : Bool := @Bool.rec (fun _ => Bool → Bool → Bool) (fun _ e => e) (fun t _ => t) b t e
theorem bindV_eq (o : Option AVal) (f : AVal → Bool) : bindV o f = toB o f := by cases o <;> rfl
theorem bindB_eq (o : Option Blk) (f : Blk → Bool) : bindB o f = toB o f := by cases o <;> rfl
theorem bindT_eq (o : Option (Tm × S)) (f : Tm → S → Bool) : bindT o f = toB o fun x => f x.1 x.2 := by cases o <;> rfl
theorem bindS_eq (o : Option (AVal × S)) (f : AVal → S → Bool) : bindS o f = toB o fun x => f x.1 x.2 := by cases o <;> rfl
theorem toB_andThen {α β : Type} (o : Option α) (f : α → Option β) (k : β → Bool) : toB (andThen o f) k = toB o fun a => toB (f a) k := by cases o <;> rfl
/-! Operands and destinations. -/
noncomputable def tmpG (g : Tm → N1) (h : N1 → Option AVal) (T : Tm) : AVal := @Option.rec AVal (fun _ => AVal) .undef (fun v => v) (h (g T))
noncomputable def valG (v : AVal) (_ : Tm) : AVal := v
noncomputable def compOpd {R : Type} (x : Opd) (ret : (Tm → AVal) → R) : R := match x with
  | .tmp p => match p with | ⟨i, j⟩ => N1.sel_a i fun g => N1.sel_b j fun h => ret (tmpG g h)
  | .val v => ret (valG v)
theorem compOpd_eq {R : Type} (x : Opd) (ret : (Tm → AVal) → R) : compOpd x ret = ret (fun T => x.ev T) := by
  cases x with
  | val v => rfl
  | tmp p => obtain ⟨i, j⟩ := p; simp only [compOpd, N1.sel_a_eq, N1.sel_b_eq]; rfl
noncomputable def setG2 (sa : N1 → Tm → (Tm → Bool) → Bool) (T : Tm) (k : Tm → Bool) (x : N1) : Bool := sa x T k
noncomputable def setG (g : Tm → N1) (sb : Option AVal → N1 → (N1 → Bool) → Bool) (sa : N1 → Tm → (Tm → Bool) → Bool) (v : AVal) (T : Tm) (k : Tm → Bool) : Bool := sb (some v) (g T) (setG2 sa T k)
noncomputable def noG (_ : AVal) (T : Tm) (k : Tm → Bool) : Bool := k T
noncomputable def compDst {R : Type} (d : Option Slot) (ret : (AVal → Tm → (Tm → Bool) → Bool) → R) : R := match d with
  | none => ret noG
  | some p => match p with | ⟨i, j⟩ => N1.sel_a i fun g => N1.sel_sb j fun sb => N1.sel_sa i fun sa => ret (setG g sb sa)
theorem compDst_eq {R : Type} (d : Option Slot) (ret : (AVal → Tm → (Tm → Bool) → Bool) → R) : compDst d ret = ret (fun v T k => T.putK d v k) := by
  cases d with
  | none => rfl
  | some p => obtain ⟨i, j⟩ := p; simp only [compDst, N1.sel_a_eq, N1.sel_sb_eq, N1.sel_sa_eq]; rfl
noncomputable def noCall : Caller := fun _ _ _ => none
noncomputable def goK (k : K1) (cb : CB) (base : Pos) (e : KT) (σ : S) (T : Tm) : Bool := k cb base e T σ
noncomputable def putG (d : AVal → Tm → (Tm → Bool) → Bool) (k : K1) (cb : CB) (base : Pos) (e : KT) (T : Tm) (σ : S) (v : AVal) : Bool := d v T (goK k cb base e σ)
noncomputable def cGen (o : POp) (k : K1) (cb : CB) (base : Pos) (e : KT) (T : Tm) (σ : S) : Bool := bindT (evalOp noCall o T σ) (k cb base e)
noncomputable def cMov (x : Tm → AVal) (d : AVal → Tm → (Tm → Bool) → Bool) (k : K1) (cb : CB) (base : Pos) (e : KT) (T : Tm) (σ : S) : Bool := headO (x T) (putG d k cb base e T σ)
noncomputable def binO2 (h : IntKind → Int → Int → Option AVal) (p : AVal → Bool) (e : Bool) (q : IntKind) (a : Int) (r : IntKind) (b : Int) : Bool := ifB (kindEq q r) (bindV (h q a b) p) e
noncomputable def binO1 (h : IntKind → Int → Int → Option AVal) (p : AVal → Bool) (e : Bool) (y : AVal) (q : IntKind) (a : Int) : Bool := intO y (binO2 h p e q a) e
noncomputable def cBin (h : IntKind → Int → Int → Option AVal) (g : K1) (x y : Tm → AVal) (d : AVal → Tm → (Tm → Bool) → Bool) (k : K1) (cb : CB) (base : Pos) (e : KT) (T : Tm) (σ : S) : Bool :=
  intO (x T) (binO1 h (putG d k cb base e T σ) (g cb base e T σ) (y T)) (g cb base e T σ)
noncomputable def loadO2 (o : Nat) (p : AVal → Bool) (blk : Blk) : Bool := bindV (nthV o blk.cells) p
noncomputable def loadO1 (σ : S) (p : AVal → Bool) (b : Pos) (o : Nat) : Bool := bindB (getH b σ.heap) (loadO2 o p)
noncomputable def cLoad1 (x : Tm → AVal) (d : AVal → Tm → (Tm → Bool) → Bool) (k : K1) (cb : CB) (base : Pos) (e : KT) (T : Tm) (σ : S) : Bool := ptrO (x T) (loadO1 σ (putG d k cb base e T σ)) false
noncomputable def fieldO (off : Nat) (p : AVal → Bool) (b : Pos) (o : Nat) : Bool := forceNat (Nat.add o off) fun o => p (.ptr b o)
noncomputable def cFieldAddr (off : Nat) (x : Tm → AVal) (d : AVal → Tm → (Tm → Bool) → Bool) (k : K1) (cb : CB) (base : Pos) (e : KT) (T : Tm) (σ : S) : Bool := ptrO (x T) (fieldO off (putG d k cb base e T σ)) false
noncomputable def lenO1 (p : AVal → Bool) (l : Nat) : Bool := p (.int .i64 (.ofNat l))
noncomputable def cLenSl (x : Tm → AVal) (d : AVal → Tm → (Tm → Bool) → Bool) (k : K1) (cb : CB) (base : Pos) (e : KT) (T : Tm) (σ : S) : Bool := lenO (x T) (lenO1 (putG d k cb base e T σ)) false
noncomputable def cNilck (x : Tm → AVal) (d : AVal → Tm → (Tm → Bool) → Bool) (k : K1) (cb : CB) (base : Pos) (e : KT) (T : Tm) (σ : S) : Bool := liveO (x T) (putG d k cb base e T σ) false
noncomputable def ixO (esz : Nat) (p : AVal → Bool) (i : AVal) (b : Pos) (o l : Nat) : Bool := bindV (andThen (ixOf i l) fun j => outPtr b (o + j * esz)) p
noncomputable def cIxSl (esz : Nat) (x i : Tm → AVal) (d : AVal → Tm → (Tm → Bool) → Bool) (k : K1) (cb : CB) (base : Pos) (e : KT) (T : Tm) (σ : S) : Bool := sliceO (x T) (ixO esz (putG d k cb base e T σ) (i T)) false
/-! Whole numbers that are not below 0, the short way; else the long way. -/
abbrev FB := (AVal → Bool) → Bool → IntKind → Nat → Nat → Bool
noncomputable def natB2 (b : Int) (f : Nat → Nat → Bool) (e : Bool) (m : Nat) : Bool := @Int.rec (fun _ => (Nat → Nat → Bool) → Bool → Nat → Bool) (fun n f _ m => f m n) (fun _ _ e _ => e) b f e m
noncomputable def natB (a b : Int) (f : Nat → Nat → Bool) (e : Bool) : Bool := @Int.rec (fun _ => Int → (Nat → Nat → Bool) → Bool → Bool) (fun m b f e => natB2 b f e m) (fun _ _ _ e => e) a b f e
noncomputable def fitsK (q : IntKind) (s : Nat) : Bool := @IntKind.rec (fun _ => Nat → Bool) (fun _ => false) (fun _ => false) (fun _ => false) (fun s => Nat.ble s 9223372036854775807) (fun s => Nat.ble s 255) (fun _ => false) (fun s => Nat.ble s 4294967295) (fun s => Nat.ble s 18446744073709551615) q s
noncomputable def numB (p : AVal → Bool) (q : IntKind) (s : Nat) : Bool := p (.int q (.ofNat s))
noncomputable def truB (p : AVal → Bool) (b : Bool) : Bool := @Bool.rec (fun _ => (AVal → Bool) → Bool) (fun p => p (.bool false)) (fun p => p (.bool true)) b p
noncomputable def fitB (p : AVal → Bool) (e : Bool) (q : IntKind) (s : Nat) : Bool := ifB (fitsK q s) (numB p q s) e
noncomputable def forceB (n : Nat) (k : Nat → Bool) : Bool := @Nat.rec (fun _ => (Nat → Bool) → Bool) (fun k => k 0) (fun m _ k => k (Nat.succ m)) n k
theorem forceB_eq (n : Nat) (k : Nat → Bool) : forceB n k = k n := by cases n <;> rfl
noncomputable def addB : FB := fun p e q m n => forceB (Nat.add m n) (fitB p e q)
noncomputable def subB : FB := fun p e q m n => ifB (Nat.ble n m) (forceB (Nat.sub m n) (fitB p e q)) e
noncomputable def eqlB : FB := fun p _ _ m n => truB p (Nat.beq m n)
noncomputable def neqB : FB := fun p _ _ m n => truB p (notB (Nat.beq m n))
noncomputable def lssB : FB := fun p _ _ m n => truB p (Nat.ble (Nat.succ m) n)
noncomputable def leqB : FB := fun p _ _ m n => truB p (notB (Nat.ble (Nat.succ n) m))
noncomputable def gtrB : FB := fun p _ _ m n => truB p (Nat.ble (Nat.succ n) m)
noncomputable def geqB : FB := fun p _ _ m n => truB p (notB (Nat.ble (Nat.succ m) n))
noncomputable def fast2 (h : FB) (p : AVal → Bool) (e : Bool) (q : IntKind) (a : Int) (r : IntKind) (b : Int) : Bool := ifB (kindEq q r) (natB a b (h p e q) e) e
noncomputable def fast1 (h : FB) (p : AVal → Bool) (e : Bool) (y : AVal) (q : IntKind) (a : Int) : Bool := intO y (fast2 h p e q a) e
noncomputable def cFast (h : FB) (g : K1) (x y : Tm → AVal) (d : AVal → Tm → (Tm → Bool) → Bool) (k : K1) (cb : CB) (base : Pos) (e : KT) (T : Tm) (σ : S) : Bool :=
  intO (x T) (fast1 h (putG d k cb base e T σ) (g cb base e T σ) (y T)) (g cb base e T σ)
noncomputable def toI2 (c : IntKind) (p : AVal → Bool) (e : Bool) (_ : IntKind) (a : Int) : Bool := @Int.rec (fun _ => IntKind → (AVal → Bool) → Bool → Bool) (fun m c p e => fitB p e c m) (fun _ _ _ e => e) a c p e
noncomputable def cToInt (c : IntKind) (g : K1) (x : Tm → AVal) (d : AVal → Tm → (Tm → Bool) → Bool) (k : K1) (cb : CB) (base : Pos) (e : KT) (T : Tm) (σ : S) : Bool := intO (x T) (toI2 c (putG d k cb base e T σ) (g cb base e T σ)) (g cb base e T σ)
noncomputable def pick2 (a b : AVal) (p : AVal → Bool) (t : Bool) : Bool := @Bool.rec (fun _ => AVal → AVal → (AVal → Bool) → Bool) (fun _ b p => headO b p) (fun a _ p => headO a p) t a b p
noncomputable def cPick (c a b : Tm → AVal) (d : AVal → Tm → (Tm → Bool) → Bool) (k : K1) (cb : CB) (base : Pos) (e : KT) (T : Tm) (σ : S) : Bool := boolO (c T) (pick2 (a T) (b T) (putG d k cb base e T σ)) false
noncomputable def not2 (p : AVal → Bool) (b : Bool) : Bool := truB p (notB b)
noncomputable def cNot (x : Tm → AVal) (d : AVal → Tm → (Tm → Bool) → Bool) (k : K1) (cb : CB) (base : Pos) (e : KT) (T : Tm) (σ : S) : Bool := boolO (x T) (not2 (putG d k cb base e T σ)) false
/-- A call; 'checks': what must read alike behind it. -/
noncomputable def chkK (checks : List POp) (k : K1) (cb : CB) (base : Pos) (e : KT) (σ : S) (T : Tm) : Bool := ifB (rechecks T σ checks) (k cb base e T σ) false
noncomputable def callB2 (d : AVal → Tm → (Tm → Bool) → Bool) (checks : List POp) (k : K1) (cb : CB) (base : Pos) (e : KT) (T : Tm) (v : AVal) (σ : S) : Bool := d v T (chkK checks k cb base e σ)
noncomputable def cCall (f : Nat) (args : List Opd) (d : AVal → Tm → (Tm → Bool) → Bool) (checks : List POp) (k : K1) (cb : CB) (base : Pos) (e : KT) (T : Tm) (σ : S) : Bool := cb f (evs T args) σ (callB2 d checks k cb base e T)
noncomputable def callVB (cb : CB) (k : AVal → S → Bool) (args : List AVal) (σ : S) (v : AVal) : Bool := match v with
  | .func f caps => cb f (args ++ caps) σ k
  | _ => false
noncomputable def cCallV (x : Opd) (args : List Opd) (d : AVal → Tm → (Tm → Bool) → Bool) (checks : List POp) (k : K1) (cb : CB) (base : Pos) (e : KT) (T : Tm) (σ : S) : Bool := callVB cb (callB2 d checks k cb base e T) (evs T args) σ (x.ev T)
noncomputable def cGuard (g : Slot × Bool) (d : AVal → Tm → (Tm → Bool) → Bool) (c k : K1) (cb : CB) (base : Pos) (e : KT) (T : Tm) (σ : S) : Bool := ifB (wanted (some g) T) (c cb base e T σ) (d .undef T (goK k cb base e σ))
/-- A caller in passing style is a caller. -/
def SimB (cb : CB) (call : Caller) : Prop := ∀ f args σ k, cb f args σ k = toB (call f args σ) fun x => k x.1 x.2
/-- An operation, and what comes behind it. -/
def Is (b : K1) (F : Caller → Pos → Tm → S → Option (Tm × S)) (k : K1) : Prop := ∀ cb call base e T σ, SimB cb call → b cb base e T σ = toB (F call base T σ) fun x => k cb base e x.1 x.2
theorem putG_eq {d : Option Slot} {k : K1} {cb : CB} {base : Pos} {e : KT} {T : Tm} {σ : S} (v : AVal) : putG (fun v T k => T.putK d v k) k cb base e T σ v = k cb base e (T.put d v) σ := by
  simp only [putG, goK, Tm.putK_eq]
noncomputable def Fo (o : POp) : Caller → Pos → Tm → S → Option (Tm × S) := fun call _ T σ => evalOp call o T σ
theorem Fo_q {q : QOp} {d : Option Slot} {k : K1} {cb : CB} {call : Caller} {base : Pos} {e : KT} {T : Tm} {σ : S} : (toB (Fo ⟨d, none, .q q⟩ call base T σ) fun x => k cb base e x.1 x.2) = toB (evalQ q T σ) fun v => k cb base e (T.put d v) σ := by
  simp only [Fo, evalOp, wanted_none, opK, opQ, Tm.putK_eq]
  cases evalQ q T σ <;> rfl
/-- No call. -/
def KOp.calls : KOp → Bool
  | .e (.call _ _) => true
  | .e (.callV _ _) => true
  | _ => false
theorem evalE_noCall {q : EOp} (h : KOp.calls (.e q) = false) (c1 c2 : Caller) (T : Tm) (σ : S) : evalE q c1 T σ = evalE q c2 T σ := by cases q <;> first | rfl | cases h
theorem evalOp_noCall {d : Option Slot} {g : Option (Slot × Bool)} {x : KOp} (h : x.calls = false) (c1 c2 : Caller) (T : Tm) (σ : S) : evalOp c1 ⟨d, g, x⟩ T σ = evalOp c2 ⟨d, g, x⟩ T σ := by
  unfold evalOp
  cases hw : wanted g T with
  | false => simp only [hw]
  | true =>
    simp only [hw]
    cases x with
    | q q => rfl
    | a q => rfl
    | e q => simp only [opK, opE, evalE_noCall h c1 c2]
theorem cGen_is {d : Option Slot} {g : Option (Slot × Bool)} {x : KOp} (h : x.calls = false) (k : K1) : Is (cGen ⟨d, g, x⟩ k) (Fo ⟨d, g, x⟩) k := by
  intro cb call base e T σ _
  simp only [cGen, Fo, bindT_eq, evalOp_noCall h noCall call]
section
variable {d : Option Slot} {k : K1}
theorem cMov_is (x : Opd) : Is (cMov (fun T => x.ev T) (fun v T k => T.putK d v k) k) (Fo ⟨d, none, .q (.mov x)⟩) k := by
  intro cb call base e T σ _
  rw [Fo_q]
  simp only [cMov, headO_eq, putG_eq, evalQ, qMov, headK_eq]; rfl
theorem cBin_is (op : BinOp) (tk : TK) (x y : Opd) (hop : isSh op = false) : Is (cBin (intOp op) (cGen ⟨d, none, .q (.bin op tk x y)⟩ k) (fun T => x.ev T) (fun T => y.ev T) (fun v T k => T.putK d v k) k) (Fo ⟨d, none, .q (.bin op tk x y)⟩) k := by
  intro cb call base e T σ hs
  have hg := cGen_is (d := d) (g := none) (x := .q (.bin op tk x y)) rfl k cb call base e T σ hs
  show intO (x.ev T) _ _ = _
  cases hx : x.ev T with
  | int q a =>
    show binO1 _ _ _ _ q a = _
    unfold binO1
    show intO (y.ev T) _ _ = _
    cases hy : y.ev T with
    | int r b =>
      show binO2 _ _ _ q a r b = _
      unfold binO2
      cases hk : kindEq q r with
      | false => exact hg
      | true =>
        show bindV _ _ = _
        rw [bindV_eq, Fo_q]
        have : evalQ (.bin op tk x y) T σ = intOp op q a b := by
          show binA op tk (x.ev T) (y.ev T) = _
          rw [hx, hy]
          show binII op q a r b = _
          unfold binII
          rw [hop, ← kindEq_eq, hk]
        rw [this]
        congr 1
        funext v
        exact putG_eq v
    | _ => exact hg
  | _ => exact hg
def FBok (op : BinOp) (h : FB) : Prop := ∀ p e q m n, h p e q m n = e ∨ h p e q m n = toB (intOp op q (.ofNat m) (.ofNat n)) p
theorem fits_wrap {q : IntKind} {s : Nat} (h : fitsK q s = true) : wrapK q (.ofNat s) = .ofNat s := by
  cases q <;> first | (cases h; done) | skip
  · show wI64 (.ofNat s) = _
    unfold wI64 i64max
    simp only [show Nat.ble s 9223372036854775807 = true from h]
  · show wU 256 .u8 (.ofNat s) = _
    have : s ≤ 255 := Nat.le_of_ble_eq_true h
    show Int.ofNat (s % 256) = _
    rw [Nat.mod_eq_of_lt (by omega)]
  · show wU 4294967296 .u32 (.ofNat s) = _
    have : s ≤ 4294967295 := Nat.le_of_ble_eq_true h
    show Int.ofNat (s % 4294967296) = _
    rw [Nat.mod_eq_of_lt (by omega)]
  · show wU 18446744073709551616 .u64 (.ofNat s) = _
    have : s ≤ 18446744073709551615 := Nat.le_of_ble_eq_true h
    show Int.ofNat (s % 18446744073709551616) = _
    rw [Nat.mod_eq_of_lt (by omega)]
theorem fitB_ok (p : AVal → Bool) (e : Bool) (q : IntKind) (s : Nat) : fitB p e q s = e ∨ fitB p e q s = toB (outIB q (.ofNat s)) p := by
  unfold fitB
  cases h : fitsK q s with
  | false => exact .inl rfl
  | true =>
    right
    unfold outIB outI
    rw [fits_wrap h, forceInt_eq]
    rfl
theorem truB_eq (p : AVal → Bool) (b : Bool) : truB p b = toB (outB b) p := by cases b <;> rfl
theorem addB_ok : FBok .add addB := fun p e q m n => by
  show forceB (m + n) (fitB p e q) = e ∨ forceB (m + n) (fitB p e q) = _
  rw [forceB_eq]; exact fitB_ok p e q (m + n)
theorem subB_ok : FBok .sub subB := fun p e q m n => by
  unfold subB
  cases h : Nat.ble n m with
  | false => exact .inl rfl
  | true =>
    show forceB (m - n) (fitB p e q) = e ∨ forceB (m - n) (fitB p e q) = _
    rw [forceB_eq]
    have : intOp .sub q (.ofNat m) (.ofNat n) = outIB q (.ofNat (m - n)) := by
      show outIB q (isub (.ofNat m) (.ofNat n)) = _
      unfold isub
      simp only [h]; rfl
    rw [this]; exact fitB_ok p e q (m - n)
theorem cmp_ok {op : BinOp} {t : Nat → Nat → Bool} (h : ∀ q m n, intOp op q (.ofNat m) (.ofNat n) = outB (t m n)) : FBok op (fun p _ _ m n => truB p (t m n)) := fun p e q m n => .inr (by rw [h]; exact truB_eq _ _)
theorem eqlB_ok : FBok .eql eqlB := cmp_ok fun _ _ _ => rfl
theorem neqB_ok : FBok .neq neqB := cmp_ok fun _ _ _ => rfl
theorem lssB_ok : FBok .lss lssB := cmp_ok fun _ _ _ => rfl
theorem leqB_ok : FBok .leq leqB := cmp_ok fun _ _ _ => rfl
theorem gtrB_ok : FBok .gtr gtrB := cmp_ok fun _ _ _ => rfl
theorem geqB_ok : FBok .geq geqB := cmp_ok fun _ _ _ => rfl
theorem cFast_is {op : BinOp} {h : FB} (hh : FBok op h) (tk : TK) (x y : Opd) (hop : isSh op = false) : Is (cFast h (cGen ⟨d, none, .q (.bin op tk x y)⟩ k) (fun T => x.ev T) (fun T => y.ev T) (fun v T k => T.putK d v k) k) (Fo ⟨d, none, .q (.bin op tk x y)⟩) k := by
  intro cb call base e T σ hs
  have hg := cGen_is (d := d) (g := none) (x := .q (.bin op tk x y)) rfl k cb call base e T σ hs
  show intO (x.ev T) _ _ = _
  cases hx : x.ev T with
  | int q a =>
    show fast1 _ _ _ _ q a = _
    unfold fast1
    show intO (y.ev T) _ _ = _
    cases hy : y.ev T with
    | int r b =>
      show fast2 _ _ _ q a r b = _
      unfold fast2
      cases hk : kindEq q r with
      | false => exact hg
      | true =>
        show natB a b _ _ = _
        cases a with
        | negSucc m => exact hg
        | ofNat m => cases b with
          | negSucc n => exact hg
          | ofNat n =>
            show h _ _ q m n = _
            rcases hh (putG (fun v T k => T.putK d v k) k cb base e T σ) (cGen ⟨d, none, .q (.bin op tk x y)⟩ k cb base e T σ) q m n with h1 | h1
            · rw [h1]; exact hg
            · rw [h1, Fo_q]
              have : evalQ (.bin op tk x y) T σ = intOp op q (.ofNat m) (.ofNat n) := by
                show binA op tk (x.ev T) (y.ev T) = _
                rw [hx, hy]
                show binII op q (.ofNat m) r (.ofNat n) = _
                unfold binII
                rw [hop, ← kindEq_eq, hk]
              rw [this]
              congr 1
              funext v
              exact putG_eq v
    | _ => exact hg
  | _ => exact hg
theorem cToInt_is (c : IntKind) (x : Opd) : Is (cToInt c (cGen ⟨d, none, .q (.toInt c x)⟩ k) (fun T => x.ev T) (fun v T k => T.putK d v k) k) (Fo ⟨d, none, .q (.toInt c x)⟩) k := by
  intro cb call base e T σ hs
  have hg := cGen_is (d := d) (g := none) (x := .q (.toInt c x)) rfl k cb call base e T σ hs
  show intO (x.ev T) _ _ = _
  cases hx : x.ev T with
  | int q a =>
    cases a with
    | negSucc m => exact hg
    | ofNat m =>
      show fitB _ _ c m = _
      rcases fitB_ok (putG (fun v T k => T.putK d v k) k cb base e T σ) (cGen ⟨d, none, .q (.toInt c x)⟩ k cb base e T σ) c m with h1 | h1
      · rw [h1]; exact hg
      · rw [h1, Fo_q]
        have : evalQ (.toInt c x) T σ = outIB c (.ofNat m) := by
          show vToInt c (x.ev T) = _
          rw [hx]; rfl
        rw [this]
        congr 1
        funext v
        exact putG_eq v
  | _ => exact hg
theorem cPick_is (c a b : Opd) : Is (cPick (fun T => c.ev T) (fun T => a.ev T) (fun T => b.ev T) (fun v T k => T.putK d v k) k) (Fo ⟨d, none, .q (.pick c a b)⟩) k := by
  intro cb call base e T σ _
  rw [Fo_q]
  show boolO (c.ev T) _ _ = toB (andThen (vPick (c.ev T) (a.ev T) (b.ev T)) fun v => headK v some) _
  cases c.ev T with
  | bool t =>
    cases t
    · show headO (b.ev T) _ = toB (headK (b.ev T) some) _
      rw [headO_eq, headK_eq]; exact putG_eq _
    · show headO (a.ev T) _ = toB (headK (a.ev T) some) _
      rw [headO_eq, headK_eq]; exact putG_eq _
  | _ => rfl
theorem cNot_is (x : Opd) : Is (cNot (fun T => x.ev T) (fun v T k => T.putK d v k) k) (Fo ⟨d, none, .q (.un .not x)⟩) k := by
  intro cb call base e T σ _
  rw [Fo_q]
  show boolO (x.ev T) _ _ = toB (unA .not (x.ev T)) _
  cases x.ev T with
  | bool t => cases t <;> exact putG_eq _
  | _ => rfl
theorem cLoad1_is (x : Opd) : Is (cLoad1 (fun T => x.ev T) (fun v T k => T.putK d v k) k) (Fo ⟨d, none, .q (.load1 x)⟩) k := by
  intro cb call base e T σ _
  rw [Fo_q]
  show ptrO (x.ev T) _ _ = toB (vLoad1 (x.ev T) σ) _
  cases x.ev T with
  | ptr b o =>
    show loadO1 σ _ b o = toB (andThen (Tr.get b σ.heap) fun blk => nthV o blk.cells) _
    unfold loadO1
    rw [bindB_eq, getH_eq, toB_andThen]
    congr 1
    funext blk
    show loadO2 o _ blk = _
    unfold loadO2
    rw [bindV_eq]
    congr 1
    funext v
    exact putG_eq v
  | _ => rfl
theorem cFieldAddr_is (off : Nat) (x : Opd) : Is (cFieldAddr off (fun T => x.ev T) (fun v T k => T.putK d v k) k) (Fo ⟨d, none, .q (.fieldAddr off x)⟩) k := by
  intro cb call base e T σ _
  rw [Fo_q]
  show ptrO (x.ev T) _ _ = toB (vFieldAddr off (x.ev T)) _
  cases x.ev T with
  | ptr b o =>
    show fieldO off _ b o = toB (outPtr b (o + off)) _
    unfold fieldO outPtr
    rw [forceNat_eq, forceNat_eq, putG_eq]
    rfl
  | _ => rfl
theorem cLenSl_is (x : Opd) : Is (cLenSl (fun T => x.ev T) (fun v T k => T.putK d v k) k) (Fo ⟨d, none, .q (.lenSl x)⟩) k := by
  intro cb call base e T σ _
  rw [Fo_q]
  show lenO (x.ev T) _ _ = toB (vLenSl (x.ev T)) _
  cases x.ev T <;> first | rfl | exact putG_eq _
theorem cNilck_is (x : Opd) : Is (cNilck (fun T => x.ev T) (fun v T k => T.putK d v k) k) (Fo ⟨d, none, .q (.nilck x)⟩) k := by
  intro cb call base e T σ _
  rw [Fo_q]
  show liveO (x.ev T) _ _ = toB (vNilck (x.ev T)) _
  cases x.ev T <;> first | rfl | exact putG_eq _
theorem cIxSl_is (esz : Nat) (x i : Opd) : Is (cIxSl esz (fun T => x.ev T) (fun T => i.ev T) (fun v T k => T.putK d v k) k) (Fo ⟨d, none, .q (.ixSl esz x i)⟩) k := by
  intro cb call base e T σ _
  rw [Fo_q]
  show sliceO (x.ev T) _ _ = toB (vIxSl esz (x.ev T) (i.ev T)) _
  cases x.ev T <;> first | rfl | (show ixO esz _ _ _ _ _ = _; unfold ixO; rw [bindV_eq]; congr 1; funext v; exact putG_eq v)
/-- A call, with what must read alike behind it. -/
noncomputable def Fcall (q : EOp) (d : Option Slot) (checks : List POp) : Caller → Pos → Tm → S → Option (Tm × S) := fun call _ T σ => andThen (evalE q call T σ) fun x => test (rechecks (T.put d x.1) x.2 checks) (some (T.put d x.1, x.2))
theorem ifB_test {β : Type} (b : Bool) (x : β) (k : β → Bool) : ifB b (k x) false = toB (test b (some x)) k := by cases b <;> rfl
theorem callB2_eq (checks : List POp) {cb : CB} {base : Pos} {e : KT} {T : Tm} (v : AVal) (σ : S) : callB2 (fun v T k => T.putK d v k) checks k cb base e T v σ = toB (test (rechecks (T.put d v) σ checks) (some (T.put d v, σ))) fun x => k cb base e x.1 x.2 := by
  simp only [callB2, Tm.putK_eq, chkK]
  exact ifB_test _ (T.put d v, σ) fun x => k cb base e x.1 x.2
theorem cCall_is (f : Nat) (args : List Opd) (checks : List POp) : Is (cCall f args (fun v T k => T.putK d v k) checks k) (Fcall (.call f args) d checks) k := by
  intro cb call base e T σ hs
  show cb f (evs T args) σ _ = _
  rw [hs]
  show _ = toB (andThen (call f (evs T args) σ) _) _
  rw [toB_andThen]
  congr 1
  funext x
  exact callB2_eq checks x.1 x.2
theorem cCallV_is (x : Opd) (args : List Opd) (checks : List POp) : Is (cCallV x args (fun v T k => T.putK d v k) checks k) (Fcall (.callV x args) d checks) k := by
  intro cb call base e T σ hs
  show callVB cb _ (evs T args) σ (x.ev T) = toB (andThen (callVal call (x.ev T) (evs T args) σ) _) _
  cases x.ev T with
  | func f caps =>
    show cb f (evs T args ++ caps) σ _ = _
    rw [hs, toB_andThen]
    show _ = toB (call f (evs T args ++ caps) σ) _
    congr 1
    funext x
    exact callB2_eq checks x.1 x.2
  | _ => rfl
theorem cGuard_is {g : Slot × Bool} {c : K1} {F : Caller → Pos → Tm → S → Option (Tm × S)} (hc : Is c F k) :
    Is (cGuard g (fun v T k => T.putK d v k) c k) (fun call base T σ => match wanted (some g) T with | true => F call base T σ | false => some (T.put d .undef, σ)) k := by
  intro cb call base e T σ hs
  unfold cGuard
  cases hw : wanted (some g) T with
  | true => simp only [hw]; exact hc cb call base e T σ hs
  | false =>
    simp only [hw]
    show Tm.putK T d .undef _ = _
    rw [Tm.putK_eq]; rfl
end
noncomputable def compQ {R : Type} (q : QOp) (d : Option Slot) (k : K1) (ret : K1 → R) : R := match q with
  | .mov x => compOpd x fun x => compDst d fun d => ret (cMov x d k)
  | .bin op tk x y => match isSh op with
    | true => ret (cGen ⟨d, none, .q (.bin op tk x y)⟩ k)
    | false => compOpd x fun gx => compOpd y fun gy => compDst d fun gd => match op with
      | .add => ret (cFast addB (cGen ⟨d, none, .q (.bin .add tk x y)⟩ k) gx gy gd k)
      | .sub => ret (cFast subB (cGen ⟨d, none, .q (.bin .sub tk x y)⟩ k) gx gy gd k)
      | .eql => ret (cFast eqlB (cGen ⟨d, none, .q (.bin .eql tk x y)⟩ k) gx gy gd k)
      | .neq => ret (cFast neqB (cGen ⟨d, none, .q (.bin .neq tk x y)⟩ k) gx gy gd k)
      | .lss => ret (cFast lssB (cGen ⟨d, none, .q (.bin .lss tk x y)⟩ k) gx gy gd k)
      | .leq => ret (cFast leqB (cGen ⟨d, none, .q (.bin .leq tk x y)⟩ k) gx gy gd k)
      | .gtr => ret (cFast gtrB (cGen ⟨d, none, .q (.bin .gtr tk x y)⟩ k) gx gy gd k)
      | .geq => ret (cFast geqB (cGen ⟨d, none, .q (.bin .geq tk x y)⟩ k) gx gy gd k)
      | op => ret (cBin (intOp op) (cGen ⟨d, none, .q (.bin op tk x y)⟩ k) gx gy gd k)
  | .toInt c x => compOpd x fun gx => compDst d fun gd => ret (cToInt c (cGen ⟨d, none, .q (.toInt c x)⟩ k) gx gd k)
  | .pick c a b => compOpd c fun c => compOpd a fun a => compOpd b fun b => compDst d fun d => ret (cPick c a b d k)
  | .un .not x => compOpd x fun x => compDst d fun d => ret (cNot x d k)
  | .load1 x => compOpd x fun x => compDst d fun d => ret (cLoad1 x d k)
  | .fieldAddr off x => compOpd x fun x => compDst d fun d => ret (cFieldAddr off x d k)
  | .lenSl x => compOpd x fun x => compDst d fun d => ret (cLenSl x d k)
  | .nilck x => compOpd x fun x => compDst d fun d => ret (cNilck x d k)
  | .ixSl e x i => compOpd x fun x => compOpd i fun i => compDst d fun d => ret (cIxSl e x i d k)
  | q => ret (cGen ⟨d, none, .q q⟩ k)
/-- What is laid out is one function, whatever is done with it. -/
def Laid {α : Type} (c : ∀ {R : Type}, (α → R) → R) (M : α → Prop) : Prop := ∃ b, M b ∧ ∀ {R : Type} (ret : α → R), c ret = ret b
theorem compQ_ok (q : QOp) (d : Option Slot) (k : K1) : ∃ b, Is b (Fo ⟨d, none, .q q⟩) k ∧ ∀ {R : Type} (ret : K1 → R), compQ q d k ret = ret b := by
  cases q with
  | mov x => exact ⟨_, cMov_is x, fun ret => by simp only [compQ, compOpd_eq, compDst_eq]⟩
  | load1 x => exact ⟨_, cLoad1_is x, fun ret => by simp only [compQ, compOpd_eq, compDst_eq]⟩
  | fieldAddr off x => exact ⟨_, cFieldAddr_is off x, fun ret => by simp only [compQ, compOpd_eq, compDst_eq]⟩
  | lenSl x => exact ⟨_, cLenSl_is x, fun ret => by simp only [compQ, compOpd_eq, compDst_eq]⟩
  | nilck x => exact ⟨_, cNilck_is x, fun ret => by simp only [compQ, compOpd_eq, compDst_eq]⟩
  | ixSl e x i => exact ⟨_, cIxSl_is e x i, fun ret => by simp only [compQ, compOpd_eq, compDst_eq]⟩
  | bin op tk x y =>
    cases hop : isSh op with
    | true => exact ⟨_, cGen_is rfl k, fun ret => by simp only [compQ, hop]⟩
    | false =>
      cases op with
      | add => exact ⟨_, cFast_is addB_ok tk x y rfl, fun ret => by simp only [compQ, hop, compOpd_eq, compDst_eq]⟩
      | sub => exact ⟨_, cFast_is subB_ok tk x y rfl, fun ret => by simp only [compQ, hop, compOpd_eq, compDst_eq]⟩
      | eql => exact ⟨_, cFast_is eqlB_ok tk x y rfl, fun ret => by simp only [compQ, hop, compOpd_eq, compDst_eq]⟩
      | neq => exact ⟨_, cFast_is neqB_ok tk x y rfl, fun ret => by simp only [compQ, hop, compOpd_eq, compDst_eq]⟩
      | lss => exact ⟨_, cFast_is lssB_ok tk x y rfl, fun ret => by simp only [compQ, hop, compOpd_eq, compDst_eq]⟩
      | leq => exact ⟨_, cFast_is leqB_ok tk x y rfl, fun ret => by simp only [compQ, hop, compOpd_eq, compDst_eq]⟩
      | gtr => exact ⟨_, cFast_is gtrB_ok tk x y rfl, fun ret => by simp only [compQ, hop, compOpd_eq, compDst_eq]⟩
      | geq => exact ⟨_, cFast_is geqB_ok tk x y rfl, fun ret => by simp only [compQ, hop, compOpd_eq, compDst_eq]⟩
      | _ => exact ⟨_, cBin_is _ tk x y hop, fun ret => by simp only [compQ, hop, compOpd_eq, compDst_eq]⟩
  | toInt c x => exact ⟨_, cToInt_is c x, fun ret => by simp only [compQ, compOpd_eq, compDst_eq]⟩
  | pick c a b => exact ⟨_, cPick_is c a b, fun ret => by simp only [compQ, compOpd_eq, compDst_eq]⟩
  | un op x => cases op with
    | not => exact ⟨_, cNot_is x, fun ret => by simp only [compQ, compOpd_eq, compDst_eq]⟩
    | _ => exact ⟨_, cGen_is rfl k, fun ret => rfl⟩
  | _ => exact ⟨_, cGen_is rfl k, fun ret => rfl⟩
/-- An operation that is a call. -/
noncomputable def compCall {R : Type} (q : EOp) (d : Option Slot) (checks : List POp) (gen k : K1) (ret : K1 → R) : R := match q with
  | .call f args => compDst d fun d => ret (cCall f args d checks k)
  | .callV x args => compDst d fun d => ret (cCallV x args d checks k)
  | _ => ret gen
noncomputable def compG {R : Type} (g : Option (Slot × Bool)) (d : Option Slot) (k c : K1) (ret : K1 → R) : R := match g with
  | none => ret c
  | some g => compDst d fun d => ret (cGuard g d c k)
noncomputable def compOp {R : Type} (o : POp) (k : K1) (ret : K1 → R) : R := match o with
  | ⟨d, g, x⟩ => match x with
    | .q q => match g with
      | none => compQ q d k ret
      | some g => ret (cGen ⟨d, some g, .q q⟩ k)
    | .a a => ret (cGen ⟨d, g, .a a⟩ k)
    | .e q => match KOp.calls (.e q) with
      | false => ret (cGen ⟨d, g, .e q⟩ k)
      | true => compCall q d [] (cGen ⟨d, g, .e q⟩ k) k fun c => compG g d k c ret
noncomputable def endK (_ : CB) (_ : Pos) (e : KT) (T : Tm) (σ : S) : Bool := e T σ
noncomputable def compOps {R : Type} (l : List POp) (ret : K1 → R) : R := match l with
  | [] => ret endK
  | o :: l => compOps l fun k => compOp o k ret
noncomputable def dGen (d : DOp) (k : K1) (cb : CB) (base : Pos) (e : KT) (T : Tm) (σ : S) : Bool := bindT (evalD noCall base d T σ) (k cb base e)
noncomputable def compD {R : Type} (x : DOp) (k : K1) (ret : K1 → R) : R := match x with
  | ⟨ix, o, checks⟩ => match o with
    | ⟨d, g, x⟩ => match x with
      | .q q => match g with
        | none => compQ q d k ret
        | some g => ret (dGen ⟨ix, ⟨d, some g, .q q⟩, checks⟩ k)
      | .a a => ret (dGen ⟨ix, ⟨d, g, .a a⟩, checks⟩ k)
      | .e q => match KOp.calls (.e q) with
        | false => ret (dGen ⟨ix, ⟨d, g, .e q⟩, checks⟩ k)
        | true => compCall q d checks (dGen ⟨ix, ⟨d, g, .e q⟩, checks⟩ k) k fun c => compG g d k c ret
noncomputable def compDs {R : Type} (l : List DOp) (ret : K1 → R) : R := match l with
  | [] => ret endK
  | o :: l => compDs l fun k => compD o k ret
abbrev KE := Nat → Tm → S → Bool
noncomputable def bOps (k : K1) (cb : CB) (_ : Nat) (n : KT) (_ : KE) (_ : KT) (T : Tm) (σ : S) : Bool := k cb Pos.first n T σ
noncomputable def bindN (o : Option S) (f : S → Bool) : Bool := @Option.rec S (fun _ => (S → Bool) → Bool) (fun _ => false) (fun v f => f v) o f
noncomputable def bDraw (m : Nat) (k : K1) (cb : CB) (_ : Nat) (n : KT) (_ : KE) (_ : KT) (T : Tm) (σ : S) : Bool := bindN (σ.bumpN m) (k cb σ.next n T)
noncomputable def bSkip (_ : CB) (_ : Nat) (n : KT) (_ : KE) (_ : KT) (T : Tm) (σ : S) : Bool := n T σ
noncomputable def bSeq (a b : K2) (cb : CB) (fuel : Nat) (n : KT) (x : KE) (r : KT) (T : Tm) (σ : S) : Bool := a cb fuel (b cb fuel n x r) x r T σ
noncomputable def condB (t : Bool) (a b : K2) (cb : CB) (fuel : Nat) (n : KT) (x : KE) (r : KT) (T : Tm) (σ : S) : Bool := @Bool.rec (fun _ => K2 → K2 → CB → Nat → KT → KE → KT → Tm → S → Bool) (fun _ b => b) (fun a _ => a) t a b cb fuel n x r T σ
noncomputable def condO (a b : K2) (cb : CB) (fuel : Nat) (n : KT) (x : KE) (r : KT) (T : Tm) (σ : S) (t : Bool) : Bool := condB t a b cb fuel n x r T σ
noncomputable def bCond (c : Tm → AVal) (a b : K2) (cb : CB) (fuel : Nat) (n : KT) (x : KE) (r : KT) (T : Tm) (σ : S) : Bool := boolO (c T) (condO a b cb fuel n x r T σ) false
noncomputable def exB (id : Nat) (n : KT) (x : KE) (i : Nat) (T : Tm) (σ : S) : Bool := ifB (Nat.beq i id) (n T σ) (x i T σ)
noncomputable def bBlock (id : Nat) (c : K2) (cb : CB) (fuel : Nat) (n : KT) (x : KE) (r : KT) (T : Tm) (σ : S) : Bool := c cb fuel n (exB id n x) r T σ
noncomputable def iterB (c : K2) (cb : CB) (fuel : Nat) (x : KE) (r : KT) (m : Nat) : KT := @Nat.rec (fun _ => KT) (fun _ _ => false) (fun _ ih T σ => c cb fuel ih x r T σ) m
noncomputable def bLoop (c : K2) (cb : CB) (fuel : Nat) (_ : KT) (x : KE) (r : KT) (T : Tm) (σ : S) : Bool := iterB c cb fuel x r fuel T σ
noncomputable def bExit (id : Nat) (_ : CB) (_ : Nat) (_ : KT) (x : KE) (_ : KT) (T : Tm) (σ : S) : Bool := x id T σ
noncomputable def bRet (_ : CB) (_ : Nat) (_ : KT) (_ : KE) (r : KT) (T : Tm) (σ : S) : Bool := r T σ
noncomputable def compC {R : Type} (c : PC) (ret : K2 → R) : R := match c with
  | .skip => ret bSkip
  | .ops l => compOps l fun k => ret (bOps k)
  | .draw n l => compDs l fun k => ret (bDraw n k)
  | .seq a b => compC a fun a => compC b fun b => ret (bSeq a b)
  | .cond c a b => compOpd c fun c => compC a fun a => compC b fun b => ret (bCond c a b)
  | .block id c => compC c fun c => ret (bBlock id c)
  | .loop c => compC c fun c => ret (bLoop c)
  | .exit id => ret (bExit id)
  | .ret => ret bRet
/-- A function laid out so. -/
inductive CFn where
  | code (slots : List Slot) (body : K2) (results : List PRes)
  | raw (p : PFn)
noncomputable def noEx (_ : Nat) (_ : Tm) (_ : S) : Bool := false
noncomputable def leaveB (res : List PRes) (k : AVal → S → Bool) (T : Tm) (σ : S) : Bool := bindS (leave res T σ) k
noncomputable def enterB (l : List AVal) (i : List Slot) (T : Tm) (k : Tm → Bool) : Bool := match l with
  | [] => k T
  | v :: l => match i with
    | [] => false
    | s :: i => Ts.setK s (some v) T fun T => enterB l i T k
noncomputable def startB (body : K2) (res : List PRes) (cb : CB) (fuel : Nat) (σ : S) (k : AVal → S → Bool) (T : Tm) : Bool := body cb fuel (leaveB res k) noEx (leaveB res k) T σ
noncomputable def runB (cb : CB) (fuel : Nat) (fn : CFn) (args : List AVal) (σ : S) (k : AVal → S → Bool) : Bool := match fn with
  | .code slots body res => enterB args slots Ts.empty (startB body res cb fuel σ k)
  | .raw p => bindS (runF noCall fuel p args σ) k
noncomputable def bindC (o : Option CFn) (f : CFn → Bool) : Bool := @Option.rec CFn (fun _ => (CFn → Bool) → Bool) (fun _ => false) (fun v f => f v) o f
noncomputable def stepB (ih : CB) (n : Nat) (args : List AVal) (σ : S) (k : AVal → S → Bool) (fn : CFn) : Bool := runB ih n fn args σ k
noncomputable def evalB (tab : Nat → Option CFn) (n : Nat) : CB :=
  @Nat.rec (fun _ => CB) (fun _ _ _ _ => false) (fun n ih f args σ k => bindC (tab f) (stepB ih n args σ k)) n
noncomputable def compFn {R : Type} (p : PFn) (ret : CFn → R) : R := match p with
  | .code slots body res => compC body fun body => ret (.code slots body res)
  | p => ret (.raw p)
noncomputable def tabG (t : Tr CFn) (f : Nat) : Option CFn := andThen (Pos.ofNat f) fun p => Tr.get p t
noncomputable def layOneG (f : Nat) (fn : Option PFn) (t : Tr CFn) (k : Tr CFn → Bool) : Bool := match fn with
  | some fn => match Pos.ofNat f with
    | some p => forcePos p fun p => forceFn fn fun fn => compFn fn fun c => Tr.setK p (some c) t k
    | none => false
  | none => k t
noncomputable def layFnsG (P : Program) (I : TypeId → Option TypeInfo) (hk : List (Nat × PFn)) (need : Nat) (l : List Func) (f : Nat) (t : Tr CFn) (k : Tr CFn → Bool) : Bool := match l with
  | [] => k t
  | fn :: l => match hasBit need f with
    | false => forceNat (Nat.succ f) fun f => layFnsG P I hk need l f t k
    | true => match hookOf hk f with
      | some p => layOneG f (some p) t fun t => forceNat (Nat.succ f) fun f => layFnsG P I hk need l f t k
      | none => layOneG f (cfnF P (und I) I fn) t fun t => forceNat (Nat.succ f) fun f => layFnsG P I hk need l f t k
noncomputable def layTabG (P : Program) (hk : List (Nat × PFn)) (need : Nat) (k : Tr CFn → Bool) : Bool :=
  layTypes P.types.toList 0 Tr.empty fun types => layFnsG P (infoT P types) hk need P.funcs.toList 0 Tr.empty k
/-! That it is the same. -/
section
variable {d : Option Slot} {k : K1}
theorem opE_call {q : EOp} {call : Caller} {T : Tm} {σ : S} : opE q d call T σ = andThen (evalE q call T σ) fun x => some (T.put d x.1, x.2) := by
  unfold opE
  cases evalE q call T σ with
  | none => rfl
  | some x => obtain ⟨v, σ1⟩ := x; simp only [andThen_some, Tm.putK_eq]
theorem compG_ok {g : Option (Slot × Bool)} {c : K1} {F : Caller → Pos → Tm → S → Option (Tm × S)} (hc : Is c F k) :
    ∃ b, Is b (fun call base T σ => match wanted g T with | true => F call base T σ | false => some (T.put d .undef, σ)) k ∧ ∀ {R : Type} (ret : K1 → R), compG g d k c ret = ret b := by
  cases g with
  | none => exact ⟨c, hc, fun ret => rfl⟩
  | some g => exact ⟨_, cGuard_is hc, fun ret => by simp only [compG, compDst_eq]⟩
theorem compCall_ok {q : EOp} (h : KOp.calls (.e q) = true) (checks : List POp) (gen : K1) : ∃ b, Is b (Fcall q d checks) k ∧ ∀ {R : Type} (ret : K1 → R), compCall q d checks gen k ret = ret b := by
  cases q <;> first | (cases h; done) | skip
  · rename_i f args
    exact ⟨_, cCall_is f args checks, fun ret => by simp only [compCall, compDst_eq]⟩
  · rename_i x args
    exact ⟨_, cCallV_is x args checks, fun ret => by simp only [compCall, compDst_eq]⟩
theorem Is.of_eq {b : K1} {F G : Caller → Pos → Tm → S → Option (Tm × S)} (h : Is b F k) (e : ∀ call base T σ, F call base T σ = G call base T σ) : Is b G k := fun cb call base n T σ hs => by rw [h cb call base n T σ hs, e]
theorem compOp_ok (o : POp) : ∃ b, Is b (Fo o) k ∧ ∀ {R : Type} (ret : K1 → R), compOp o k ret = ret b := by
  obtain ⟨d, g, x⟩ := o
  cases x with
  | q q =>
    cases g with
    | none => exact compQ_ok q d k
    | some g => exact ⟨_, cGen_is rfl k, fun ret => rfl⟩
  | a a => exact ⟨_, cGen_is rfl k, fun ret => rfl⟩
  | e q =>
    cases hc : KOp.calls (.e q) with
    | false => exact ⟨_, cGen_is hc k, fun ret => by simp only [compOp, hc]⟩
    | true =>
      obtain ⟨b1, h1, e1⟩ := compCall_ok (d := d) (k := k) hc [] (cGen ⟨d, g, .e q⟩ k)
      obtain ⟨b2, h2, e2⟩ := compG_ok (d := d) (g := g) h1
      refine ⟨b2, h2.of_eq fun call base T σ => ?_, fun ret => by simp only [compOp, hc, e1, e2]⟩
      simp only [Fo, evalOp, Fcall]
      cases wanted g T with
      | false => simp only [Tm.putK_eq]
      | true =>
        simp only [opK, opE_call]
        cases evalE q call T σ <;> rfl
end
noncomputable def Fl (l : List POp) : Caller → Pos → Tm → S → Option (Tm × S) := fun call _ T σ => evalOps call l T σ
/-- A list of operations, and what comes behind it. -/
def IsL (b : K1) (F : Caller → Pos → Tm → S → Option (Tm × S)) : Prop := ∀ cb call base n T σ, SimB cb call → b cb base n T σ = toB (F call base T σ) fun x => n x.1 x.2
theorem Is.isL {b k : K1} {F G : Caller → Pos → Tm → S → Option (Tm × S)} (h : Is b F k) (hk : IsL k G) : IsL b (fun call base T σ => andThen (F call base T σ) fun x => G call base x.1 x.2) := by
  intro cb call base n T σ hs
  rw [h cb call base n T σ hs, toB_andThen]
  congr 1
  funext x
  exact hk cb call base n x.1 x.2 hs
theorem compOps_ok (l : List POp) : ∃ b, IsL b (Fl l) ∧ ∀ {R : Type} (ret : K1 → R), compOps l ret = ret b := by
  induction l with
  | nil => exact ⟨endK, fun cb call base n T σ _ => rfl, fun ret => rfl⟩
  | cons o l ih =>
    obtain ⟨b1, h1, e1⟩ := ih
    obtain ⟨b2, h2, e2⟩ := compOp_ok (k := b1) o
    refine ⟨b2, ?_, fun ret => by show compOps l _ = _; rw [e1, e2]⟩
    have := h2.isL h1
    exact this
theorem evalD_noCall {d : Option Slot} {g : Option (Slot × Bool)} {x : KOp} (h : x.calls = false) (ix : Nat) (checks : List POp) (c1 c2 : Caller) (base : Pos) (T : Tm) (σ : S) :
    evalD c1 base ⟨ix, ⟨d, g, x⟩, checks⟩ T σ = evalD c2 base ⟨ix, ⟨d, g, x⟩, checks⟩ T σ := by
  unfold evalD
  simp only
  cases wanted g T with
  | false => rfl
  | true =>
    cases x with
    | q q => rfl
    | a q => rfl
    | e q => simp only [dK, dE, evalE_noCall h c1 c2]
noncomputable def Fd (x : DOp) : Caller → Pos → Tm → S → Option (Tm × S) := fun call base T σ => evalD call base x T σ
theorem dGen_is {k : K1} {d : Option Slot} {g : Option (Slot × Bool)} {x : KOp} (h : x.calls = false) (ix : Nat) (checks : List POp) : Is (dGen ⟨ix, ⟨d, g, x⟩, checks⟩ k) (Fd ⟨ix, ⟨d, g, x⟩, checks⟩) k := by
  intro cb call base e T σ _
  simp only [dGen, Fd, bindT_eq, evalD_noCall h ix checks noCall call]
theorem compD_ok {k : K1} (x : DOp) : ∃ b, Is b (Fd x) k ∧ ∀ {R : Type} (ret : K1 → R), compD x k ret = ret b := by
  obtain ⟨ix, ⟨d, g, x⟩, checks⟩ := x
  cases x with
  | q q =>
    cases g with
    | none =>
      obtain ⟨b, h, e⟩ := compQ_ok q d k
      exact ⟨b, h.of_eq fun call base T σ => rfl, e⟩
    | some g => exact ⟨_, dGen_is rfl ix checks, fun ret => rfl⟩
  | a a => exact ⟨_, dGen_is rfl ix checks, fun ret => rfl⟩
  | e q =>
    cases hc : KOp.calls (.e q) with
    | false => exact ⟨_, dGen_is hc ix checks, fun ret => by simp only [compD, hc]⟩
    | true =>
      obtain ⟨b1, h1, e1⟩ := compCall_ok (d := d) (k := k) hc checks (dGen ⟨ix, ⟨d, g, .e q⟩, checks⟩ k)
      obtain ⟨b2, h2, e2⟩ := compG_ok (d := d) (g := g) h1
      refine ⟨b2, h2.of_eq fun call base T σ => ?_, fun ret => by simp only [compD, hc, e1, e2]⟩
      simp only [Fd, evalD, Fcall]
      cases wanted g T with
      | false => simp only [Tm.putK_eq]
      | true =>
        simp only [dK, dE]
        cases evalE q call T σ with
        | none => rfl
        | some x => obtain ⟨v, σ1⟩ := x; simp only [andThen_some, Tm.putK_eq]
noncomputable def Fds (l : List DOp) : Caller → Pos → Tm → S → Option (Tm × S) := fun call base T σ => evalDs call base l T σ
theorem compDs_ok (l : List DOp) : ∃ b, IsL b (Fds l) ∧ ∀ {R : Type} (ret : K1 → R), compDs l ret = ret b := by
  induction l with
  | nil => exact ⟨endK, fun cb call base n T σ _ => rfl, fun ret => rfl⟩
  | cons o l ih =>
    obtain ⟨b1, h1, e1⟩ := ih
    obtain ⟨b2, h2, e2⟩ := compD_ok (k := b1) o
    refine ⟨b2, ?_, fun ret => by show compDs l _ = _; rw [e1, e2]⟩
    intro cb call base n T σ hs
    rw [h2.isL h1 cb call base n T σ hs]
    simp only [Fd, Fds, evalDs]
/-- What an answer of code is handed on to. -/
noncomputable def outE (o : Out) (n : KT) (x : KE) (r : KT) : Bool := toB o fun y => match y.1 with
  | .normal => n y.2.1 y.2.2
  | .exit i => x i y.2.1 y.2.2
  | .ret => r y.2.1 y.2.2
def IsC (b : K2) (c : PC) : Prop := ∀ cb call fuel n x r T σ, SimB cb call → b cb fuel n x r T σ = outE (evalC call fuel c T σ) n x r
theorem outE_thenC (f : Tm → S → Out) (o : Out) (n : KT) (x : KE) (r : KT) : outE (thenC f o) n x r = outE o (fun T σ => outE (f T σ) n x r) x r := by
  cases o with
  | none => rfl
  | some y => obtain ⟨e, T, σ⟩ := y; cases e <;> rfl
theorem iterB_ok {b : K2} {c : PC} (h : IsC b c) {cb : CB} {call : Caller} (hs : SimB cb call) (fuel : Nat) (n : KT) (x : KE) (r : KT) : ∀ (m : Nat) (T : Tm) (σ : S), iterB b cb fuel x r m T σ = outE (iter (evalC call fuel c) m T σ) n x r
  | 0, T, σ => rfl
  | m + 1, T, σ => by
    rw [iter_succ, outE_thenC]
    show b cb fuel (iterB b cb fuel x r m) x r T σ = _
    rw [h cb call fuel _ x r T σ hs]
    congr 1
    funext T σ
    exact iterB_ok h hs fuel n x r m T σ
theorem compC_ok (c : PC) : ∃ b, IsC b c ∧ ∀ {R : Type} (ret : K2 → R), compC c ret = ret b := by
  induction c with
  | skip => exact ⟨bSkip, fun cb call fuel n x r T σ _ => rfl, fun ret => rfl⟩
  | exit id => exact ⟨bExit id, fun cb call fuel n x r T σ _ => rfl, fun ret => rfl⟩
  | ret => exact ⟨bRet, fun cb call fuel n x r T σ _ => rfl, fun ret => rfl⟩
  | ops l =>
    obtain ⟨b, h, e⟩ := compOps_ok l
    refine ⟨bOps b, fun cb call fuel n x r T σ hs => ?_, fun ret => by show compOps l _ = _; rw [e]⟩
    show b cb Pos.first n T σ = outE (cOps call l T σ) n x r
    rw [h cb call Pos.first n T σ hs]
    unfold cOps Fl
    cases evalOps call l T σ <;> rfl
  | draw m l =>
    obtain ⟨b, h, e⟩ := compDs_ok l
    refine ⟨bDraw m b, fun cb call fuel n x r T σ hs => ?_, fun ret => by show compDs l _ = _; rw [e]⟩
    show bindN (σ.bumpN m) _ = outE (cDraw call m l T σ) n x r
    unfold cDraw
    cases σ.bumpN m with
    | none => rfl
    | some σ' =>
      show b cb σ.next n T σ' = outE (andThen (evalDs call σ.next l T σ') _) n x r
      rw [h cb call σ.next n T σ' hs]
      unfold Fds
      cases evalDs call σ.next l T σ' <;> rfl
  | seq a b iha ihb =>
    obtain ⟨b1, h1, e1⟩ := iha
    obtain ⟨b2, h2, e2⟩ := ihb
    refine ⟨bSeq b1 b2, fun cb call fuel n x r T σ hs => ?_, fun ret => by show compC a _ = _; rw [e1, e2]⟩
    show b1 cb fuel (b2 cb fuel n x r) x r T σ = outE (cSeq _ _ T σ) n x r
    unfold cSeq
    rw [h1 cb call fuel _ x r T σ hs, outE_thenC]
    congr 1
    funext T σ
    exact h2 cb call fuel n x r T σ hs
  | cond c a b iha ihb =>
    obtain ⟨b1, h1, e1⟩ := iha
    obtain ⟨b2, h2, e2⟩ := ihb
    refine ⟨bCond (fun T => c.ev T) b1 b2, fun cb call fuel n x r T σ hs => ?_, fun ret => by show compOpd c _ = _; rw [compOpd_eq, e1, e2]⟩
    show boolO (c.ev T) _ _ = outE (cCond c _ _ T σ) n x r
    unfold cCond
    cases c.ev T with
    | bool t => cases t with
      | true => exact h1 cb call fuel n x r T σ hs
      | false => exact h2 cb call fuel n x r T σ hs
    | _ => rfl
  | block id c ih =>
    obtain ⟨b, h, e⟩ := ih
    refine ⟨bBlock id b, fun cb call fuel n x r T σ hs => ?_, fun ret => by show compC c _ = _; rw [e]⟩
    show b cb fuel n (exB id n x) r T σ = outE (cBlock id (evalC call fuel c) T σ) n x r
    rw [h cb call fuel n _ r T σ hs]
    generalize evalC call fuel c = F
    unfold cBlock
    cases F T σ with
    | none => rfl
    | some y =>
      obtain ⟨e, T1, σ1⟩ := y
      cases e with
      | normal => rfl
      | ret => rfl
      | exit i =>
        show ifB (Nat.beq i id) _ _ = outE (match Nat.beq i id with | true => some (.normal, T1, σ1) | false => some (.exit i, T1, σ1)) n x r
        cases Nat.beq i id <;> rfl
  | loop c ih =>
    obtain ⟨b, h, e⟩ := ih
    refine ⟨bLoop b, fun cb call fuel n x r T σ hs => iterB_ok h hs fuel n x r fuel T σ, fun ret => by show compC c _ = _; rw [e]⟩
def CFnOk (c : CFn) (p : PFn) : Prop := ∀ cb call fuel args σ k, SimB cb call → runB cb fuel c args σ k = toB (runF call fuel p args σ) fun x => k x.1 x.2
theorem enterB_eq (k : Tm → Bool) (f : Tm → Option (AVal × S)) (g : AVal × S → Bool) (h : ∀ T, k T = toB (f T) g) : ∀ (l : List AVal) (i : List Slot) (T : Tm), enterB l i T k = toB (enterK l i T f) g
  | [], i, T => h T
  | v :: l, [], T => rfl
  | v :: l, s :: i, T => by
    unfold enterB enterK
    simp only [Ts.setK_eq]
    exact enterB_eq k f g h l i _
theorem compFn_ok (p : PFn) : ∃ c, CFnOk c p ∧ ∀ {R : Type} (ret : CFn → R), compFn p ret = ret c := by
  cases p with
  | keys off => exact ⟨.raw (.keys off), fun cb call fuel args σ k _ => bindS_eq _ _, fun ret => rfl⟩
  | code slots body res =>
    obtain ⟨b, h, e⟩ := compC_ok body
    refine ⟨.code slots b res, fun cb call fuel args σ k hs => ?_, fun ret => by show compC body _ = _; rw [e]⟩
    refine enterB_eq _ _ _ (fun T => ?_) args slots Ts.empty
    show b cb fuel (leaveB res k) noEx (leaveB res k) T σ = _
    rw [h cb call fuel _ _ _ T σ hs]
    cases evalC call fuel body T σ with
    | none => rfl
    | some y =>
      obtain ⟨e, T1, σ1⟩ := y
      cases e with
      | normal => exact bindS_eq _ _
      | ret => exact bindS_eq _ _
      | exit i => rfl
section
variable {P : Program}
def TabGOk (P : Program) (t : Tr CFn) : Prop := ∀ f c, tabG t f = some c → ∃ p, CFnOk c p ∧ (tabOf P f = some p ∨ HookOk P f p)
theorem tabGOk_empty : TabGOk P Tr.empty := fun f p h => by
  unfold tabG at h
  obtain ⟨q, _, h2⟩ := andThen_eq.1 h
  rw [Tr.get_empty] at h2; cases h2
theorem tabGOk_set {t : Tr CFn} {f : Nat} {q : Pos} {c : CFn} (h : TabGOk P t) (hf : ∃ p, CFnOk c p ∧ (tabOf P f = some p ∨ HookOk P f p)) (hq : Pos.ofNat f = some q) : TabGOk P (Tr.set q (some c) t) := fun f' p' h' => by
  unfold tabG at h'
  obtain ⟨q', h1, h2⟩ := andThen_eq.1 h'
  rw [Tr.get_set] at h2
  by_cases e : q' = q
  · rw [if_pos e] at h2; cases h2
    have h3 := Pos.ofNat_nat h1
    have h4 := Pos.ofNat_nat hq
    rw [e, h4] at h3; subst h3; exact hf
  · rw [if_neg e] at h2
    exact h f' p' (by unfold tabG; rw [h1]; exact h2)
theorem layOneG_ok {k : Tr CFn → Bool} {f : Nat} {fn : Option PFn} {t : Tr CFn} (ht : TabGOk P t) (hf : ∀ p, fn = some p → tabOf P f = some p ∨ HookOk P f p) (h : layOneG f fn t k = true) : ∃ t, TabGOk P t ∧ k t = true := by
  unfold layOneG at h
  split at h
  · rename_i p
    split at h
    · rename_i q hq
      obtain ⟨c, hc, he⟩ := compFn_ok p
      rw [forcePos_eq, forceFn_eq, he, Tr.setK_eq] at h
      exact ⟨_, tabGOk_set ht ⟨p, hc, hf p rfl⟩ hq, h⟩
    · cases h
  · exact ⟨t, ht, h⟩
theorem layFnsG_ok {k : Tr CFn → Bool} {hk : List (Nat × PFn)} {need : Nat} (hh : ∀ f p, (f, p) ∈ hk → HookOk P f p) : ∀ (l : List Func) (f : Nat) (t : Tr CFn), TabGOk P t → (∀ j fn, l[j]? = some fn → P.funcs[f + j]? = some fn) →
    layFnsG P P.info? hk need l f t k = true → ∃ t, TabGOk P t ∧ k t = true
  | [], f, t, ht, _, h => ⟨t, ht, h⟩
  | fn :: l, f, t, ht, hl, h => by
    have hl' : ∀ j fn', l[j]? = some fn' → P.funcs[Nat.succ f + j]? = some fn' := fun j fn' hj => by
      have := hl (j + 1) fn' (by simpa using hj)
      rw [show f.succ + j = f + (j + 1) by omega]
      exact this
    unfold layFnsG at h
    split at h
    · rw [forceNat_eq] at h
      exact layFnsG_ok hh l _ t ht hl' h
    · split at h
      · rename_i p hp
        obtain ⟨t', h1, h2⟩ := layOneG_ok ht (fun q hq => by cases hq; exact .inr (hh f _ (hookOf_mem hp))) h
        rw [forceNat_eq] at h2
        exact layFnsG_ok hh l _ t' h1 hl' h2
      · rw [und_eq, cfnF_eq] at h
        obtain ⟨t', h1, h2⟩ := layOneG_ok ht (fun q hq => by
          left
          unfold tabOf
          have := hl 0 fn rfl
          rw [Nat.add_zero] at this
          rw [this]; exact hq) h
        rw [forceNat_eq] at h2
        exact layFnsG_ok hh l _ t' h1 hl' h2
theorem layTabG_ok {k : Tr CFn → Bool} {hk : List (Nat × PFn)} {need : Nat} (hh : ∀ f p, (f, p) ∈ hk → HookOk P f p) (h : layTabG P hk need k = true) : ∃ t, TabGOk P t ∧ k t = true := by
  unfold layTabG at h
  obtain ⟨types, h1, h2⟩ := layTypes_ok (P := P) P.types.toList 0 Tr.empty (fun q x hq => by rw [Tr.get_empty] at hq; cases hq) (fun j x hj => by
    rw [Nat.zero_add]
    have hj : P.types[j]? = some x := by rw [← Array.getElem?_toList]; exact hj
    have hlt := (Array.getElem?_eq_some_iff.1 hj).1
    show Tables.info? _ j = _
    unfold Tables.info?
    rw [if_pos hlt]; exact hj) h
  rw [infoT_eq h1] at h2
  exact layFnsG_ok hh _ 0 _ tabGOk_empty (fun j fn hj => by rw [Nat.zero_add, ← Array.getElem?_toList]; exact hj) h2
open Classical in
/-- The table that it stands for. -/
noncomputable def tabF (P : Program) (t : Tr CFn) (f : Nat) : Option PFn := match tabG t f with
  | some c => if h : ∃ p, CFnOk c p ∧ (tabOf P f = some p ∨ HookOk P f p) then some h.choose else none
  | none => none
theorem evalB_ok {t : Tr CFn} (ht : TabGOk P t) (n : Nat) : SimB (evalB (tabG t) n) (evalF (tabF P t) n) := by
  induction n with
  | zero => intro f args σ k; rfl
  | succ n ih =>
    intro f args σ k
    rw [evalF_succ]
    show bindC (tabG t f) (stepB (evalB (tabG t) n) n args σ k) = _
    unfold tabF
    cases hc : tabG t f with
    | none => rfl
    | some c =>
      have h := ht f c hc
      simp only [dif_pos h, andThen_some]
      exact h.choose_spec.1 _ _ _ _ _ _ ih
theorem tabF_ok {t : Tr CFn} (f : Nat) (p : PFn) (h : tabF P t f = some p) : tabOf P f = some p ∨ HookOk P f p := by
  unfold tabF at h
  split at h
  · rename_i c hc
    split at h
    · rename_i hx
      cases h
      exact hx.choose_spec.2
    · cases h
  · cases h
noncomputable def yes (v : AVal) (_ : S) : Bool := match v with
  | .bool b => b
  | _ => false
/-- ONE TEST BY THE KERNEL. -/
theorem closedB {hk : List (Nat × PFn)} {need n f : Nat} (hm : P.follows .mixedOrders = true) (hh : ∀ f p, (f, p) ∈ hk → HookOk P f p) (h : layTabG P hk need (fun t => evalB (tabG t) n f [] S.start yes) = true) (w : World) :
    Calls P f #[] w fun | .returned x, w' => x = .bool true ∧ RowKit.Below w.heap.size w w' | _, _ => False := by
  obtain ⟨t, ht, h⟩ := layTabG_ok hh h
  rw [evalB_ok ht n f [] S.start yes] at h
  cases he : evalF (tabF P t) n f [] S.start with
  | none => rw [he] at h; cases h
  | some x =>
    obtain ⟨v, σ'⟩ := x
    rw [he] at h
    cases v <;> first | (cases h; done) | skip
    rename_i b
    have hb : b = true := h
    subst hb
    exact calls_closed hm (fun f p => tabF_ok f p) he w
end
end Go.Am
