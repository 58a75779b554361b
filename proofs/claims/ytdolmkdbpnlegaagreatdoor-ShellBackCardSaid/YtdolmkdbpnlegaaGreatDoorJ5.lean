/-
  A struct of numbers, as it is handed in: a step, an event. Conditions: none.
-/
import Derived.Test.YtdolmkdbpnlegaaGreatDoorJ3
import Derived.Test.YtdolmkdbpnlegaaGreatDoorS2
import Derived.ProofKit
import Derived.LaidMore
import Derived.Lay
import Derived.ChangeMaps5
import Derived.SizedLaws
namespace Go.Am
open Go.ChangeShapes Go.WideShapes Go.ChangeAt Go.RowKit
def FitR : List CK → List AVal → Prop
  | [], [] => True
  | .i :: ks, .int .i64 n :: cs => InR n ∧ FitR ks cs
  | .b :: ks, .bool _ :: cs => FitR ks cs
  | _, _ => False
theorem FitR.i {ks : List CK} {vs : List AVal} (h : FitR (.i :: ks) vs) : ∃ n r, vs = iv n :: r ∧ InR n ∧ FitR ks r := by
  cases vs with
  | nil => exact h.elim
  | cons v vs =>
    cases v with
    | int k n => cases k <;> first | exact h.elim | exact ⟨n, vs, rfl, h.1, h.2⟩
    | _ => exact h.elim
theorem FitR.b {ks : List CK} {vs : List AVal} (h : FitR (.b :: ks) vs) : ∃ x r, vs = .bool x :: r ∧ FitR ks r := by
  cases vs with
  | nil => exact h.elim
  | cons v vs =>
    cases v with
    | bool x => exact ⟨x, vs, rfl, h⟩
    | _ => exact h.elim
theorem FitR.nil {vs : List AVal} (h : FitR [] vs) : vs = [] := by
  cases vs with
  | nil => rfl
  | cons v vs => exact h.elim
theorem FitR.app {k1 k2 : List CK} {a b : List AVal} (h : FitR k1 a) (k : FitR k2 b) : FitR (k1 ++ k2) (a ++ b) := by
  induction k1 generalizing a with
  | nil => obtain rfl := h.nil; exact k
  | cons x k1 ih =>
    cases x with
    | i => obtain ⟨n, r, rfl, h1, h2⟩ := h.i; exact ⟨h1, ih h2⟩
    | b => obtain ⟨n, r, rfl, h2⟩ := h.b; exact ih h2
    | s =>
      cases a with
      | nil => exact h.elim
      | cons v a => exact h.elim
theorem FitR.len {ks : List CK} {vs : List AVal} (h : FitR ks vs) : vs.length = ks.length := by
  induction ks generalizing vs with
  | nil => obtain rfl := h.nil; rfl
  | cons x ks ih =>
    cases x with
    | i => obtain ⟨n, r, rfl, _, h2⟩ := h.i; simp [ih h2]
    | b => obtain ⟨n, r, rfl, h2⟩ := h.b; simp [ih h2]
    | s =>
      cases vs with
      | nil => exact h.elim
      | cons v a => exact h.elim
theorem SRs.app {m : Mp} {a b : List AVal} {x y : List Value} (h : SRs m a x) (k : SRs m b y) : SRs m (a ++ b) (x ++ y) := by
  induction a generalizing x with
  | nil => cases h; exact k
  | cons v a ih =>
    cases h with
    | cons _ w _ r h1 h2 => exact .cons _ _ _ _ h1 (ih h2)
theorem SRs.len {m : Mp} {a : List AVal} {x : List Value} (h : SRs m a x) : x.length = a.length := by
  induction a generalizing x with
  | nil => cases h; rfl
  | cons v a ih =>
    cases h with
    | cons _ w _ r h1 h2 => simp [ih h2]
def Kinds (ks : List CK) (cs : List Value) : Prop := ∃ vs, FitR ks vs ∧ SRs (fun _ => none) vs cs
theorem Kinds.app {k1 k2 : List CK} {a b : List Value} (h : Kinds k1 a) (k : Kinds k2 b) : Kinds (k1 ++ k2) (a ++ b) := by
  obtain ⟨v1, f1, s1⟩ := h
  obtain ⟨v2, f2, s2⟩ := k
  exact ⟨v1 ++ v2, f1.app f2, s1.app s2⟩
section
variable {H : Type} (enc : TypeId × Value → H) (P : Program) (W : World) (held : Bool)
def Opens (t : TypeId) (ks : List CK) : Prop := ∀ (fuel : Nat) (cs : List Value) (x : DataW H × List MemPlace), DataW.trod enc P W 0 (fun _ => true) held fuel t cs = some x → Kinds ks cs
inductive FieldsOk : List Field → List (List CK) → Nat → Prop
  | nil (o : Nat) : FieldsOk [] [] o
  | cons {f : Field} {fs : List Field} {ks : List CK} {kss : List (List CK)} {o : Nat} (h1 : Opens enc P W held f.type ks) (h2 : P.cellsOf f.type = ks.length) (h3 : f.offset = o) (h : FieldsOk fs kss (o + ks.length)) : FieldsOk (f :: fs) (ks :: kss) o
variable {enc P W held}
theorem opens_int {t : TypeId} (ht : P.underlying t = some (.int .i64)) : Opens enc P W held t [.i] := by
  intro fuel cs x hx
  obtain ⟨n, rfl, _, hw⟩ := DataW.trod_int ht hx
  have hw : (decide (IntKind.i64.min ≤ n) && decide (n ≤ IntKind.i64.max)) = true := hw
  simp only [Bool.and_eq_true, decide_eq_true_eq] at hw
  exact ⟨[iv n], ⟨hw, trivial⟩, .cons _ _ _ _ (.int _ _) .nil⟩
theorem opens_bool {t : TypeId} (ht : P.underlying t = some .bool) : Opens enc P W held t [.b] := by
  intro fuel cs x hx
  obtain ⟨b, rfl, _⟩ := DataW.trod_bool ht hx
  exact ⟨[.bool b], trivial, .cons _ _ _ _ (.bool _) .nil⟩
theorem take_more {α : Type} (l : List α) (o a b : Nat) : (l.drop o).take (a + b) = (l.drop o).take a ++ (l.drop (o + a)).take b := by
  rw [List.take_add, List.drop_drop]
theorem fields_open {n : Nat} {cs : List Value} {xs : List (DataW H × List MemPlace)} {fs : List Field} {kss : List (List CK)} {o : Nat} (h : FieldsOk enc P W held fs kss o) :
    ∀ i : Nat, (∀ (j : Nat) (f : Field), fs[j]? = some f → DataW.trod enc P W 0 (fun _ => true) held n f.type ((cs.drop f.offset).take (P.cellsOf f.type)) = xs[i + j]?) → i + fs.length ≤ xs.length → Kinds kss.flatten ((cs.drop o).take kss.flatten.length) := by
  induction h with
  | nil o => exact fun i _ _ => ⟨[], trivial, by simpa using SRs.nil⟩
  | @cons f fs ks kss o h1 h2 h3 h ih =>
    intro i hf hi
    simp only [List.length_cons] at hi
    have h0 := hf 0 f rfl
    rw [h2, h3, Nat.add_zero, List.getElem?_eq_getElem (by omega)] at h0
    have hk := h1 _ _ _ h0
    have ht := ih (i + 1) (fun j g hg => by rw [hf (j + 1) g (by simpa using hg)]; congr 1; omega) (by omega)
    rw [List.flatten_cons, List.length_append, take_more]
    exact hk.app ht
theorem opens_struct {t : TypeId} {fs : Array Field} {kss : List (List CK)} {ks : List CK} (ht : P.underlying t = some (.struct fs)) (hks : kss.flatten = ks) (hc : P.cellsOf t = ks.length) (h : FieldsOk enc P W held fs.toList kss 0) : Opens enc P W held t ks := by
  intro fuel cs x hx
  obtain ⟨xs, n, _, _, hl, hxl, hf⟩ := DataW.trod_struct ht hx
  have := fields_open (cs := cs) (xs := xs) (n := n) h 0 (fun j f hj => by rw [Nat.zero_add]; exact hf j f (by rw [← Array.getElem?_toList]; exact hj)) (by rw [Nat.zero_add, hxl, Array.length_toList]; exact Nat.le_refl _)
  rw [hks, List.drop_zero, List.take_of_length_le (by omega)] at this
  exact this
end
theorem all10 {a b c d e f g h i j : Int} (ha : InR a) (hb : InR b) (hc : InR c) (hd : InR d) (he : InR e) (hf : InR f) (hg : InR g) (hh : InR h) (hi : InR i) (hj : InR j) : ∀ n ∈ [a, b, c, d, e, f, g, h, i, j], InR n := by
  intro n hn
  simp only [List.mem_cons, List.not_mem_nil, or_false] at hn
  rcases hn with rfl | rfl | rfl | rfl | rfl | rfl | rfl | rfl | rfl | rfl <;> assumption
theorem all5 {a b c d e : Int} (ha : InR a) (hb : InR b) (hc : InR c) (hd : InR d) (he : InR e) : ∀ n ∈ [a, b, c, d, e], InR n := by
  intro n hn
  simp only [List.mem_cons, List.not_mem_nil, or_false] at hn
  rcases hn with rfl | rfl | rfl | rfl | rfl <;> assumption
def ks27 : List CK := [.i, .i, .i, .i] ++ ks19 ++ [.i, .i, .i, .i]
theorem fit_step {vs : List AVal} (h : FitR ks25 vs) : ∃ s : Sp, vs = s.cells ∧ s.Ok := by
  obtain ⟨sk, r0, rfl, p0, q0⟩ := h.i
  obtain ⟨sa, r1, rfl, p1, q1⟩ := q0.i
  obtain ⟨sb, r2, rfl, p2, q2⟩ := q1.i
  obtain ⟨sn, r3, rfl, p3, q3⟩ := q2.i
  obtain ⟨ss, r4, rfl, p4, q4⟩ := q3.i
  obtain ⟨sq, r5, rfl, p5, q5⟩ := q4.i
  obtain ⟨k, r6, rfl, p6, q6⟩ := q5.i
  obtain ⟨o0, r7, rfl, p7, q7⟩ := q6.i
  obtain ⟨o1, r8, rfl, p8, q8⟩ := q7.i
  obtain ⟨o2, r9, rfl, p9, q9⟩ := q8.i
  obtain ⟨o3, r10, rfl, p10, q10⟩ := q9.i
  obtain ⟨o4, r11, rfl, p11, q11⟩ := q10.i
  obtain ⟨o5, r12, rfl, p12, q12⟩ := q11.i
  obtain ⟨o6, r13, rfl, p13, q13⟩ := q12.i
  obtain ⟨o7, r14, rfl, p14, q14⟩ := q13.i
  obtain ⟨o8, r15, rfl, p15, q15⟩ := q14.i
  obtain ⟨o9, r16, rfl, p16, q16⟩ := q15.i
  obtain ⟨d0, r17, rfl, p17, q17⟩ := q16.i
  obtain ⟨d1, r18, rfl, p18, q18⟩ := q17.i
  obtain ⟨d2, r19, rfl, p19, q19⟩ := q18.i
  obtain ⟨d3, r20, rfl, p20, q20⟩ := q19.i
  obtain ⟨d4, r21, rfl, p21, q21⟩ := q20.i
  obtain ⟨r, r22, rfl, q22⟩ := q21.b
  obtain ⟨i, r23, rfl, p23, q23⟩ := q22.i
  obtain ⟨n, r24, rfl, p24, q24⟩ := q23.i
  obtain rfl := q24.nil
  exact ⟨⟨sk, sa, sb, sn, ss, sq, ⟨k, o0, o1, o2, o3, o4, o5, o6, o7, o8, o9, d0, d1, d2, d3, d4, r, i, n⟩⟩, rfl, p0, p1, p2, p3, p4, p5, ⟨p6, all10 p7 p8 p9 p10 p11 p12 p13 p14 p15 p16, all5 p17 p18 p19 p20 p21, p23, p24⟩⟩
theorem fit_event {vs : List AVal} (h : FitR ks27 vs) : ∃ e : Ev, vs = e.cells ∧ e.Ok := by
  obtain ⟨ek, r0, rfl, p0, q0⟩ := h.i
  obtain ⟨en, r1, rfl, p1, q1⟩ := q0.i
  obtain ⟨es, r2, rfl, p2, q2⟩ := q1.i
  obtain ⟨eq, r3, rfl, p3, q3⟩ := q2.i
  obtain ⟨k, r4, rfl, p4, q4⟩ := q3.i
  obtain ⟨o0, r5, rfl, p5, q5⟩ := q4.i
  obtain ⟨o1, r6, rfl, p6, q6⟩ := q5.i
  obtain ⟨o2, r7, rfl, p7, q7⟩ := q6.i
  obtain ⟨o3, r8, rfl, p8, q8⟩ := q7.i
  obtain ⟨o4, r9, rfl, p9, q9⟩ := q8.i
  obtain ⟨o5, r10, rfl, p10, q10⟩ := q9.i
  obtain ⟨o6, r11, rfl, p11, q11⟩ := q10.i
  obtain ⟨o7, r12, rfl, p12, q12⟩ := q11.i
  obtain ⟨o8, r13, rfl, p13, q13⟩ := q12.i
  obtain ⟨o9, r14, rfl, p14, q14⟩ := q13.i
  obtain ⟨d0, r15, rfl, p15, q15⟩ := q14.i
  obtain ⟨d1, r16, rfl, p16, q16⟩ := q15.i
  obtain ⟨d2, r17, rfl, p17, q17⟩ := q16.i
  obtain ⟨d3, r18, rfl, p18, q18⟩ := q17.i
  obtain ⟨d4, r19, rfl, p19, q19⟩ := q18.i
  obtain ⟨r, r20, rfl, q20⟩ := q19.b
  obtain ⟨i, r21, rfl, p21, q21⟩ := q20.i
  obtain ⟨n, r22, rfl, p22, q22⟩ := q21.i
  obtain ⟨ew, r23, rfl, p23, q23⟩ := q22.i
  obtain ⟨et, r24, rfl, p24, q24⟩ := q23.i
  obtain ⟨ed, r25, rfl, p25, q25⟩ := q24.i
  obtain ⟨ex, r26, rfl, p26, q26⟩ := q25.i
  obtain rfl := q26.nil
  exact ⟨⟨ek, en, es, eq, ⟨k, o0, o1, o2, o3, o4, o5, o6, o7, o8, o9, d0, d1, d2, d3, d4, r, i, n⟩, ew, et, ed, ex⟩, rfl, p1, p2, p3, ⟨p4, all10 p5 p6 p7 p8 p9 p10 p11 p12 p13 p14, all5 p15 p16 p17 p18 p19, p21, p22⟩, p23, p24, p25, p26⟩
end Go.Am
namespace Go.Proofs.YtdolmkdbpnlegaaGreatDoor
open Go.ChangeShapes Go.WideShapes Go.ChangeAt Go.RowKit
open Go.Am (Opens FieldsOk opens_int opens_bool opens_struct CK)
section
variable {H : Type} {enc : TypeId × Value → H} {W : World} {held : Bool}
theorem c3 : Tryz.prog.cellsOf 3 = 1 := by kernel_rfl
theorem c4 : Tryz.prog.cellsOf 4 = 1 := by kernel_rfl
theorem c36 : Tryz.prog.cellsOf 36 = 1 := by kernel_rfl
theorem c23 : Tryz.prog.cellsOf 23 = 2 := by kernel_rfl
theorem c25 : Tryz.prog.cellsOf 25 = 4 := by kernel_rfl
theorem c27 : Tryz.prog.cellsOf 27 = 10 := by kernel_rfl
theorem c29 : Tryz.prog.cellsOf 29 = 6 := by kernel_rfl
theorem c31 : Tryz.prog.cellsOf 31 = 19 := by kernel_rfl
theorem c33 : Tryz.prog.cellsOf 33 = 21 := by kernel_rfl
theorem c35 : Tryz.prog.cellsOf 35 = 25 := by kernel_rfl
theorem c44 : Tryz.prog.cellsOf 44 = 4 := by kernel_rfl
theorem c46 : Tryz.prog.cellsOf 46 = 27 := by kernel_rfl
theorem o3 : Opens enc Tryz.prog W held 3 [.i] := opens_int Tryz.underlying3
theorem o4 : Opens enc Tryz.prog W held 4 [.b] := opens_bool Tryz.underlying4
theorem o36 : Opens enc Tryz.prog W held 36 [.i] := opens_int Tryz.underlying36
theorem o23 : Opens enc Tryz.prog W held 23 [.i, .i] := opens_struct (kss := [[.i], [.i]]) Tryz.underlying23 rfl c23 (.cons o3 c3 rfl (.cons o3 c3 rfl (.nil _)))
theorem o25 : Opens enc Tryz.prog W held 25 [.i, .i, .i, .i] := opens_struct (kss := [[.i], [.i, .i], [.i]]) Tryz.underlying25 rfl c25 (.cons o3 c3 rfl (.cons o23 c23 rfl (.cons o3 c3 rfl (.nil _))))
theorem o27 : Opens enc Tryz.prog W held 27 [.i, .i, .i, .i, .i, .i, .i, .i, .i, .i] := opens_struct (kss := [[.i], [.i], [.i, .i, .i, .i], [.i, .i, .i, .i]]) Tryz.underlying27 rfl c27 (.cons o3 c3 rfl (.cons o3 c3 rfl (.cons o25 c25 rfl (.cons o25 c25 rfl (.nil _)))))
theorem o29 : Opens enc Tryz.prog W held 29 [.i, .i, .i, .i, .i, .b] := opens_struct (kss := [[.i], [.i], [.i], [.i, .i], [.b]]) Tryz.underlying29 rfl c29 (.cons o3 c3 rfl (.cons o3 c3 rfl (.cons o3 c3 rfl (.cons o23 c23 rfl (.cons o4 c4 rfl (.nil _))))))
theorem o31 : Opens enc Tryz.prog W held 31 Am.ks19 := opens_struct (kss := [[.i], [.i, .i, .i, .i, .i, .i, .i, .i, .i, .i], [.i, .i, .i, .i, .i, .b], [.i], [.i]]) Tryz.underlying31 rfl c31 (.cons o3 c3 rfl (.cons o27 c27 rfl (.cons o29 c29 rfl (.cons o3 c3 rfl (.cons o3 c3 rfl (.nil _))))))
theorem o33 : Opens enc Tryz.prog W held 33 (.i :: .i :: Am.ks19) := opens_struct (kss := [[.i], [.i], Am.ks19]) Tryz.underlying33 rfl c33 (.cons o3 c3 rfl (.cons o3 c3 rfl (.cons o31 c31 rfl (.nil _))))
theorem o35 : Opens enc Tryz.prog W held 35 Am.ks25 := opens_struct (kss := [[.i], [.i], [.i], [.i], .i :: .i :: Am.ks19]) Tryz.underlying35 rfl c35 (.cons o3 c3 rfl (.cons o3 c3 rfl (.cons o3 c3 rfl (.cons o3 c3 rfl (.cons o33 c33 rfl (.nil _))))))
theorem o44 : Opens enc Tryz.prog W held 44 [.i, .i, .i, .i] := opens_struct (kss := [[.i], [.i], [.i], [.i]]) Tryz.underlying44 rfl c44 (.cons o36 c36 rfl (.cons o3 c3 rfl (.cons o3 c3 rfl (.cons o3 c3 rfl (.nil _)))))
theorem o46 : Opens enc Tryz.prog W held 46 Am.ks27 := opens_struct (kss := [[.i], [.i], .i :: .i :: Am.ks19, [.i, .i, .i, .i]]) Tryz.underlying46 rfl c46 (.cons o3 c3 rfl (.cons o3 c3 rfl (.cons o33 c33 rfl (.cons o44 c44 rfl (.nil _)))))
set_option maxRecDepth 100000 in
theorem open_step {base : Nat} {v : Value} {d : DataW H} {ps : List MemPlace} (hv : Value.okWide Tryz.prog W .any base 35 v) (h : DataW.Trod enc Tryz.prog W 0 (fun _ => true) held 35 v d ps) :
    ∃ (s : Am.Sp) (cs : Array Value), v = .agg cs ∧ s.Ok ∧ Am.SRs (fun _ => none) s.cells cs.toList := by
  obtain ⟨cs, rfl, _⟩ := okWide_struct Tryz.underlying35 hv
  obtain ⟨fuel, hf⟩ := h
  obtain ⟨vs, h1, h2⟩ := o35 _ _ _ hf
  obtain ⟨s, rfl, hs⟩ := Am.fit_step h1
  exact ⟨s, cs, rfl, hs, h2⟩
set_option maxRecDepth 100000 in
theorem open_event {base : Nat} {v : Value} {d : DataW H} {ps : List MemPlace} (hv : Value.okWide Tryz.prog W .any base 46 v) (h : DataW.Trod enc Tryz.prog W 0 (fun _ => true) held 46 v d ps) :
    ∃ (e : Am.Ev) (cs : Array Value), v = .agg cs ∧ e.Ok ∧ Am.SRs (fun _ => none) e.cells cs.toList := by
  obtain ⟨cs, rfl, _⟩ := okWide_struct Tryz.underlying46 hv
  obtain ⟨fuel, hf⟩ := h
  obtain ⟨vs, h1, h2⟩ := o46 _ _ _ hf
  obtain ⟨e, rfl, he⟩ := Am.fit_event h1
  exact ⟨e, cs, rfl, he, h2⟩
end
end Go.Proofs.YtdolmkdbpnlegaaGreatDoor
