/-
  The store, as conditions over the evaluator. Conditions: none.
-/
import Derived.Test.YtkgjghlklniaeaaC3
namespace Go.Am
section
variable {tab : Nat → Option PFn} {σ σ' : S} {Q : AVal → S → Prop} {b c : Bool} {o1 : Option AVal} {o2 : AVal → Option AVal} {o3 : AVal → AVal → Option AVal} {o4 : AVal → AVal → AVal → Option AVal}
  {o5 : AVal → AVal → AVal → AVal → Option AVal} {o6 : AVal → AVal → AVal → AVal → AVal → Option AVal} {o7 : AVal → AVal → AVal → AVal → AVal → AVal → Option AVal} {a1 a2 a3 a4 a5 a6 : AVal}
theorem or2 {K : AVal → AVal → AVal → Prop} (h1 : b = false → o1 = some a1) (h2 : b = false → o2 a1 = some (.bool c)) (hK : ∀ t1 t2, K t1 t2 (.bool (b || c))) :
    Som (gq1 (isB (.bool b) false) o1) fun t1 => Som (gq1 (isB (.bool b) false) (o2 t1)) fun t2 => Som (vPick (.bool b) (.bool true) t2) fun t => K t1 t2 t := by
  cases b with
  | false => exact Sq_of rfl (h1 rfl) (Sq_of rfl (h2 rfl) (Som_of (v := .bool c) rfl (hK _ _)))
  | true => exact Sn_of rfl (Sn_of rfl (Som_of (v := .bool true) rfl (hK _ _)))
theorem orr3 {K : AVal → AVal → AVal → AVal → Prop} (h1 : b = false → o1 = some a1) (h2 : b = false → o2 a1 = some a2) (h3 : b = false → o3 a1 a2 = some (.bool c)) (hK : ∀ t1 t2 t3, K t1 t2 t3 (.bool (b || c))) :
    Som (gq1 (isB (.bool b) false) o1) fun t1 => Som (gq1 (isB (.bool b) false) (o2 t1)) fun t2 => Som (gq1 (isB (.bool b) false) (o3 t1 t2)) fun t3 => Som (vPick (.bool b) (.bool true) t3) fun t => K t1 t2 t3 t := by
  cases b with
  | false => exact Sq_of rfl (h1 rfl) (Sq_of rfl (h2 rfl) (Sq_of rfl (h3 rfl) (Som_of (v := .bool c) rfl (hK _ _ _))))
  | true => exact Sn_of rfl (Sn_of rfl (Sn_of rfl (Som_of (v := .bool true) rfl (hK _ _ _))))
theorem or4 {K : AVal → AVal → AVal → AVal → AVal → Prop} (h1 : b = false → o1 = some a1) (h2 : b = false → o2 a1 = some a2) (h3 : b = false → o3 a1 a2 = some a3) (h4 : b = false → o4 a1 a2 a3 = some (.bool c)) (hK : ∀ t1 t2 t3 t4, K t1 t2 t3 t4 (.bool (b || c))) :
    Som (gq1 (isB (.bool b) false) o1) fun t1 => Som (gq1 (isB (.bool b) false) (o2 t1)) fun t2 => Som (gq1 (isB (.bool b) false) (o3 t1 t2)) fun t3 => Som (gq1 (isB (.bool b) false) (o4 t1 t2 t3)) fun t4 => Som (vPick (.bool b) (.bool true) t4) fun t => K t1 t2 t3 t4 t := by
  cases b with
  | false => exact Sq_of rfl (h1 rfl) (Sq_of rfl (h2 rfl) (Sq_of rfl (h3 rfl) (Sq_of rfl (h4 rfl) (Som_of (v := .bool c) rfl (hK _ _ _ _)))))
  | true => exact Sn_of rfl (Sn_of rfl (Sn_of rfl (Sn_of rfl (Som_of (v := .bool true) rfl (hK _ _ _ _)))))
theorem or5 {K : AVal → AVal → AVal → AVal → AVal → AVal → Prop} (h1 : b = false → o1 = some a1) (h2 : b = false → o2 a1 = some a2) (h3 : b = false → o3 a1 a2 = some a3) (h4 : b = false → o4 a1 a2 a3 = some a4) (h5 : b = false → o5 a1 a2 a3 a4 = some (.bool c)) (hK : ∀ t1 t2 t3 t4 t5, K t1 t2 t3 t4 t5 (.bool (b || c))) :
    Som (gq1 (isB (.bool b) false) o1) fun t1 => Som (gq1 (isB (.bool b) false) (o2 t1)) fun t2 => Som (gq1 (isB (.bool b) false) (o3 t1 t2)) fun t3 => Som (gq1 (isB (.bool b) false) (o4 t1 t2 t3)) fun t4 => Som (gq1 (isB (.bool b) false) (o5 t1 t2 t3 t4)) fun t5 =>
      Som (vPick (.bool b) (.bool true) t5) fun t => K t1 t2 t3 t4 t5 t := by
  cases b with
  | false => exact Sq_of rfl (h1 rfl) (Sq_of rfl (h2 rfl) (Sq_of rfl (h3 rfl) (Sq_of rfl (h4 rfl) (Sq_of rfl (h5 rfl) (Som_of (v := .bool c) rfl (hK _ _ _ _ _))))))
  | true => exact Sn_of rfl (Sn_of rfl (Sn_of rfl (Sn_of rfl (Sn_of rfl (Som_of (v := .bool true) rfl (hK _ _ _ _ _))))))
theorem or7 {K : AVal → AVal → AVal → AVal → AVal → AVal → AVal → AVal → Prop} (h1 : b = false → o1 = some a1) (h2 : b = false → o2 a1 = some a2) (h3 : b = false → o3 a1 a2 = some a3) (h4 : b = false → o4 a1 a2 a3 = some a4) (h5 : b = false → o5 a1 a2 a3 a4 = some a5)
    (h6 : b = false → o6 a1 a2 a3 a4 a5 = some a6) (h7 : b = false → o7 a1 a2 a3 a4 a5 a6 = some (.bool c)) (hK : ∀ t1 t2 t3 t4 t5 t6 t7, K t1 t2 t3 t4 t5 t6 t7 (.bool (b || c))) :
    Som (gq1 (isB (.bool b) false) o1) fun t1 => Som (gq1 (isB (.bool b) false) (o2 t1)) fun t2 => Som (gq1 (isB (.bool b) false) (o3 t1 t2)) fun t3 => Som (gq1 (isB (.bool b) false) (o4 t1 t2 t3)) fun t4 => Som (gq1 (isB (.bool b) false) (o5 t1 t2 t3 t4)) fun t5 =>
      Som (gq1 (isB (.bool b) false) (o6 t1 t2 t3 t4 t5)) fun t6 => Som (gq1 (isB (.bool b) false) (o7 t1 t2 t3 t4 t5 t6)) fun t7 => Som (vPick (.bool b) (.bool true) t7) fun t => K t1 t2 t3 t4 t5 t6 t7 t := by
  cases b with
  | false => exact Sq_of rfl (h1 rfl) (Sq_of rfl (h2 rfl) (Sq_of rfl (h3 rfl) (Sq_of rfl (h4 rfl) (Sq_of rfl (h5 rfl) (Sq_of rfl (h6 rfl) (Sq_of rfl (h7 rfl) (Som_of (v := .bool c) rfl (hK _ _ _ _ _ _ _))))))))
  | true => exact Sn_of rfl (Sn_of rfl (Sn_of rfl (Sn_of rfl (Sn_of rfl (Sn_of rfl (Sn_of rfl (Som_of (v := .bool true) rfl (hK _ _ _ _ _ _ _))))))))
theorem or_and {c' : Bool} {o1' : Option AVal} {o2' : AVal → Option AVal} {o3' : AVal → AVal → Option AVal} {a1' a2' : AVal} {K : AVal → AVal → AVal → AVal → AVal → AVal → AVal → AVal → AVal → Prop} (h1 : b = false → o1 = some a1) (h2 : b = false → o2 a1 = some a2) (h3 : b = false → o3 a1 a2 = some (.bool c))
    (g1 : b = false → c = true → o1' = some a1') (g2 : b = false → c = true → o2' a1' = some a2') (g3 : b = false → c = true → o3' a1' a2' = some (.bool c')) (hK : ∀ t1 t2 t3 t4 t5 t6 t7 t8, K t1 t2 t3 t4 t5 t6 t7 t8 (.bool (b || c && c'))) :
    Som (gq1 (isB (.bool b) false) o1) fun t1 => Som (gq1 (isB (.bool b) false) (o2 t1)) fun t2 => Som (gq1 (isB (.bool b) false) (o3 t1 t2)) fun t3 => Som (gq1 (isB (.bool b) false) (some t3)) fun t4 => Som (gq1 (isB t4 true) o1') fun t5 => Som (gq1 (isB t4 true) (o2' t5)) fun t6 => Som (gq1 (isB t4 true) (o3' t5 t6)) fun t7 =>
      Som (gq1 (isB (.bool b) false) (vPick t4 t7 (.bool false))) fun t8 => Som (vPick (.bool b) (.bool true) t8) fun t => K t1 t2 t3 t4 t5 t6 t7 t8 t := by
  cases b with
  | false =>
    refine Sq_of rfl (h1 rfl) (Sq_of rfl (h2 rfl) (Sq_of rfl (h3 rfl) (Sq_of rfl rfl ?_)))
    cases c with
    | true => exact Sq_of rfl (g1 rfl rfl) (Sq_of rfl (g2 rfl rfl) (Sq_of rfl (g3 rfl rfl) (Sq_of (v := .bool c') rfl rfl (Som_of (v := .bool c') rfl (hK _ _ _ _ _ _ _ _)))))
    | false => exact Sn_of rfl (Sn_of rfl (Sn_of rfl (Sq_of (v := .bool false) rfl rfl (Som_of (v := .bool false) rfl (hK _ _ _ _ _ _ _ _)))))
  | true => exact Sn_of rfl (Sn_of rfl (Sn_of rfl (Sn_of rfl (Sn_of rfl (Sn_of rfl (Sn_of rfl (Sn_of rfl (Som_of (v := .bool true) rfl (hK _ _ _ _ _ _ _ _)))))))))
theorem and_or {c' : Bool} {o1' : Option AVal} {o2' : AVal → Option AVal} {o3' : AVal → AVal → Option AVal} {a1' a2' : AVal} {K : AVal → AVal → AVal → AVal → AVal → AVal → AVal → AVal → AVal → Prop} (h1 : b = true → o1 = some a1) (h2 : b = true → o2 a1 = some a2) (h3 : b = true → o3 a1 a2 = some (.bool c))
    (g1 : b = true → c = false → o1' = some a1') (g2 : b = true → c = false → o2' a1' = some a2') (g3 : b = true → c = false → o3' a1' a2' = some (.bool c')) (hK : ∀ t1 t2 t3 t4 t5 t6 t7 t8, K t1 t2 t3 t4 t5 t6 t7 t8 (.bool (b && (c || c')))) :
    Som (gq1 (isB (.bool b) true) o1) fun t1 => Som (gq1 (isB (.bool b) true) (o2 t1)) fun t2 => Som (gq1 (isB (.bool b) true) (o3 t1 t2)) fun t3 => Som (gq1 (isB (.bool b) true) (some t3)) fun t4 => Som (gq1 (isB t4 false) o1') fun t5 => Som (gq1 (isB t4 false) (o2' t5)) fun t6 => Som (gq1 (isB t4 false) (o3' t5 t6)) fun t7 =>
      Som (gq1 (isB (.bool b) true) (vPick t4 (.bool true) t7)) fun t8 => Som (vPick (.bool b) t8 (.bool false)) fun t => K t1 t2 t3 t4 t5 t6 t7 t8 t := by
  cases b with
  | true =>
    refine Sq_of rfl (h1 rfl) (Sq_of rfl (h2 rfl) (Sq_of rfl (h3 rfl) (Sq_of rfl rfl ?_)))
    cases c with
    | false => exact Sq_of rfl (g1 rfl rfl) (Sq_of rfl (g2 rfl rfl) (Sq_of rfl (g3 rfl rfl) (Sq_of (v := .bool c') rfl rfl (Som_of (v := .bool c') rfl (hK _ _ _ _ _ _ _ _)))))
    | true => exact Sn_of rfl (Sn_of rfl (Sn_of rfl (Sq_of (v := .bool true) rfl rfl (Som_of (v := .bool true) rfl (hK _ _ _ _ _ _ _ _)))))
  | false => exact Sn_of rfl (Sn_of rfl (Sn_of rfl (Sn_of rfl (Sn_of rfl (Sn_of rfl (Sn_of rfl (Sn_of rfl (Som_of (v := .bool false) rfl (hK _ _ _ _ _ _ _ _)))))))))
theorem and2 {K : AVal → AVal → AVal → Prop} (h1 : b = true → o1 = some a1) (h2 : b = true → o2 a1 = some (.bool c)) (hK : ∀ t1 t2, K t1 t2 (.bool (b && c))) :
    Som (gq1 (isB (.bool b) true) o1) fun t1 => Som (gq1 (isB (.bool b) true) (o2 t1)) fun t2 => Som (vPick (.bool b) t2 (.bool false)) fun t => K t1 t2 t := by
  cases b with
  | true => exact Sq_of rfl (h1 rfl) (Sq_of rfl (h2 rfl) (Som_of (v := .bool c) rfl (hK _ _)))
  | false => exact Sn_of rfl (Sn_of rfl (Som_of (v := .bool false) rfl (hK _ _)))
theorem andd3 {K : AVal → AVal → AVal → AVal → Prop} (h1 : b = true → o1 = some a1) (h2 : b = true → o2 a1 = some a2) (h3 : b = true → o3 a1 a2 = some (.bool c)) (hK : ∀ t1 t2 t3, K t1 t2 t3 (.bool (b && c))) :
    Som (gq1 (isB (.bool b) true) o1) fun t1 => Som (gq1 (isB (.bool b) true) (o2 t1)) fun t2 => Som (gq1 (isB (.bool b) true) (o3 t1 t2)) fun t3 => Som (vPick (.bool b) t3 (.bool false)) fun t => K t1 t2 t3 t := by
  cases b with
  | true => exact Sq_of rfl (h1 rfl) (Sq_of rfl (h2 rfl) (Sq_of rfl (h3 rfl) (Som_of (v := .bool c) rfl (hK _ _ _))))
  | false => exact Sn_of rfl (Sn_of rfl (Sn_of rfl (Som_of (v := .bool false) rfl (hK _ _ _))))
theorem and4 {K : AVal → AVal → AVal → AVal → AVal → Prop} (h1 : b = true → o1 = some a1) (h2 : b = true → o2 a1 = some a2) (h3 : b = true → o3 a1 a2 = some a3) (h4 : b = true → o4 a1 a2 a3 = some (.bool c)) (hK : ∀ t1 t2 t3 t4, K t1 t2 t3 t4 (.bool (b && c))) :
    Som (gq1 (isB (.bool b) true) o1) fun t1 => Som (gq1 (isB (.bool b) true) (o2 t1)) fun t2 => Som (gq1 (isB (.bool b) true) (o3 t1 t2)) fun t3 => Som (gq1 (isB (.bool b) true) (o4 t1 t2 t3)) fun t4 => Som (vPick (.bool b) t4 (.bool false)) fun t => K t1 t2 t3 t4 t := by
  cases b with
  | true => exact Sq_of rfl (h1 rfl) (Sq_of rfl (h2 rfl) (Sq_of rfl (h3 rfl) (Sq_of rfl (h4 rfl) (Som_of (v := .bool c) rfl (hK _ _ _ _)))))
  | false => exact Sn_of rfl (Sn_of rfl (Sn_of rfl (Sn_of rfl (Som_of (v := .bool false) rfl (hK _ _ _ _)))))
theorem and5 {K : AVal → AVal → AVal → AVal → AVal → AVal → Prop} (h1 : b = true → o1 = some a1) (h2 : b = true → o2 a1 = some a2) (h3 : b = true → o3 a1 a2 = some a3) (h4 : b = true → o4 a1 a2 a3 = some a4) (h5 : b = true → o5 a1 a2 a3 a4 = some (.bool c)) (hK : ∀ t1 t2 t3 t4 t5, K t1 t2 t3 t4 t5 (.bool (b && c))) :
    Som (gq1 (isB (.bool b) true) o1) fun t1 => Som (gq1 (isB (.bool b) true) (o2 t1)) fun t2 => Som (gq1 (isB (.bool b) true) (o3 t1 t2)) fun t3 => Som (gq1 (isB (.bool b) true) (o4 t1 t2 t3)) fun t4 => Som (gq1 (isB (.bool b) true) (o5 t1 t2 t3 t4)) fun t5 => Som (vPick (.bool b) t5 (.bool false)) fun t => K t1 t2 t3 t4 t5 t := by
  cases b with
  | true => exact Sq_of rfl (h1 rfl) (Sq_of rfl (h2 rfl) (Sq_of rfl (h3 rfl) (Sq_of rfl (h4 rfl) (Sq_of rfl (h5 rfl) (Som_of (v := .bool c) rfl (hK _ _ _ _ _))))))
  | false => exact Sn_of rfl (Sn_of rfl (Sn_of rfl (Sn_of rfl (Sn_of rfl (Som_of (v := .bool false) rfl (hK _ _ _ _ _))))))
theorem and6 {K : AVal → AVal → AVal → AVal → AVal → AVal → AVal → Prop} (h1 : b = true → o1 = some a1) (h2 : b = true → o2 a1 = some a2) (h3 : b = true → o3 a1 a2 = some a3) (h4 : b = true → o4 a1 a2 a3 = some a4) (h5 : b = true → o5 a1 a2 a3 a4 = some a5) (h6 : b = true → o6 a1 a2 a3 a4 a5 = some (.bool c)) (hK : ∀ t1 t2 t3 t4 t5 t6, K t1 t2 t3 t4 t5 t6 (.bool (b && c))) :
    Som (gq1 (isB (.bool b) true) o1) fun t1 => Som (gq1 (isB (.bool b) true) (o2 t1)) fun t2 => Som (gq1 (isB (.bool b) true) (o3 t1 t2)) fun t3 => Som (gq1 (isB (.bool b) true) (o4 t1 t2 t3)) fun t4 => Som (gq1 (isB (.bool b) true) (o5 t1 t2 t3 t4)) fun t5 => Som (gq1 (isB (.bool b) true) (o6 t1 t2 t3 t4 t5)) fun t6 => Som (vPick (.bool b) t6 (.bool false)) fun t => K t1 t2 t3 t4 t5 t6 t := by
  cases b with
  | true => exact Sq_of rfl (h1 rfl) (Sq_of rfl (h2 rfl) (Sq_of rfl (h3 rfl) (Sq_of rfl (h4 rfl) (Sq_of rfl (h5 rfl) (Sq_of rfl (h6 rfl) (Som_of (v := .bool c) rfl (hK _ _ _ _ _ _)))))))
  | false => exact Sn_of rfl (Sn_of rfl (Sn_of rfl (Sn_of rfl (Sn_of rfl (Sn_of rfl (Som_of (v := .bool false) rfl (hK _ _ _ _ _ _)))))))
def ents : List (Int × List Nat) → List AVal
  | [] => []
  | e :: l => .int .i64 e.1 :: .str e.2 :: ents l
theorem ents_len (l : List (Int × List Nat)) : (ents l).length = l.length * 2 := by
  induction l with
  | nil => rfl
  | cons e l ih => show (ents l).length + 1 + 1 = (l.length + 1) * 2; omega
theorem ents_app (l k : List (Int × List Nat)) : ents (l ++ k) = ents l ++ ents k := by
  induction l with
  | nil => rfl
  | cons e l ih => show _ :: _ :: ents (l ++ k) = _; rw [ih]; rfl
theorem ents_take (n : Nat) (l : List (Int × List Nat)) : (ents l).take (n * 2) = ents (l.take n) := by
  induction l generalizing n with
  | nil => cases n <;> simp [ents]
  | cons e l ih =>
    cases n with
    | zero => simp [ents]
    | succ n =>
      rw [show (n + 1) * 2 = n * 2 + 1 + 1 by omega]
      show (_ :: _ :: ents l).take (n * 2 + 1 + 1) = _ :: _ :: ents (l.take n)
      rw [List.take_succ_cons, List.take_succ_cons, ih]
theorem ents_drop (n : Nat) (l : List (Int × List Nat)) : (ents l).drop (n * 2) = ents (l.drop n) := by
  induction l generalizing n with
  | nil => cases n <;> simp [ents]
  | cons e l ih =>
    cases n with
    | zero => simp
    | succ n =>
      rw [show (n + 1) * 2 = n * 2 + 1 + 1 by omega]
      show (_ :: _ :: ents l).drop (n * 2 + 1 + 1) = ents (l.drop n)
      rw [List.drop_succ_cons, List.drop_succ_cons, ih]
theorem ents_at {l : List (Int × List Nat)} {k : Nat} {e : Int × List Nat} (h : l[k]? = some e) : (ents l)[k * 2]? = some (.int .i64 e.1) ∧ (ents l)[k * 2 + 1]? = some (.str e.2) := by
  induction l generalizing k with
  | nil => simp at h
  | cons x l ih =>
    cases k with
    | zero => simp at h; subst h; exact ⟨rfl, rfl⟩
    | succ k =>
      rw [List.getElem?_cons_succ] at h
      obtain ⟨h1, h2⟩ := ih h
      rw [show (k + 1) * 2 = k * 2 + 1 + 1 by omega]
      exact ⟨h1, h2⟩
abbrev EnAt (σ : S) (v : AVal) (l : List (Int × List Nat)) (m : Nat) : Prop := SlAt σ v 2 l.length (ents l) m
theorem EnAt.at {v : AVal} {l : List (Int × List Nat)} {m k : Nat} {e : Int × List Nat} (h : EnAt σ v l m) (hk : l[k]? = some e) :
    ∃ p o, vIxSl 2 v (.int .i64 (k : Int)) = some (.ptr p o) ∧ vLoadN 2 (.ptr p o) σ = some (.agg [.int .i64 e.1, .str e.2]) ∧ vLoad1 (.ptr p (o + 0)) σ = some (.int .i64 e.1) ∧ vLoad1 (.ptr p (o + 1)) σ = some (.str e.2) := by
  have hlt : k < l.length := (List.getElem?_eq_some_iff.1 hk).1
  obtain ⟨p, o, blk, h1, h2, _, h4⟩ := SlAt.at h hlt (by omega)
  obtain ⟨e1, e2⟩ := ents_at hk
  have g0 := h4 0 (by omega); have g1 := h4 1 (by omega)
  rw [Nat.add_zero] at g0
  rw [show k * 2 + 0 = k * 2 from rfl, e1] at g0
  rw [e2] at g1
  refine ⟨p, o + k * 2, h1, ?_, by rw [load1_of h2]; exact g0, by rw [load1_of h2]; exact g1⟩
  obtain ⟨x, kd, cs⟩ := blk
  have hl1 : o + k * 2 + 1 < cs.length := (List.getElem?_eq_some_iff.1 g1).1
  refine ldN h2 (by show o + k * 2 + 2 ≤ cs.length; omega) ?_
  show (cs.drop (o + k * 2)).take 2 = _
  rw [List.drop_eq_getElem_cons (by omega), List.drop_eq_getElem_cons (by omega)]
  have q0 := (List.getElem?_eq_some_iff.1 g0).2
  have q1 := (List.getElem?_eq_some_iff.1 g1).2
  show [cs[o + k * 2], cs[o + k * 2 + 1]] = _
  rw [q0, q1]
theorem EnAt.keep0 {v : AVal} {l : List (Int × List Nat)} {m : Nat} (h : EnAt σ v l m) (k : Keep0 σ σ') : EnAt σ' v l m := SlAt.keep (M := fun _ => False) h (fun _ h => h) k
structure Hd where
  term : Int
  vote : Int
  base : Int
  bterm : Int
  snap : List Nat
  log : List (Int × List Nat)
def Hd.cells (h : Hd) (lv : AVal) : List AVal := [.int .i64 h.term, .int .i64 h.vote, .int .i64 h.base, .int .i64 h.bterm, .str h.snap, lv]
abbrev Hd.val (h : Hd) (lv : AVal) : AVal := .agg (h.cells lv)
def Rise (T : Int) : Int → List (Int × List Nat) → Prop
  | _, [] => True
  | t, e :: l => t ≤ e.1 ∧ e.1 ≤ T ∧ e.2.length ≤ 16184 ∧ Rise T e.1 l
structure Hd.Right (h : Hd) : Prop where
  t0 : 0 ≤ h.term
  t1 : h.term ≤ 1099511627776
  v0 : -1 ≤ h.vote
  v1 : h.vote < 7
  b0 : 0 ≤ h.base
  b1 : h.base ≤ 1099511627776 - h.log.length
  c0 : 0 ≤ h.bterm
  c1 : h.bterm ≤ h.term
  s : h.snap.length ≤ 16284
  z : h.base = 0 ↔ h.bterm = 0
  e : h.base = 0 → h.snap = []
  r : Rise h.term (max h.bterm 1) h.log
theorem boxH (ho : Ok σ) (h : Hd) (lv : AVal) : aBoxV (h.val lv) = some (⟨0, .ex, h.cells lv⟩, fun p => .ptr p 0) ∧ Keep0 σ (σ.new ⟨0, .ex, h.cells lv⟩) ∧ (σ.new ⟨0, .ex, h.cells lv⟩).blk σ.next = some ⟨0, .ex, h.cells lv⟩ ∧ (σ.new ⟨0, .ex, h.cells lv⟩).next.nat = σ.next.nat + 1 :=
  ⟨rfl, Keep.new ho _, by rw [blk_new, if_pos rfl]; rfl, new_next _⟩
theorem boxC (ho : Ok σ) (cs : List AVal) : Keep0 σ (σ.new ⟨0, .ex, cs⟩) ∧ (σ.new ⟨0, .ex, cs⟩).blk σ.next = some ⟨0, .ex, cs⟩ ∧ (σ.new ⟨0, .ex, cs⟩).next.nat = σ.next.nat + 1 :=
  ⟨Keep.new ho _, by rw [blk_new, if_pos rfl]; rfl, new_next _⟩
theorem same_pp (p : Pos) (o : Nat) : same (.ptr p o) (.ptr p o) = true := by
  show (match p.beq p with | true => Nat.beq o o | false => false) = true
  rw [Pos.beq_refl, Nat.beq_refl]
theorem same_ss (s : List Nat) : same (.str s) (.str s) = true := seq_iff.2 rfl
theorem bin_add_str (tk : TK) {a b : List Nat} (h : a.length + b.length ≤ 1099511627776) : binA .add tk (.str a) (.str b) = some (.str (a ++ b)) := by
  show addS a b = _
  unfold addS
  rw [lenS_eq, lenS_eq, show Nat.add a.length b.length = a.length + b.length from rfl, Nat.ble_eq_true_of_le h]
  show forceNats (a ++ b) (fun s => some (AVal.str s)) = _
  rw [forceNats_eq]
theorem bin_neq_bool (a b : Bool) : binA .neq .bool (.bool a) (.bool b) = some (.bool (a != b)) := by
  show andThen (some (notB (beqB a b))) outB = _
  rw [andThen_s, outB_eq, beqB_eq, notB_eq]; rfl
theorem maxA_i (a b : Int) : maxA (.int .i64 a) [.int .i64 b] = some (.int .i64 (max a b)) := by
  show (match ilt a b with | true => maxA (AVal.int .i64 b) [] | false => maxA (AVal.int .i64 a) []) = _
  rw [ilt_eq]
  by_cases h : a < b
  · rw [decide_eq_true h]
    show some (AVal.int .i64 b) = _
    rw [Int.max_eq_right (by omega)]
  · rw [decide_eq_false h]
    show some (AVal.int .i64 a) = _
    rw [Int.max_eq_left (by omega)]
theorem rising_loop (ht : Tab tab) {h : Hd} {lv : AVal} {t1 : Pos} {ml : Nat} (n : Nat) : ∀ (E : En) (σ : S) (i : Nat) (last : Int), Ok σ → σ.blk t1 = some ⟨0, .ex, h.cells lv⟩ → EnAt σ lv h.log ml → h.log.length < 4611686018427387904 → i + n = h.log.length → E 1 = .ptr t1 0 → E 3 = .int .i64 last → E 10 = lv → E 11 = .int .i64 (h.log.length : Int) → E 12 = .int .i64 (i : Int) →
    (∀ b σ', (b = true → Rise h.term last (h.log.drop i)) → Keep0 σ σ' → Q (.bool b) σ') → f88.L0 (WF tab) Q E σ := by
  induction n with
  | zero =>
    intro E σ i last ho hb hl hlen hi e1 e3 e10 e11 e12 hQ
    refine f88.p0_of ?_
    unfold f88.p0
    rw [e11, e12]
    refine Som_of (bin_lss _ _ _ _) (WIf_f (by omega) ?_)
    rw [Ret_1 rfl]
    refine hQ true σ (fun _ => ?_) (Keep.refl ho)
    rw [List.drop_of_length_le (by omega)]; exact trivial
  | succ n ih =>
    intro E σ i last ho hb hl hlen hi e1 e3 e10 e11 e12 hQ
    refine f88.p0_of ?_
    unfold f88.p0
    rw [e1, e3, e10, e11, e12]
    refine Som_of (bin_lss _ _ _ _) (WIf_t (by omega) ?_)
    have hx : i < h.log.length := by omega
    have hg : h.log[i]? = some h.log[i] := List.getElem?_eq_getElem hx
    generalize h.log[i] = e at hg
    obtain ⟨p, o, h1, h2, _, _⟩ := hl.at hg
    refine Som_of h1 (Som_of h2 ?_)
    obtain ⟨k1, b1, n1⟩ := boxC ho [.int .i64 0, .str []]
    refine Ala_of (show aAllocV [.int .i64 0, .str []] = some (⟨0, .ex, [.int .i64 0, .str []]⟩, fun p => .ptr p 0) from rfl) ?_
    have hlt := ho.lt hb
    generalize ht5 : σ.next = t5 at *
    generalize σ.new ⟨0, .ex, [.int .i64 0, .str []]⟩ = σ1 at *
    refine Eff_of (storeN_of (xs := [.int .i64 e.1, .str e.2]) b1 rfl (by omega) (by simp)) ?_
    have e5 : ([AVal.int .i64 0, .str []].take 0 ++ [.int .i64 e.1, .str e.2] ++ [AVal.int .i64 0, .str []].drop (0 + 2)) = [.int .i64 e.1, .str e.2] := rfl
    rw [e5]
    have k2 : Keep (fun x => x = t5.nat) σ1 (σ1.upd t5 ⟨0, .ex, [.int .i64 e.1, .str e.2]⟩) := Keep.upd k1.ok b1 rfl
    have b2 : (σ1.upd t5 ⟨0, .ex, [.int .i64 e.1, .str e.2]⟩).blk t5 = some ⟨0, .ex, [.int .i64 e.1, .str e.2]⟩ := blk_upd_same _ _
    generalize σ1.upd t5 ⟨0, .ex, [.int .i64 e.1, .str e.2]⟩ = σ2 at *
    have k02 : Keep0 σ σ2 := k1.then ho k2 fun x hx e => by rw [ht5] at hx; omega
    have hb2 := k02.old _ _ hb (fun h => h)
    refine Som_of (vField0 _ _ _) (Som_of (ld b2 rfl) (Som_of (bin_lss _ _ _ _) ?_))
    refine or5 (fun _ => vField0 _ _ _) (fun _ => ld b2 rfl) (fun _ => vField0 _ _ _) (fun _ => ld hb2 rfl) (fun _ => bin_gtr _ _ _ _) fun _ _ _ _ _ => ?_
    refine or4 (fun _ => vField0 _ _ _) (fun _ => ld b2 rfl) (fun _ => vLenStr_str _) (fun _ => bin_gtr _ _ _ _) fun _ _ _ _ => ?_
    refine WIf_bool (fun _ => ?_) (fun hf => ?_)
    · rw [Ret_1 rfl]
      exact hQ false σ2 (fun h => by cases h) k02
    · simp only [Bool.or_eq_false_iff, decide_eq_false_iff_not] at hf
      obtain ⟨⟨f1, f2⟩, f3⟩ := hf
      refine Som_of (vField0 _ _ _) (Som_of (ld b2 rfl) (Som_of (bin_add _ _ _ _) ?_))
      rw [wrap_i64_in (n := (i : Int) + 1) (by omega) (by omega)]
      refine ih _ σ2 (i + 1) e.1 k02.ok hb2 (hl.keep0 k02) hlen (by omega) (by simp [e1]) (by simp) (by simp [e10]) (by simp [e11]) (by simp) fun b σ' hbr k => hQ b σ' (fun hb => ?_) (k02.trans k)
      have hd : h.log.drop i = e :: h.log.drop (i + 1) := by
        rw [List.drop_eq_getElem_cons hx]
        rw [List.getElem?_eq_getElem hx] at hg
        injection hg with hg
        rw [hg]
      rw [hd]
      exact ⟨by omega, by omega, by omega, hbr hb⟩
theorem rising_c (ht : Tab tab) (ho : Ok σ) {h : Hd} {lv : AVal} {ml : Nat} (hl : EnAt σ lv h.log ml) (hlen : h.log.length < 4611686018427387904) (hQ : ∀ b σ', (b = true → Rise h.term (max h.bterm 1) h.log) → Keep0 σ σ' → Q (.bool b) σ') : WF tab 88 [h.val lv] σ Q := by
  refine f88_wf ht.t88 ?_
  unfold f88
  obtain ⟨h0, k1, b1, n1⟩ := boxH ho h lv
  refine Ala_of h0 ?_
  generalize σ.next = t1 at *
  generalize σ.new ⟨0, .ex, h.cells lv⟩ = σ1 at *
  have hl1 := hl.keep0 k1
  refine Som_of (vField0 _ _ _) (Som_of (ld b1 rfl) (Som_of (maxA_i _ _) (Som_of (vField0 _ _ _) (Som_of (ld b1 rfl) (Som_of hl1.len ?_)))))
  exact rising_loop ht h.log.length _ σ1 0 (max h.bterm 1) k1.ok b1 hl1 hlen (by omega) (by simp) (by simp) (by simp) (by simp) (by simp) fun b σ' hb k => hQ b σ' (fun e => by simpa using hb e) (k1.trans k)
theorem right_c (ht : Tab tab) (ho : Ok σ) {h : Hd} {lv : AVal} {ml : Nat} (hl : EnAt σ lv h.log ml) (hlen : h.log.length < 4611686018427387904) (hQ : ∀ b σ', (b = true → h.Right) → Keep0 σ σ' → Q (.bool b) σ') : WF tab 62 [h.val lv] σ Q := by
  refine f62_wf ht.t62 ?_
  unfold f62
  obtain ⟨h0, k1, b1, n1⟩ := boxH ho h lv
  refine Ala_of h0 ?_
  generalize σ.next = t1 at *
  generalize σ.new ⟨0, .ex, h.cells lv⟩ = σ1 at *
  have hl1 := hl.keep0 k1
  have no : Ret [some (.bool false)] σ1 Q := by
    rw [Ret_1 rfl]; exact hQ false σ1 (fun h => by cases h) k1
  refine Som_of (vField0 _ _ _) (Som_of (ld b1 rfl) (Som_of (bin_lss _ _ _ _) ?_))
  refine orr3 (fun _ => vField0 _ _ _) (fun _ => ld b1 rfl) (fun _ => bin_gtr _ _ _ _) fun _ _ _ => ?_
  refine orr3 (fun _ => vField0 _ _ _) (fun _ => ld b1 rfl) (fun _ => bin_lss _ _ _ _) fun _ _ _ => ?_
  refine orr3 (fun _ => vField0 _ _ _) (fun _ => ld b1 rfl) (fun _ => bin_geq _ _ _ _) fun _ _ _ => ?_
  refine WIf_bool (fun _ => no) (fun hf => ?_)
  simp only [Bool.or_eq_false_iff, decide_eq_false_iff_not] at hf
  obtain ⟨⟨⟨f1, f2⟩, f3⟩, f4⟩ := hf
  refine Som_of (vField0 _ _ _) (Som_of (ld b1 rfl) (Som_of (bin_lss _ _ _ _) ?_))
  refine or7 (a6 := .int .i64 (IntKind.i64.wrap ((1099511627776 : Int) - (h.log.length : Int)))) (fun _ => vField0 _ _ _) (fun _ => ld b1 rfl) (fun _ => vField0 _ _ _) (fun _ => ld b1 rfl) (fun _ => hl1.len) (fun _ => bin_sub _ _ _ _) (fun _ => bin_gtr _ _ _ _) fun _ _ _ _ _ _ _ => ?_
  refine orr3 (fun _ => vField0 _ _ _) (fun _ => ld b1 rfl) (fun _ => bin_lss _ _ _ _) fun _ _ _ => ?_
  refine or5 (fun _ => vField0 _ _ _) (fun _ => ld b1 rfl) (fun _ => vField0 _ _ _) (fun _ => ld b1 rfl) (fun _ => bin_gtr _ _ _ _) fun _ _ _ _ _ => ?_
  rw [wrap_i64_in (n := (1099511627776 : Int) - (h.log.length : Int)) (by omega) (by omega)]
  refine WIf_bool (fun _ => no) (fun hf => ?_)
  simp only [Bool.or_eq_false_iff, decide_eq_false_iff_not] at hf
  obtain ⟨⟨⟨f5, f6⟩, f7⟩, f8⟩ := hf
  refine Som_of (vField0 _ _ _) (Som_of (ld b1 rfl) (Som_of (vLenStr_str _) (Som_of (bin_gtr _ _ _ _) ?_)))
  refine or7 (fun _ => vField0 _ _ _) (fun _ => ld b1 rfl) (fun _ => bin_eql _ _ _ _) (fun _ => vField0 _ _ _) (fun _ => ld b1 rfl) (fun _ => bin_eql _ _ _ _) (fun _ => bin_neq_bool _ _) fun _ _ _ _ _ _ _ => ?_
  refine or_and (fun _ => vField0 _ _ _) (fun _ => ld b1 rfl) (fun _ => bin_eql _ _ _ _) (fun _ _ => vField0 _ _ _) (fun _ _ => ld b1 rfl) (fun _ _ => bin_neq_str _ _ _) fun _ _ _ _ _ _ _ _ => ?_
  refine WIf_bool (fun _ => no) (fun hf => ?_)
  simp only [Bool.or_eq_false_iff, Bool.and_eq_false_iff, decide_eq_false_iff_not] at hf
  obtain ⟨⟨f9, f10⟩, f11⟩ := hf
  refine Som_of (ldN (n := 6) (xs := h.cells lv) b1 (by simp [Hd.cells]) rfl) ?_
  refine rising_c ht k1.ok hl1 hlen fun b σ' hb k => ?_
  rw [Ret_1 rfl]
  refine hQ b σ' (fun e => ⟨by omega, by omega, by omega, by omega, by omega, by omega, by omega, by omega, by omega, ?_, fun hz => ?_, hb e⟩) (k1.trans k)
  · have f10 : (decide (h.base = 0) != decide (h.bterm = 0)) = false := f10
    by_cases x1 : h.base = 0 <;> by_cases x2 : h.bterm = 0 <;> simp [x1, x2] at f10 ⊢
  · rcases f11 with g | g
    · exact absurd hz g
    · exact Decidable.of_not_not g
theorem ref_loop (ht : Tab tab) {h : Hd} {lv : AVal} {t1 : Pos} {ml : Nat} (n : Nat) : ∀ (E : En) (σ : S) (i : Nat) (t : Int), Ok σ → σ.blk t1 = some ⟨0, .ex, h.cells lv⟩ → EnAt σ lv h.log ml → h.log.length < 4611686018427387904 → i + n = h.log.length → Rise h.term (max t 1) (h.log.drop i) → E 1 = .ptr t1 0 → E 3 = .int .i64 t → E 4 = .int .i64 (i : Int) →
    (∀ σ', Keep0 σ σ' → Q (.bool true) σ') → f31.L0 (WF tab) Q E σ := by
  induction n with
  | zero =>
    intro E σ i t ho hb hl hlen hi hr e1 e3 e4 hQ
    refine f31.p0_of ?_
    unfold f31.p0
    rw [e1, e4]
    refine Som_of (vField0 _ _ _) (Som_of (ld hb rfl) (Som_of hl.len (Som_of (bin_lss _ _ _ _) (WIf_f (by omega) ?_))))
    rw [Ret_1 rfl]
    exact hQ σ (Keep.refl ho)
  | succ n ih =>
    intro E σ i t ho hb hl hlen hi hr e1 e3 e4 hQ
    refine f31.p0_of ?_
    unfold f31.p0
    rw [e1, e3, e4]
    refine Som_of (vField0 _ _ _) (Som_of (ld hb rfl) (Som_of hl.len (Som_of (bin_lss _ _ _ _) (WIf_t (by omega) ?_))))
    have hx : i < h.log.length := by omega
    have hg : h.log[i]? = some h.log[i] := List.getElem?_eq_getElem hx
    rw [List.drop_eq_getElem_cons hx] at hr
    generalize h.log[i] = e at hg hr
    obtain ⟨r1, r2, r3, r4⟩ := hr
    have k1 : Keep0 σ (σ.bumpT 38) := Keep.bump ho 38
    have hb1 := k1.old _ _ hb (fun h => h)
    have hl1 := hl.keep0 k1
    generalize σ.bumpT 38 = σ1 at *
    obtain ⟨p, o, h1, h2, h3, h4⟩ := hl1.at hg
    refine Som_of (vField0 _ _ _) (Som_of (ld hb1 rfl) (Som_of h1 (Som_of (vField0 _ _ _) (Som_of h3 (Som_of (bin_lss _ _ _ _) ?_)))))
    rw [decide_eq_false (show ¬ e.1 < t by omega)]
    refine Sq_of rfl (vField0 _ _ _) (Sq_of rfl (ld hb1 rfl) (Sq_of rfl rfl (Sq_of rfl h1 (Sq_of rfl (vField0 _ _ _) (Sq_of rfl h3 (Sq_of rfl (bin_lss _ _ _ _) ?_))))))
    rw [decide_eq_false (show ¬ e.1 < 1 by omega)]
    refine Som_of (v := .bool false) rfl (Sq_of rfl (vField0 _ _ _) (Sq_of rfl (ld hb1 rfl) (Sq_of rfl rfl (Sq_of rfl h1 (Sq_of rfl (vField0 _ _ _) (Sq_of rfl h3 (Sq_of rfl (vField0 _ _ _) (Sq_of rfl (ld hb1 rfl) (Sq_of rfl (bin_gtr _ _ _ _) ?_)))))))))
    rw [decide_eq_false (show ¬ h.term < e.1 by omega)]
    refine Som_of (v := .bool false) rfl (Sq_of rfl (vField0 _ _ _) (Sq_of rfl (ld hb1 rfl) (Sq_of rfl rfl (Sq_of rfl h1 (Sq_of rfl (vField0 _ _ _) (Sq_of rfl h4 (Sq_of rfl (vLenStr_str _) (Sq_of rfl (bin_gtr _ _ _ _) ?_))))))))
    rw [decide_eq_false (show ¬ (16184 : Int) < (e.2.length : Int) by omega)]
    refine Som_of (v := .bool false) rfl ?_
    rw [WIf_false]
    refine Som_of (vField0 _ _ _) (Som_of (ld hb1 rfl) (Som_of h1 (Som_of (vField0 _ _ _) (Som_of h3 (Som_of (bin_add _ _ _ _) ?_)))))
    rw [wrap_i64_in (n := (i : Int) + 1) (by omega) (by omega)]
    refine ih _ σ1 (i + 1) e.1 k1.ok hb1 hl1 hlen (by omega) ?_ (by simp [e1]) (by simp) (by simp) fun σ' k => hQ σ' (k1.trans k)
    rw [Int.max_eq_left (by omega)]
    exact r4
theorem ref_right (ht : Tab tab) (ho : Ok σ) {h : Hd} {lv : AVal} {ml : Nat} (hl : EnAt σ lv h.log ml) (hr : h.Right) (hQ : ∀ σ', Keep0 σ σ' → Q (.bool true) σ') : WF tab 31 [h.val lv] σ Q := by
  refine f31_wf ht.t31 ?_
  unfold f31
  obtain ⟨h0, k1, b1, n1⟩ := boxH ho h lv
  refine Ala_of h0 ?_
  generalize σ.next = t1 at *
  generalize σ.new ⟨0, .ex, h.cells lv⟩ = σ1 at *
  have hl1 := hl.keep0 k1
  obtain ⟨r1, r2, r3, r4, r5, r6, r7, r8, r9, r10, r11, r12⟩ := hr
  refine Som_of (vField0 _ _ _) (Som_of (ld b1 rfl) (Som_of (bin_lss _ _ _ _) ?_))
  rw [decide_eq_false (show ¬ h.term < 0 by omega)]
  refine Sq_of rfl (vField0 _ _ _) (Sq_of rfl (ld b1 rfl) (Sq_of rfl (bin_gtr _ _ _ _) ?_))
  rw [decide_eq_false (show ¬ (1099511627776 : Int) < h.term by omega)]
  refine Som_of (v := .bool false) rfl (Sq_of rfl (vField0 _ _ _) (Sq_of rfl (ld b1 rfl) (Sq_of rfl (bin_lss _ _ _ _) ?_)))
  rw [decide_eq_false (show ¬ h.vote < -1 by omega)]
  refine Som_of (v := .bool false) rfl (Sq_of rfl (vField0 _ _ _) (Sq_of rfl (ld b1 rfl) (Sq_of rfl (bin_geq _ _ _ _) ?_)))
  rw [decide_eq_false (show ¬ (7 : Int) ≤ h.vote by omega)]
  refine Som_of (v := .bool false) rfl (Sq_of rfl (vField0 _ _ _) (Sq_of rfl (ld b1 rfl) (Sq_of rfl (bin_lss _ _ _ _) ?_)))
  rw [decide_eq_false (show ¬ h.base < 0 by omega)]
  refine Som_of (v := .bool false) rfl (Sq_of rfl (vField0 _ _ _) (Sq_of rfl (ld b1 rfl) (Sq_of rfl (bin_lss _ _ _ _) ?_)))
  rw [decide_eq_false (show ¬ h.bterm < 0 by omega)]
  refine Som_of (v := .bool false) rfl (Sq_of rfl (vField0 _ _ _) (Sq_of rfl (ld b1 rfl) (Sq_of rfl (vField0 _ _ _) (Sq_of rfl (ld b1 rfl) (Sq_of rfl (bin_gtr _ _ _ _) ?_)))))
  rw [decide_eq_false (show ¬ h.term < h.bterm by omega)]
  refine Som_of (v := .bool false) rfl (Sq_of rfl (vField0 _ _ _) (Sq_of rfl (ld b1 rfl) (Sq_of rfl (vLenStr_str _) (Sq_of rfl (bin_gtr _ _ _ _) ?_))))
  rw [decide_eq_false (show ¬ (16284 : Int) < (h.snap.length : Int) by omega)]
  refine Som_of (v := .bool false) rfl ?_
  rw [WIf_false]
  refine Som_of (vField0 _ _ _) (Som_of (ld b1 rfl) (Som_of (bin_eql _ _ _ _) ?_))
  refine and_or (fun _ => vField0 _ _ _) (fun _ => ld b1 rfl) (fun _ => bin_neq _ _ _ _) (fun _ _ => vField0 _ _ _) (fun _ _ => ld b1 rfl) (fun _ _ => bin_neq_str _ _ _) fun _ _ _ _ _ _ _ _ => ?_
  refine or_and (fun _ => vField0 _ _ _) (fun _ => ld b1 rfl) (fun _ => bin_gtr _ _ _ _) (fun _ _ => vField0 _ _ _) (fun _ _ => ld b1 rfl) (fun _ _ => bin_eql _ _ _ _) fun _ _ _ _ _ _ _ _ => ?_
  refine or7 (a6 := .int .i64 (IntKind.i64.wrap ((1099511627776 : Int) - (h.log.length : Int)))) (fun _ => vField0 _ _ _) (fun _ => ld b1 rfl) (fun _ => vField0 _ _ _) (fun _ => ld b1 rfl) (fun _ => hl1.len) (fun _ => bin_sub _ _ _ _) (fun _ => bin_gtr _ _ _ _) fun _ _ _ _ _ _ _ => ?_
  rw [wrap_i64_in (n := (1099511627776 : Int) - (h.log.length : Int)) (by omega) (by omega)]
  refine WIf_bool (fun hf => ?_) (fun _ => ?_)
  · exfalso
    simp only [Bool.or_eq_true, Bool.and_eq_true, decide_eq_true_eq] at hf
    rcases hf with (⟨f1, f2⟩ | ⟨f1, f2⟩) | f1
    · rcases f2 with f2 | f2
      · exact f2 (r10.1 f1)
      · exact f2 (r11 f1)
    · have := r10.2 f2; omega
    · omega
  · refine Som_of (vField0 _ _ _) (Som_of (ld b1 rfl) ?_)
    exact ref_loop ht h.log.length _ σ1 0 h.bterm k1.ok b1 hl1 (by omega) (by omega) (by simpa using r12) (by simp) (by simp) (by simp) fun σ' k => hQ σ' (k1.trans k)
end
end Go.Am
namespace Go.Am
section
variable {tab : Nat → Option PFn} {σ σ' : S} {Q : AVal → S → Prop}
def zz (n : Int) : Nat := if n < 0 then 1 else 2 * n.toNat
theorem zig_v (ht : Tab tab) {n : Int} (h0 : -1 ≤ n) (h1 : n < 4611686018427387904) (hQ : Q (.int .u64 (zz n : Int)) σ) : WF tab 110 [.int .i64 n] σ Q := by
  by_cases hn : n < 0
  · obtain rfl : n = -1 := by omega
    refine f110_wf ht.t110 ?_
    unfold f110
    refine Som_of (v := .int .u64 18446744073709551615) (by kernel_rfl) (Som_of (v := .int .u64 18446744073709551614) (by kernel_rfl) (Som_of (v := .int .i64 (-1)) (by kernel_rfl) (Som_of (v := .int .u64 18446744073709551615) (by kernel_rfl) (Som_of (v := .int .u64 1) (by kernel_rfl) ?_))))
    rw [Ret_1 rfl]
    exact hQ
  · refine zig_c ht (by omega) h1 ?_
    unfold zz at hQ
    rw [if_neg hn] at hQ
    rw [show (2 * n : Int) = ((2 * n.toNat : Nat) : Int) by omega]
    exact hQ
theorem zz_lt {n : Int} (h1 : n < 4611686018427387904) : zz n < 18446744073709551616 := by unfold zz; split <;> omega
theorem zz_len {n : Int} (h1 : n < 4611686018427387904) : (enc (zz n)).length ≤ 10 := enc_len 9 (Nat.lt_of_lt_of_le (zz_lt h1) (by decide))
theorem put_v (ht : Tab tab) {n : Int} {v : AVal} {a : List Nat} {m : Nat} (h0 : -1 ≤ n) (h1 : n < 4611686018427387904) (ho : Ok σ) (hg : ByGr σ v a m) (hl : a.length + 10 ≤ 1099511627776)
    (hQ : ∀ v' σ' m', ByGr σ' v' (a ++ enc (zz n)) m' → Keep (fun y => y = m) σ σ' → (m' = m ∨ (σ.next.nat ≤ m' ∧ m' < σ'.next.nat)) → Q v' σ') : WF tab 99 [v, .int .i64 n] σ Q := by
  refine f99_wf ht.t99 ?_
  unfold f99
  refine zig_v ht h0 h1 ?_
  have := zz_len h1
  refine put_loop (zz n) _ σ v a m ho (by simp) (by simp) (zz_lt h1) hg (by omega) hQ
theorem Num_v (ht : Tab tab) {n : Int} {v : AVal} {a : List Nat} {m : Nat} (h0 : -1 ≤ n) (h1 : n < 4611686018427387904) (ho : Ok σ) (hs : BySl σ v a m) (hl : a.length + 10 ≤ 1099511627776)
    (hQ : ∀ v' σ' m', ByGr σ' v' (a ++ enc (zz n)) m' → Keep0 σ σ' → σ.next.nat ≤ m' → m' < σ'.next.nat → Q v' σ') : WF tab 77 [v, .int .i64 n] σ Q := by
  refine f77_wf ht.t77 ?_
  unfold f77
  refine again_c ht ho hs (by omega) (by omega) fun v1 σ1 m1 g1 k1 l1 l2 => ?_
  refine put_v ht h0 h1 k1.ok g1 hl fun v2 σ2 m2 g2 k2 l3 => ?_
  rw [Ret_1 g2.sl.v1]
  have := k1.next; have := k2.next
  exact hQ v2 σ2 m2 g2 (k1.then ho k2 fun x hx e => by omega) (by omega) (by omega)
theorem text_c (ht : Tab tab) {s : List Nat} {v : AVal} {a : List Nat} {m : Nat} (ho : Ok σ) (hs : BySl σ v a m) (hl : a.length + 20 + s.length ≤ 1099511627776)
    (hQ : ∀ v' σ' m', ByGr σ' v' (a ++ enc (2 * s.length) ++ s) m' → Keep0 σ σ' → σ.next.nat ≤ m' → Q v' σ') : WF tab 107 [v, .str s] σ Q := by
  refine f107_wf ht.t107 ?_
  unfold f107
  refine Som_of (vLenStr_str _) (Som_of (bin_add _ _ _ _) ?_)
  rw [wrap_i64_in (n := (10 : Int) + (s.length : Int)) (by omega) (by omega)]
  refine again_c ht ho hs (by omega) (by omega) fun v1 σ1 m1 g1 k1 l1 l2 => ?_
  refine Som_of (vLenStr_str _) ?_
  refine put_c ht (by omega) (by omega) k1.ok g1 (by omega) fun v2 σ2 m2 g2 k2 l3 => ?_
  have e1 : (2 * ((s.length : Int)).toNat) = 2 * s.length := by omega
  rw [e1] at g2
  have hl10 : (enc (2 * s.length)).length ≤ 10 := enc_len 9 (Nat.lt_of_lt_of_le (show 2 * s.length < 18446744073709551616 by omega) (by decide))
  obtain ⟨v3, σ3, m3, a3, g3, k3, l3'⟩ := append_str k2.ok g2 (b := s) (by rw [List.length_append]; omega)
  refine Eff_of a3 ?_
  rw [Ret_1 g3.sl.v1]
  have n1 := k1.next; have n2 := k2.next
  have k02 : Keep0 σ σ2 := k1.then ho k2 fun x hx e => by omega
  exact hQ v3 σ3 m3 g3 (k02.then ho k3 fun x hx e => by omega) (by omega)

theorem copy_tail (ho : Ok σ) {h : Hd} {lv v0 : AVal} {ml m0 : Nat} {t1 t2 : Pos} (b1 : σ.blk t1 = some ⟨0, .ex, h.cells lv⟩) (b2 : σ.blk t2 = some ⟨0, .ex, [.int .i64 0, .int .i64 0, .int .i64 0, .int .i64 0, .str [], .nsl]⟩) (hne : t1 ≠ t2)
    (hl : EnAt σ lv h.log ml) (hn : h.log.length ≤ 10000000) (h0 : GrAt σ v0 2 0 [] m0) (hm1 : m0 ≠ t1.nat) (hm2 : m0 ≠ t2.nat)
    (hQ : ∀ v σ' m, GrAt σ' v 2 h.log.length (ents h.log) m → Keep (fun x => x = m0 ∨ x = t1.nat ∨ x = t2.nat) σ σ' → (m = m0 ∨ (σ.next.nat ≤ m ∧ m < σ'.next.nat)) → Q (h.val v) σ') :
    Som (vFieldAddr 5 (.ptr t1 0)) fun t4 => Som (vLoad1 t4 σ) fun t5 => Eff (appendA 2 24 v0 t5 σ) fun t6 σ4 => Som (vFieldAddr 5 (.ptr t1 0)) fun t7 => Eff (storeW 1 t7 t6 σ4) fun _ σ5 => Som (vLoadN 6 (.ptr t1 0) σ5) fun t8 => Eff (storeW 6 (.ptr t2 0) t8 σ5) fun _ σ6 => Ret [vLoadN 6 (.ptr t2 0) σ6] σ6 Q := by
  refine Som_of (vField0 _ _ _) (Som_of (ld b1 rfl) ?_)
  obtain ⟨v, σ4, m, a1, g1, k1, l1⟩ := append_gr ho h0 hl.slLen (hl.slRead (Nat.le_refl _)) (by rw [List.length_take, hl.1]; omega) (bytes := 24) (by omega)
  refine Eff_of a1 (Som_of (vField0 _ _ _) ?_)
  have hlt1 := ho.lt b1; have hlt2 := ho.lt b2
  have b1' := k1.old _ _ b1 hm1.symm
  have b2' := k1.old _ _ b2 hm2.symm
  refine Eff_of (store1_of b1' (by simp [Hd.cells]) g1.sl.cells) ?_
  have e1 : (h.cells lv).set (0 + 5) v = h.cells v := rfl
  rw [e1]
  have k2 : Keep (fun x => x = t1.nat) σ4 (σ4.upd t1 ⟨0, .ex, h.cells v⟩) := Keep.upd k1.ok b1' rfl
  have b3 : (σ4.upd t1 ⟨0, .ex, h.cells v⟩).blk t1 = some ⟨0, .ex, h.cells v⟩ := blk_upd_same _ _
  have b4 : (σ4.upd t1 ⟨0, .ex, h.cells v⟩).blk t2 = _ := k2.old _ _ b2' (fun e => hne (Pos.nat_inj e.symm))
  generalize σ4.upd t1 ⟨0, .ex, h.cells v⟩ = σ5 at *
  refine Som_of (ldN (n := 6) (xs := h.cells v) b3 (by simp [Hd.cells]) rfl) (Eff_of (storeN_of (xs := h.cells v) b4 rfl (by omega) (by simp)) ?_)
  have e2 : ([AVal.int .i64 0, .int .i64 0, .int .i64 0, .int .i64 0, .str [], .nsl].take 0 ++ h.cells v ++ [AVal.int .i64 0, .int .i64 0, .int .i64 0, .int .i64 0, .str [], .nsl].drop (0 + 6)) = h.cells v := rfl
  rw [e2]
  have k3 : Keep (fun x => x = t2.nat) σ5 (σ5.upd t2 ⟨0, .ex, h.cells v⟩) := Keep.upd k2.ok b4 rfl
  have b5 : (σ5.upd t2 ⟨0, .ex, h.cells v⟩).blk t2 = some ⟨0, .ex, h.cells v⟩ := blk_upd_same _ _
  generalize σ5.upd t2 ⟨0, .ex, h.cells v⟩ = σ6 at *
  rw [ldN (n := 6) (xs := h.cells v) b5 (by simp [Hd.cells]) rfl, Ret_1 rfl]
  have km1 : m ≠ t1.nat := by rcases l1 with e | e <;> omega
  have km2 : m ≠ t2.nat := by rcases l1 with e | e <;> omega
  have e3 : [] ++ (ents h.log).take (h.log.length * 2) = ents h.log := by rw [List.nil_append, List.take_of_length_le (by rw [ents_len]; omega)]
  rw [e3, Nat.zero_add] at g1
  refine hQ v σ6 m ((g1.keep km1 k2).keep km2 k3) ?_ (by have := k2.next; have := k3.next; rcases l1 with e | e; exact .inl e; exact .inr ⟨e.1, by omega⟩)
  exact ((k1.mono fun x e => .inl e).trans (k2.mono fun x e => .inr (.inl e))).trans (k3.mono fun x e => .inr (.inr e))
theorem copy_c (ht : Tab tab) (ho : Ok σ) {h : Hd} {lv : AVal} {ml : Nat} (hl : EnAt σ lv h.log ml) (hn : h.log.length ≤ 10000000) (hQ : ∀ v σ' m, GrAt σ' v 2 h.log.length (ents h.log) m → Keep0 σ σ' → σ.next.nat ≤ m → Q (h.val v) σ') : WF tab 68 [h.val lv] σ Q := by
  refine f68_wf ht.t68 ?_
  unfold f68
  obtain ⟨h0, k1, b1, n1⟩ := boxH ho h lv
  refine Ala_of h0 ?_
  generalize hp1 : σ.next = t1 at *
  have hq1 : σ.next.nat = t1.nat := by rw [hp1]
  generalize σ.new ⟨0, .ex, h.cells lv⟩ = σ1 at *
  obtain ⟨k2, b2, n2⟩ := boxC k1.ok [.int .i64 0, .int .i64 0, .int .i64 0, .int .i64 0, .str [], .nsl]
  refine Ala_of (show aAllocV [.int .i64 0, .int .i64 0, .int .i64 0, .int .i64 0, .str [], .nsl] = some (⟨0, .ex, [.int .i64 0, .int .i64 0, .int .i64 0, .int .i64 0, .str [], .nsl]⟩, fun p => .ptr p 0) from rfl) ?_
  have b1' := k2.old _ _ b1 (fun h => h)
  generalize hp2 : σ1.next = t2 at *
  generalize σ1.new ⟨0, .ex, [.int .i64 0, .int .i64 0, .int .i64 0, .int .i64 0, .str [], .nsl]⟩ = σ2 at *
  have k02 := k1.trans k2
  refine copy_tail k2.ok b1' b2 (fun e => by rw [e] at n1; omega) (hl.keep0 k02) hn (GrAt.nil σ2 2 σ2.next.nat) (by omega) (by omega) fun v σ' m g k l => ?_
  exact hQ v σ' m g (k02.then ho k fun x hx e => by omega) (by omega)
theorem twin_c (ht : Tab tab) (ho : Ok σ) {h : Hd} {lv : AVal} {ml : Nat} (hl : EnAt σ lv h.log ml) (hn : h.log.length ≤ 10000000) (hQ : ∀ v σ' m, GrAt σ' v 2 h.log.length (ents h.log) m → Keep0 σ σ' → σ.next.nat ≤ m → m < σ'.next.nat → Q (h.val v) σ') : WF tab 71 [h.val lv] σ Q := by
  refine f71_wf ht.t71 ?_
  unfold f71
  obtain ⟨h0, k1, b1, n1⟩ := boxH ho h lv
  refine Ala_of h0 ?_
  generalize hp1 : σ.next = t1 at *
  have hq1 : σ.next.nat = t1.nat := by rw [hp1]
  generalize σ.new ⟨0, .ex, h.cells lv⟩ = σ1 at *
  obtain ⟨k2, b2, n2⟩ := boxC k1.ok [.int .i64 0, .int .i64 0, .int .i64 0, .int .i64 0, .str [], .nsl]
  refine Ala_of (show aAllocV [.int .i64 0, .int .i64 0, .int .i64 0, .int .i64 0, .str [], .nsl] = some (⟨0, .ex, [.int .i64 0, .int .i64 0, .int .i64 0, .int .i64 0, .str [], .nsl]⟩, fun p => .ptr p 0) from rfl) ?_
  have b1' := k2.old _ _ b1 (fun h => h)
  generalize hp2 : σ1.next = t2 at *
  generalize σ1.new ⟨0, .ex, [.int .i64 0, .int .i64 0, .int .i64 0, .int .i64 0, .str [], .nsl]⟩ = σ2 at *
  have k02 := k1.trans k2
  have k3 : Keep0 σ2 (σ2.new ⟨2, .ex, []⟩) := Keep.new k2.ok _
  have b3 : (σ2.new ⟨2, .ex, []⟩).blk σ2.next = some ⟨2, .ex, []⟩ := by rw [blk_new, if_pos rfl]; rfl
  have n3 := new_next (σ := σ2) ⟨2, .ex, []⟩
  refine Ala_of (show aSliceV 2 [.int .i64 0, .str []] 0 [] = some (⟨2, .ex, []⟩, fun p => .sl p 0 0 0) from rfl) ?_
  have b1'' := k3.old _ _ b1' (fun h => h)
  have b2'' := k3.old _ _ b2 (fun h => h)
  generalize hp3 : σ2.next = t3 at *
  generalize σ2.new ⟨2, .ex, []⟩ = σ3 at *
  have k03 := k02.trans k3
  have g3 : GrAt σ3 (.sl t3 0 0 0) 2 0 [] t3.nat := ⟨rfl, rfl, Nat.le_refl _, _, b3, rfl, Nat.le_refl _, rfl, rfl⟩
  refine copy_tail k3.ok b1'' b2'' (fun e => by rw [e] at n1; omega) (hl.keep0 k03) hn g3 (by omega) (by omega) fun v σ' m g k l => ?_
  exact hQ v σ' m g (k03.then ho k fun x hx e => by omega) (by omega) (by have := k.next; omega)

theorem end_c (ht : Tab tab) {p : Pos} {bs : List Nat} {bv : AVal} {mb : Nat} {s : Option Nat} (ho : Ok σ) (hr : RdSt σ p bs bv mb s)
    (hQ : ∀ e σ', Keep (fun x => x = p.nat) σ σ' → Q (.int .i64 e) σ') : WF tab 87 [.ptr p 0] σ Q := by
  have key : ∀ (fa fw : Int) (a : Nat), RdAt σ p bs fa fw a bv mb → WF tab 87 [.ptr p 0] σ Q := fun fa fw a h => by
    refine f87_wf ht.t87 ?_
    unfold f87
    refine Som_of (eql_pn _ _) ?_
    rw [WIf_false]
    have h1 := rd_bump h ho 17
    have k1 : Keep0 σ (σ.bumpT 17) := Keep.bump ho 17
    refine Som_of rfl (Som_of (vField0 _ _ _) (Som_of (ldN (n := 2) h1.blk (by simp) rfl) ?_))
    refine good_c ht k1.ok fun σ2 k2 => ?_
    have h2 := h1.keep k2 (fun h => h) (fun h => h)
    have k12 : Keep (fun x => x = p.nat) σ σ2 := (Keep0.to k1).trans (Keep0.to k2)
    by_cases hfw : fw = 0
    · rw [decide_eq_true hfw]
      refine Sq_of rfl rfl (Sq_of rfl rfl (Sq_of rfl (vField0 _ _ _) (Sq_of rfl (ld h2.blk rfl) (Sq_of rfl rfl (Sq_of rfl rfl (Sq_of rfl (vField0 _ _ _) (Sq_of rfl (ld h2.blk rfl) (Sq_of rfl h2.sl.len (Sq_of rfl (bin_lss _ _ _ _) (Som_of rfl ?_))))))))))
      refine WIf_dec (fun _ => ?_) (fun _ => ?_)
      · refine Som_of rfl (Som_of (vField0 _ _ _) (Som_of (ld h2.blk rfl) ?_))
        refine fail_c ht k12.ok h2 fun v σ3 h3 k3 => ?_
        refine Som_of rfl (Som_of (vField0 _ _ _) (Som_of (vField0 _ _ _) (Som_of (ld h3.blk rfl) ?_)))
        rw [Ret_1 rfl]
        exact hQ _ σ3 (k12.trans k3)
      · refine Som_of rfl (Som_of (vField0 _ _ _) (Som_of (vField0 _ _ _) (Som_of (ld h2.blk rfl) ?_)))
        rw [Ret_1 rfl]
        exact hQ _ σ2 k12
    · rw [decide_eq_false hfw]
      refine Sn_of rfl (Sn_of rfl (Sn_of rfl (Sn_of rfl (Sn_of rfl (Sn_of rfl (Sn_of rfl (Sn_of rfl (Sn_of rfl (Sn_of rfl (Som_of (v := .bool false) rfl ?_))))))))))
      rw [WIf_false]
      refine Som_of rfl (Som_of (vField0 _ _ _) (Som_of (vField0 _ _ _) (Som_of (ld h2.blk rfl) ?_)))
      rw [Ret_1 rfl]
      exact hQ _ σ2 k12
  cases s with
  | some a => exact key 0 0 a hr.2
  | none => obtain ⟨fa, fw, a, h1, h2⟩ := hr; exact key fa fw a h2
theorem num_c (ht : Tab tab) {p : Pos} {bs : List Nat} {a : Nat} {bv : AVal} {mb : Nat} (ho : Ok σ) (hl : bs.length ≤ 1000000000) (hb : Bytes bs) (ha : a ≤ bs.length) (hr : RdAt σ p bs 0 0 a bv mb)
    (hN : ∀ e σ', e ≠ 0 → RdAt σ' p bs a e a bv mb → Keep (fun x => x = p.nat) σ σ' → Q (.int .i64 0) σ')
    (hS : ∀ n v σ', a + n ≤ bs.length → RdAt σ' p bs 0 0 (a + n) bv mb → Keep (fun x => x = p.nat) σ σ' → Q (.int .i64 v) σ') : WF tab 104 [.ptr p 0, .int .i64 (a : Int)] σ Q := by
  refine f104_wf ht.t104 ?_
  unfold f104
  exact num_loop ht (bs.length - a) _ σ p bs a a 0 0 bv mb ho (by omega) hl hb hr (by simp) (by omega) (by simp) (by simp) (by simp) (by simp) (fun e σ' _ h2 h3 h4 => hN e σ' h2 h3 h4) (fun v n σ' _ h2 h3 h4 => hS n _ σ' h2 h3 h4)
theorem count_c (ht : Tab tab) {p : Pos} {bs : List Nat} {a : Nat} {bv : AVal} {mb : Nat} {mx : Int} (ho : Ok σ) (hl : bs.length ≤ 1000000000) (hb : Bytes bs) (ha : a ≤ bs.length) (hr : RdAt σ p bs 0 0 a bv mb)
    (hN : ∀ σ', RdSt σ' p bs bv mb none → Keep (fun x => x = p.nat) σ σ' → Q (.int .i64 0) σ')
    (hS : ∀ (n a' : Nat) σ', (n : Int) ≤ mx → a' ≤ bs.length → RdAt σ' p bs 0 0 a' bv mb → Keep (fun x => x = p.nat) σ σ' → Q (.int .i64 (n : Int)) σ') : WF tab 105 [.ptr p 0, .int .i64 (a : Int), .int .i64 mx] σ Q := by
  refine f105_wf ht.t105 ?_
  unfold f105
  refine num_c ht ho hl hb ha hr (fun e σ1 he h1 k1 => ?_) (fun n v σ1 hn h1 k1 => ?_)
  · refine Som_of rfl (Som_of (vField0 _ _ _) (Som_of (ldN (n := 2) h1.blk (by simp) rfl) ?_))
    refine good_c ht k1.ok fun σ2 k2 => ?_
    have h2 := h1.keep k2 (fun h => h) (fun h => h)
    rw [decide_eq_false he]
    refine Sn_of rfl (Sn_of rfl (Sn_of rfl (Sn_of rfl (Sn_of rfl (Sn_of rfl (Sn_of rfl (Som_of (v := .bool false) rfl ?_)))))))
    rw [WIf_false, Ret_1 rfl]
    exact hN σ2 ⟨_, _, _, he, h2⟩ (k1.trans (Keep0.to k2))
  · refine Som_of rfl (Som_of (vField0 _ _ _) (Som_of (ldN (n := 2) h1.blk (by simp) rfl) ?_))
    refine good_c ht k1.ok fun σ2 k2 => ?_
    have h2 := h1.keep k2 (fun h => h) (fun h => h)
    have k12 : Keep (fun x => x = p.nat) σ σ2 := k1.trans (Keep0.to k2)
    have bad : WF tab 106 [.ptr p 0, .int .i64 (a : Int), .int .i64 2] σ2 fun _ σ3 => Ret [some (.int .i64 0)] σ3 Q := by
      refine fail_c ht k12.ok h2 fun w σ3 h3 k3 => ?_
      rw [Ret_1 rfl]
      exact hN σ3 ⟨_, _, _, by omega, h3⟩ (k12.trans k3)
    rw [decide_eq_true rfl]
    refine Sq_of rfl rfl (Sq_of rfl (bin_lss _ _ _ _) (Sq_of rfl rfl ?_))
    by_cases hneg : v < 0
    · rw [decide_eq_true hneg]
      refine Sn_of rfl (Sn_of rfl (Sn_of rfl (Sq_of (v := .bool true) rfl rfl (Som_of (v := .bool true) rfl ?_))))
      rw [WIf_true]; exact bad
    · rw [decide_eq_false hneg]
      refine Sq_of rfl rfl (Sq_of rfl rfl (Sq_of rfl (bin_gtr _ _ _ _) (Sq_of rfl rfl (Som_of rfl ?_))))
      refine WIf_dec (fun _ => bad) (fun hmx => ?_)
      rw [Ret_1 rfl]
      obtain ⟨m, rfl⟩ := Int.eq_ofNat_of_zero_le (show 0 ≤ v by omega)
      exact hS m (a + n) σ2 (by omega) hn h2 k12
theorem rtext_c (ht : Tab tab) {p : Pos} {bs : List Nat} {bv : AVal} {mb : Nat} {s : Option Nat} {mx : Int} (ho : Ok σ) (hl : bs.length ≤ 1000000000) (hb : Bytes bs) (hr : RdSt σ p bs bv mb s)
    (hQ : ∀ t σ' s', Bytes t → RdSt σ' p bs bv mb s' → Keep (fun x => x = p.nat) σ σ' → Q (.str t) σ') : WF tab 86 [.ptr p 0, .int .i64 mx] σ Q := by
  refine f86_wf ht.t86 ?_
  unfold f86
  have nob : Bytes [] := Bytes.nil
  refine Som_of (eql_pn _ _) (Sq_of rfl rfl (Sq_of rfl rfl (Sq_of rfl (vField0 _ _ _) ?_)))
  cases s with
  | none =>
    obtain ⟨fa, fw, a, h1, h2⟩ := hr
    refine Sq_of rfl (ldN (n := 2) h2.blk (by simp) rfl) ?_
    refine good_c ht ho fun σ1 k1 => ?_
    rw [decide_eq_false h1]
    refine Sq_of rfl (un_not _) (Som_of rfl ?_)
    rw [show (!false) = true from rfl, WIf_true, Ret_1 rfl]
    exact hQ [] σ1 none nob ⟨_, _, _, h1, h2.keep k1 (fun h => h) (fun h => h)⟩ k1.to
  | some a =>
    obtain ⟨ha, h2⟩ := hr
    refine Sq_of rfl (ldN (n := 2) h2.blk (by simp) rfl) ?_
    refine good_c ht ho fun σ1 k1 => ?_
    have r1 := h2.keep k1 (fun h => h) (fun h => h)
    refine Sq_of rfl (un_not _) (Som_of rfl ?_)
    rw [show (!decide ((0 : Int) = 0)) = false from rfl, WIf_false]
    refine Som_of rfl (Som_of (vField0 _ _ _) (Som_of (ld r1.blk rfl) ?_))
    refine count_c ht k1.ok hl hb ha r1 (fun σ2 r2 k2 => ?_) (fun n a' σ2 hn ha' r2 k2 => ?_)
    · obtain ⟨fa, fw, a2, hw, r2⟩ := r2
      refine Som_of rfl (Som_of (vField0 _ _ _) (Som_of (ldN (n := 2) r2.blk (by simp) rfl) ?_))
      refine good_c ht k2.ok fun σ3 k3 => ?_
      rw [decide_eq_false hw]
      refine Som_of (un_not _) ?_
      rw [show (!false) = true from rfl, WIf_true, Ret_1 rfl]
      exact hQ [] σ3 none nob ⟨_, _, _, hw, r2.keep k3 (fun h => h) (fun h => h)⟩ (k1.to.trans (k2.trans k3.to))
    · refine Som_of rfl (Som_of (vField0 _ _ _) (Som_of (ldN (n := 2) r2.blk (by simp) rfl) ?_))
      refine good_c ht k2.ok fun σ3 k3 => ?_
      rw [decide_eq_true rfl]
      refine Som_of (un_not _) ?_
      rw [show (!true) = false from rfl, WIf_false]
      have r3 := r2.keep k3 (fun h => h) (fun h => h)
      have k4 : Keep0 σ3 (σ3.bumpT 12) := Keep.bump k3.ok 12
      have r4 := r3.keep k4 (fun h => h) (fun h => h)
      have k04 : Keep (fun x => x = p.nat) σ (σ3.bumpT 12) := k1.to.trans (k2.trans (k3.to.trans k4.to))
      generalize σ3.bumpT 12 = σ4 at *
      refine Som_of rfl (Som_of (vField0 _ _ _) (Som_of (ld r4.blk rfl) (Som_of r4.sl.len (Som_of rfl (Som_of (vField0 _ _ _) (Som_of (ld r4.blk rfl) (Som_of (bin_sub _ _ _ _) (Som_of (bin_gtr _ _ _ _) ?_))))))))
      rw [wrap_i64_in (n := (bs.length : Int) - (a' : Int)) (by omega) (by omega)]
      refine WIf_dec (fun _ => ?_) (fun hle => ?_)
      · refine fail_c ht k04.ok r4 fun w σ5 r5 k5 => ?_
        rw [Ret_1 rfl]
        exact hQ [] σ5 none nob ⟨_, _, _, by omega, r5⟩ (k04.trans k5)
      · have k5 : Keep0 σ4 (σ4.bumpT 17) := Keep.bump k04.ok 17
        have r5 := r4.keep k5 (fun h => h) (fun h => h)
        have k05 : Keep (fun x => x = p.nat) σ (σ4.bumpT 17) := k04.trans k5.to
        generalize σ4.bumpT 17 = σ5 at *
        obtain ⟨v', c1, c2⟩ := BySl.cutLH r5.sl (lo := a') (hi := a' + n) (by omega) (by omega)
        refine Som_of rfl (Som_of (vField0 _ _ _) (Som_of (ld r5.blk rfl) (Som_of rfl (Som_of (vField0 _ _ _) (Som_of (ld r5.blk rfl) (Som_of rfl (Som_of (vField0 _ _ _) (Som_of (ld r5.blk rfl) (Som_of (bin_add _ _ _ _) ?_)))))))))
        have e1 : IntKind.i64.wrap ((a' : Int) + (n : Int)) = ((a' + n : Nat) : Int) := by
          rw [wrap_i64_in (n := (a' : Int) + (n : Int)) (by omega) (by omega)]; omega
        rw [e1]
        have hbt : Bytes ((bs.drop a').take (a' + n - a')) := (hb.drop a').take _
        refine Som_of c1 (Som_of (c2.str hbt) (Som_of rfl (Som_of (vField0 _ _ _) (Som_of (ld r5.blk rfl) (Som_of (bin_add _ _ _ _) (Som_of rfl (Som_of (vField0 _ _ _) ?_)))))))
        rw [e1]
        refine Eff_of (store1_of r5.blk (by simp) rfl) ?_
        rw [Ret_1 rfl]
        have k6 : Keep (fun x => x = p.nat) σ5 (σ5.upd p ⟨0, .ex, [.int .i64 0, .int .i64 0, bv, .int .i64 ((a' + n : Nat) : Int)]⟩) := Keep.upd k05.ok r5.blk rfl
        exact hQ _ _ (some (a' + n)) hbt ⟨by omega, ⟨blk_upd_same _ _, r5.sl.keep (fun _ e => r5.ne e) k6, r5.ne⟩⟩ (k05.trans k6)
end
end Go.Am
namespace Go.Am
section
variable {tab : Nat → Option PFn} {σ σ' : S} {Q : AVal → S → Prop} {G G' M M' : Nat → Prop} {d pf ps : Pos} {D : Dk} {fv sv wc : List AVal} {wv : AVal} {mw : Nat}
theorem Keep.to {M : Nat → Prop} (h : Keep (fun _ => False) σ σ') : Keep M σ σ' := Keep0.to h
theorem dread_any (ht : Tab tab) (ho : Ok σ) (h : DkAt σ G d D pf ps fv sv wv wc mw) (hok : DkOk D) {k : Nat} (hk : k < 64)
    (hQ : ∀ v bs m σ', Bytes bs → bs.length ≤ 2097152 → BySl σ' v bs m → Keep0 σ σ' → Q v σ') : WF tab 72 [.ptr d 0, .int .i64 (k : Int)] σ Q := by
  cases hoff : D.off with
  | false =>
    refine dread_c ht ho h hok hoff hk fun v bs m σ' h1 h2 h3 _ => ?_
    have := hok.fl bs (List.mem_of_getElem? h1)
    exact hQ v bs m σ' this.2 this.1 h2 h3
  | true =>
    refine f72_wf ht.t72 ?_
    unfold f72
    have hblk := h.blk
    rw [hoff] at hblk
    refine Som_of rfl (Som_of (vField0 _ _ _) (Som_of (ld hblk rfl) (Sn_of rfl (GE_n rfl (Sn_of rfl (Som_of (v := .bool true) rfl ?_))))))
    rw [WIf_true, Ret_1 rfl]
    exact hQ .nsl [] 0 σ Bytes.nil (Nat.zero_le _) (BySl.nil σ) (Keep.refl ho)
structure Me where
  file : Int
  age : Int
  term : Int
  vote : Int
abbrev Me.cells (x : Me) (d : Pos) : List AVal := [.ptr d 0, .int .i64 x.file, .int .i64 x.age, .int .i64 x.term, .int .i64 x.vote]
structure Me.Ok (x : Me) (a : Nat) : Prop where
  f : x.file = 0 ∨ x.file = 1
  a0 : 0 ≤ x.age
  a1 : x.age < 1125899906842624 + (a : Int)
  t0 : 0 ≤ x.term
  t1 : x.term ≤ 1099511627776
  v0 : -1 ≤ x.vote
  v1 : x.vote < 7
theorem readInto (ht : Tab tab) {r t : Pos} {bs : List Nat} {cs : List AVal} {bv : AVal} {mb n : Nat} {s : Option Nat} {k : Nat} {σ0 : S} (hk : k < cs.length) (hl : bs.length ≤ 1000000000) (hb : Bytes bs) (hr : RdSt σ r bs bv mb s) (hbk : σ.blk t = some ⟨0, .ex, cs⟩)
    (hrt : r.nat ≠ t.nat) (hmt : mb ≠ t.nat) (hnr : n ≤ r.nat) (hnt : n ≤ t.nat) (hkp : Keep (fun x => n ≤ x) σ0 σ) {K : AVal → AVal → S → Prop}
    (hK : ∀ v ad σ' s', RdSt σ' r bs bv mb s' → σ'.blk t = some ⟨0, .ex, cs.set k (.int .i64 v)⟩ → Keep (fun x => n ≤ x) σ0 σ' → K (.int .i64 v) ad σ') :
    WF tab 85 [.ptr r 0] σ fun v σa => Som (vNilck (.ptr t 0)) fun tt => Som (vFieldAddr k tt) fun ad => Eff (storeW 1 ad v σa) fun _ σb => K v ad σb := by
  refine Num_any ht hkp.ok hl hb hr fun σa ra ka => ?_
  have ba := ka.old _ _ hbk (fun e => hrt e.symm)
  refine Som_of rfl (Som_of (vField0 _ _ _) (Eff_of (store1_of ba (by omega) rfl) ?_))
  rw [Nat.zero_add]
  have kb : Keep (fun x => x = t.nat) σa _ := Keep.upd ka.ok ba (c := ⟨0, .ex, cs.set k (.int .i64 (stepV bs s))⟩) rfl
  exact hK _ _ _ _ (ra.keep kb (fun e => hrt e) (fun e => hmt e)) (blk_upd_same _ _) ((hkp.trans (ka.mono fun x e => by rw [e]; exact hnr)).trans (kb.mono fun x e => by rw [e]; exact hnt))
theorem Keep.old0 {n : Nat} (ho : Ok σ) (hn : σ.next.nat ≤ n) (k : Keep (fun x => n ≤ x) σ σ') : Keep0 σ σ' := k.weak ho fun x hx e => by omega
theorem mread_c (ht : Tab tab) (ho : Ok σ) (h : DkAt σ G d D pf ps fv sv wv wc mw) (hok : DkOk D) {k : Nat} (hk : k < 2)
    (hN : ∀ σ', Keep0 σ σ' → Q .nptr σ')
    (hS : ∀ p x σ', Keep0 σ σ' → σ.next.nat ≤ p.nat → p.nat < σ'.next.nat → σ'.blk p = some ⟨0, .ex, x.cells d⟩ → Me.Ok x 0 → Q (.ptr p 0) σ') : WF tab 82 [.ptr d 0, .int .i64 (k : Int)] σ Q := by
  refine f82_wf ht.t82 ?_
  unfold f82
  refine dread_any ht ho h hok (by omega) fun v b m σ1 hb hbl hv k1 => ?_
  refine Next_c (a := 0) ht k1.ok hv hb (by omega) (by omega) (fun e σ2 _ he k2 => ?_) (fun p to w σ2 mp hnx hw k2 => ?_)
  · refine Som_of rfl (Som_of rfl (Som_of rfl (Som_of (bin_neq _ _ _ _) ?_)))
    refine WIf_t he ?_
    rw [Ret_1 rfl]
    exact hN σ2 (k1.trans k2)
  obtain ⟨p1, p2, p3⟩ := nextF_len hnx
  have hpb := nextF_bytes hnx hb
  refine Som_of rfl (Som_of rfl (Som_of rfl (Som_of (bin_neq _ _ _ _) ?_)))
  refine WIf_f (by omega) ?_
  have k02 := k1.trans k2
  refine read_c ht k2.ok hw (by omega) fun r bv mb σ3 r3 k3 l3 l3' l3'' l3m => ?_
  have k03 := k02.trans k3
  refine Som_of (show vBuild [AVal.nptr, .int .i64 0, .int .i64 0, .int .i64 0, .int .i64 0] [(0, 1, .ptr d 0), (1, 1, .int .i64 (k : Int))] = some (.agg [.ptr d 0, .int .i64 (k : Int), .int .i64 0, .int .i64 0, .int .i64 0]) from rfl) ?_
  obtain ⟨k4, b4, n4⟩ := boxC k3.ok [.ptr d 0, .int .i64 (k : Int), .int .i64 0, .int .i64 0, .int .i64 0]
  refine Ala_of (show aBoxV (.agg [AVal.ptr d 0, .int .i64 (k : Int), .int .i64 0, .int .i64 0, .int .i64 0]) = some (⟨0, .ex, [.ptr d 0, .int .i64 (k : Int), .int .i64 0, .int .i64 0, .int .i64 0]⟩, fun p => .ptr p 0) from rfl) ?_
  have s4 : RdSt (σ3.new ⟨0, .ex, [.ptr d 0, .int .i64 (k : Int), .int .i64 0, .int .i64 0, .int .i64 0]⟩) r p bv mb (some 0) := ⟨Nat.zero_le _, r3.keep k4 (fun h => h) (fun h => h)⟩
  generalize ht4 : σ3.next = t at *
  generalize σ3.new ⟨0, .ex, [.ptr d 0, .int .i64 (k : Int), .int .i64 0, .int .i64 0, .int .i64 0]⟩ = σ4 at *
  have n1 := k02.next
  have kk4 : Keep (fun x => σ.next.nat ≤ x) σ σ4 := (k03.trans k4).to
  have or : r.nat ≠ t.nat := by omega
  have omb : mb ≠ t.nat := by omega
  refine readInto ht (by simp) (by omega) hpb s4 b4 or omb (n := σ.next.nat) (by omega) (by omega) kk4 fun v1 _ σ5 s5 r5 b5 k5 => ?_
  refine readInto ht (by simp) (by omega) hpb r5 b5 or omb (n := σ.next.nat) (by omega) (by omega) k5 fun v2 _ σ6 s6 r6 b6 k6 => ?_
  refine readInto ht (by simp) (by omega) hpb r6 b6 or omb (n := σ.next.nat) (by omega) (by omega) k6 fun v3 _ σ7 s7 r7 b7 k7 => ?_
  refine end_c ht k7.ok r7 fun e σ8 k8 => ?_
  have b8 : σ8.blk t = some ⟨0, .ex, [.ptr d 0, .int .i64 (k : Int), .int .i64 v1, .int .i64 v2, .int .i64 v3]⟩ := k8.old _ _ b7 (fun e => or e.symm)
  have k08 : Keep0 σ σ8 := (k7.trans (k8.mono fun x e => by rw [e]; omega)).old0 ho (Nat.le_refl _)
  refine Som_of (bin_neq _ _ _ _) ?_
  refine or5 (fun _ => rfl) (fun _ => rfl) (fun _ => vField0 _ _ _) (fun _ => ld b8 rfl) (fun _ => bin_lss _ _ _ _) fun _ _ _ _ _ => ?_
  refine or5 (fun _ => rfl) (fun _ => rfl) (fun _ => vField0 _ _ _) (fun _ => ld b8 rfl) (fun _ => bin_geq _ _ _ _) fun _ _ _ _ _ => ?_
  refine or5 (fun _ => rfl) (fun _ => rfl) (fun _ => vField0 _ _ _) (fun _ => ld b8 rfl) (fun _ => bin_lss _ _ _ _) fun _ _ _ _ _ => ?_
  refine or5 (fun _ => rfl) (fun _ => rfl) (fun _ => vField0 _ _ _) (fun _ => ld b8 rfl) (fun _ => bin_gtr _ _ _ _) fun _ _ _ _ _ => ?_
  refine or5 (fun _ => rfl) (fun _ => rfl) (fun _ => vField0 _ _ _) (fun _ => ld b8 rfl) (fun _ => bin_lss _ _ _ _) fun _ _ _ _ _ => ?_
  refine or5 (fun _ => rfl) (fun _ => rfl) (fun _ => vField0 _ _ _) (fun _ => ld b8 rfl) (fun _ => bin_geq _ _ _ _) fun _ _ _ _ _ => ?_
  refine WIf_bool (fun _ => ?_) (fun hf => ?_)
  · rw [Ret_1 rfl]; exact hN σ8 k08
  · rw [Ret_1 rfl]
    simp only [Bool.or_eq_false_iff, decide_eq_false_iff_not] at hf
    obtain ⟨⟨⟨⟨⟨⟨f1, f2⟩, f3⟩, f4⟩, f5⟩, f6⟩, f7⟩ := hf
    have n8 := k8.next; have n7 := k7.next
    have nlt : t.nat < σ8.next.nat := by have := k8.ok.lt b8; omega
    exact hS t ⟨(k : Int), v1, v2, v3⟩ σ8 k08 (by omega) nlt b8 ⟨by show (k : Int) = 0 ∨ (k : Int) = 1; omega, by show 0 ≤ v1; omega, by show v1 < 1125899906842624 + ((0 : Nat) : Int); omega, by show 0 ≤ v2; omega, by show v2 ≤ _; omega, by show -1 ≤ v3; omega, by show v3 < 7; omega⟩
structure Mine (σ : S) (G M : Nat → Prop) (p : Pos) (cs : List AVal) : Prop where
  blk : σ.blk p = some ⟨0, .ex, cs⟩
  g : G p.nat
  m : ¬ M p.nat
theorem Mine.step {p : Pos} {cs : List AVal} (h : Mine σ G M p cs) (ho : Ok σ) (r : Rel3 σ G M σ' G' M') : Mine σ' G' M' p cs :=
  ⟨r.k.old _ _ h.blk h.m, r.g.1 _ h.g, fun hm => by
    rcases r.s _ hm with e | e
    · exact h.m e
    · have := ho.lt h.blk; omega⟩
theorem Mine.keep0 {p : Pos} {cs : List AVal} (h : Mine σ G M p cs) (k : Keep0 σ σ') : Mine σ' G M p cs := ⟨k.old _ _ h.blk (fun h => h), h.g, h.m⟩
def Plus (G : Nat → Prop) (p : Pos) : Nat → Prop := fun x => G x ∨ x = p.nat
theorem Gr.plus {p : Pos} (hp : σ.next.nat ≤ p.nat) (G : Nat → Prop) : Gr σ G (Plus G p) := ⟨fun _ h => .inl h, fun x hx h => by rcases h with h | h; exact h; omega⟩
theorem dM_G (h : DkAt σ G d D pf ps fv sv wv wc mw) : ∀ x, dM d pf ps mw x → G x := fun x hx => by
  rcases hx with hx | hx | hx | hx
  · rw [hx]; exact h.g1
  · rw [hx]; exact h.g2
  · rw [hx]; exact h.g3
  · rw [hx]; exact h.g4
theorem DkAt.plus (h : DkAt σ G d D pf ps fv sv wv wc mw) (ho : Ok σ) (k : Keep0 σ σ') {p : Pos} (hp : σ.next.nat ≤ p.nat) (hp' : p.nat < σ'.next.nat) : DkAt σ' (Plus G p) d D pf ps fv sv wv wc mw :=
  h.move ho k (fun _ h => h.elim) (fun _ _ h => h.elim) (Gr.plus hp G) fun x hx => by
    rcases hx with hx | hx
    · have := h.gl x hx; have := k.next; omega
    · omega
theorem Mine.new (h : ∀ x, M x → x < σ.next.nat) {p : Pos} {cs : List AVal} (hp : σ.next.nat ≤ p.nat) (hb : σ'.blk p = some ⟨0, .ex, cs⟩) : Mine σ' (Plus G p) M p cs := ⟨hb, .inr rfl, fun hm => by have := h _ hm; omega⟩
theorem Mine.plus {p q : Pos} {cs : List AVal} (h : Mine σ G M q cs) (k : Keep0 σ σ') : Mine σ' (Plus G p) M q cs := ⟨k.old _ _ h.blk (fun h => h), .inl h.g, h.m⟩
def DW (σ : S) (G M : Nat → Prop) (d : Pos) (w : Nat) : Prop := ∃ D pf ps fv sv wv wc mw, DkAt σ G d D pf ps fv sv wv wc mw ∧ DkSt w D ∧ M = dM d pf ps mw
theorem DW.lt {w : Nat} (h : DW σ G M d w) : ∀ x, M x → x < σ.next.nat := by
  obtain ⟨D, pf, ps, fv, sv, wv, wc, mw, h, _, rfl⟩ := h
  exact fun x hx => h.gl x (dM_G h x hx)
theorem DW.plus {w : Nat} (h : DW σ G M d w) (ho : Ok σ) (k : Keep0 σ σ') {p : Pos} (hp : σ.next.nat ≤ p.nat) (hp' : p.nat < σ'.next.nat) : DW σ' (Plus G p) M d w := by
  obtain ⟨D, pf, ps, fv, sv, wv, wc, mw, h, hd, e⟩ := h
  exact ⟨D, pf, ps, fv, sv, wv, wc, mw, h.plus ho k hp hp', hd, e⟩
theorem DW.keep0 {w : Nat} (h : DW σ G M d w) (k : Keep0 σ σ') : DW σ' G M d w := by
  obtain ⟨D, pf, ps, fv, sv, wv, wc, mw, h, hd, e⟩ := h
  exact ⟨D, pf, ps, fv, sv, wv, wc, mw, h.keep0 k, hd, e⟩
theorem DW.mono {w w' : Nat} (h : DW σ G M d w) (hw : w ≤ w') : DW σ G M d w' := by
  obtain ⟨D, pf, ps, fv, sv, wv, wc, mw, h, hd, e⟩ := h
  exact ⟨D, pf, ps, fv, sv, wv, wc, mw, h, hd.mono hw, e⟩
theorem Rel3.plus (k : Keep0 σ σ') {p : Pos} (hp : σ.next.nat ≤ p.nat) (G M : Nat → Prop) : Rel3 σ G M σ' (Plus G p) M := ⟨k.to, Gr.plus hp G, Sub.refl _ _⟩
theorem dwsync_c (ht : Tab tab) {w : Nat} (ho : Ok σ) (h : DW σ G M d w)
    (hQ : ∀ e σ' M', DW σ' G M' d w → Rel3 σ G M σ' G M' → Q (.int .i64 e) σ') : WF tab 44 [.ptr d 0] σ Q := by
  obtain ⟨D, pf, ps, fv, sv, wv, wc, mw, h, hd, rfl⟩ := h
  exact Sync_c ht ho h hd.ok (fun σ' _ hd' k => hQ 11 σ' _ ⟨_, _, _, _, _, _, _, _, hd', hd.count, rfl⟩ ⟨k, Gr.refl _ _, Sub.refl _ _⟩) (fun σ' _ hd' k => hQ 0 σ' _ ⟨_, _, _, _, _, _, _, _, hd', hd.count.sync.mono (Nat.zero_le _), rfl⟩ ⟨k, Gr.refl _ _, Sub.refl _ _⟩)
theorem dwsize_c (ht : Tab tab) {w k : Nat} (h : DW σ G M d w) (hk : k < 64) (hQ : ∀ n : Nat, Q (.int .i64 (n : Int)) σ) : WF tab 42 [.ptr d 0, .int .i64 (k : Int)] σ Q := by
  obtain ⟨D, pf, ps, fv, sv, wv, wc, mw, h, hd, rfl⟩ := h
  exact size_c ht h hk fun bs _ => hQ bs.length
theorem dm_sub {σ : S} {mw mw' : Nat} (h : mw' = mw ∨ σ.next.nat ≤ mw') : Sub σ (dM d pf ps mw) (dM d pf ps mw') := fun x hx => by
  rcases hx with e | e | e | e
  · exact .inl (.inl e)
  · exact .inl (.inr (.inl e))
  · exact .inl (.inr (.inr (.inl e)))
  · rcases h with g | g
    · exact .inl (.inr (.inr (.inr (by rw [e, g]))))
    · right; omega
theorem dwcut_c (ht : Tab tab) {w k : Nat} (ho : Ok σ) (h : DW σ G M d w) (hw : w + 10 < 1000000000) (hk : k < 64)
    (hQ : ∀ e σ' G' M', DW σ' G' M' d (w + 1) → Rel3 σ G M σ' G' M' → Q (.int .i64 e) σ') : WF tab 43 [.ptr d 0, .int .i64 (k : Int), .int .i64 0] σ Q := by
  obtain ⟨D, pf, ps, fv, sv, wv, wc, mw, h, hd, rfl⟩ := h
  have hwn := hd.wn
  exact Cut_c (n := 0) ht ho h hd.ok (by omega) hk (Nat.zero_le _) (fun σ' _ hd' k' => hQ 11 σ' G _ ⟨_, _, _, _, _, _, _, _, hd', hd.count.mono (by omega), rfl⟩ ⟨k', Gr.refl _ _, Sub.refl _ _⟩)
    (fun σ' G' fv' wv' wc' mw' _ hd' k' g l => hQ 0 σ' G' _ ⟨_, _, _, _, _, _, _, _, hd', hd.count.cutF hk (Nat.zero_le _) (by omega), rfl⟩ ⟨k', g, dm_sub l⟩)
theorem dwread_c (ht : Tab tab) {w k : Nat} (ho : Ok σ) (h : DW σ G M d w) (hk : k < 2)
    (hN : ∀ σ', DW σ' G M d w → Keep0 σ σ' → Q .nptr σ')
    (hS : ∀ p x σ', DW σ' (Plus G p) M d w → Keep0 σ σ' → Mine σ' (Plus G p) M p (x.cells d) → Me.Ok x 0 → σ.next.nat ≤ p.nat → Q (.ptr p 0) σ') : WF tab 82 [.ptr d 0, .int .i64 (k : Int)] σ Q := by
  have hl := h.lt
  have h' := h
  obtain ⟨D, pf, ps, fv, sv, wv, wc, mw, h, hd, e⟩ := h
  exact mread_c ht ho h hd.ok hk (fun σ' k1 => hN σ' (h'.keep0 k1) k1) (fun p x σ' k1 l1 l2 b1 hx => hS p x σ' (h'.plus ho k1 l1 l2) k1 (Mine.new hl l1 b1) hx l1)
section
variable {σ0 : S} {G0 M0 : Nat → Prop}
theorem mopen_end (ht : Tab tab) (ho0 : Ok σ0) {pm : Pos} {x : Me} (hN : ∀ e σ', e ≠ 0 → Q (.tup [.nptr, .int .i64 e]) σ') {w : Nat}
    (hS : ∀ σ' G' M', DW σ' G' M' d w → Rel3 σ0 G0 M0 σ' G' M' → Mine σ' G' M' pm (x.cells d) → Q (.tup [.ptr pm 0, .int .i64 0]) σ') (E : En) (h : DW σ G M d w) (r : Rel3 σ0 G0 M0 σ G M) (hm : Mine σ G M pm (x.cells d)) (e0 : E 0 = .ptr d 0) (e4 : E 4 = .ptr pm 0) : f58.J3 (WF tab) Q E σ := by
  refine f58.p3_of ?_
  unfold f58.p3
  rw [e0, e4]
  refine dwsync_c ht r.k.ok h fun e σ' M' h' r' => ?_
  refine Som_of (bin_neq _ _ _ _) (WIf_dec (fun _ => ?_) (fun _ => ?_))
  · rw [Ret_2 rfl rfl]; exact hN _ _ (by omega)
  · rw [Ret_2 rfl rfl]; exact hS σ' G M' h' (r.trans ho0 r') (hm.step r.k.ok r')
theorem mopen_loop2 (ht : Tab tab) (ho0 : Ok σ0) {pm : Pos} {x : Me} (hN : ∀ e σ', e ≠ 0 → Q (.tup [.nptr, .int .i64 e]) σ') {w0 : Nat} (hw0 : w0 + 20 < 1000000000)
    (hS : ∀ σ' G' M', DW σ' G' M' d (w0 + 2) → Rel3 σ0 G0 M0 σ' G' M' → Mine σ' G' M' pm (x.cells d) → Q (.tup [.ptr pm 0, .int .i64 0]) σ') (n : Nat) :
    ∀ (E : En) (σ : S) (G M : Nat → Prop) (i : Nat), DW σ G M d (w0 + i) → Rel3 σ0 G0 M0 σ G M → Mine σ G M pm (x.cells d) → i + n = 2 → E 0 = .ptr d 0 → E 4 = .ptr pm 0 → E 7 = .int .i64 ((i + 2 : Nat) : Int) → f58.L2 (WF tab) Q E σ := by
  induction n with
  | zero =>
    intro E σ G M i h r hm hi e0 e4 e7
    refine f58.p2_of ?_
    unfold f58.p2
    rw [e7]
    refine Som_of (bin_lss _ _ _ _) (WIf_f (by omega) ?_)
    exact mopen_end ht ho0 hN hS _ (h.mono (by omega)) r hm (by simp [e0]) (by simp [e4])
  | succ n ih =>
    intro E σ G M i h r hm hi e0 e4 e7
    refine f58.p2_of ?_
    unfold f58.p2
    rw [e0, e7]
    refine Som_of (bin_lss _ _ _ _) (WIf_t (by omega) ?_)
    refine dwsize_c ht h (by omega) fun k => ?_
    refine Som_of (bin_gtr _ _ _ _) ?_
    have next : ∀ (E' : En) (σ' : S) (G' M' : Nat → Prop), DW σ' G' M' d (w0 + (i + 1)) → Rel3 σ0 G0 M0 σ' G' M' → Mine σ' G' M' pm (x.cells d) → E' 0 = .ptr d 0 → E' 4 = .ptr pm 0 → E' 7 = .int .i64 (((i + 2 : Nat) : Int) + 1) → f58.L2 (WF tab) Q E' σ' := fun E' σ' G' M' h' r' m' a0 a4 a7 =>
      ih E' σ' G' M' (i + 1) h' r' m' (by omega) a0 a4 (by rw [a7]; rfl)
    by_cases hk : (0 : Int) < (k : Int)
    · rw [decide_eq_true hk]
      refine Sq_of rfl rfl (Sq_of rfl rfl (GE_t rfl ?_))
      refine dwcut_c ht r.k.ok h (by omega) (by omega) fun e σ' G' M' h' r' => ?_
      refine Sq_of rfl (bin_neq _ _ _ _) (Som_of rfl (WIf_dec (fun _ => ?_) (fun _ => ?_)))
      · rw [Ret_2 rfl rfl]; exact hN _ _ (by omega)
      · refine Som_of (bin_add _ _ _ _) ?_
        rw [wrap_i64_in (n := ((i + 2 : Nat) : Int) + 1) (by omega) (by omega)]
        exact next _ σ' G' M' h' (r.trans ho0 r') (hm.step r.k.ok r') (by simp [e0]) (by simp [e4]) (by simp)
    · rw [decide_eq_false hk]
      refine Sn_of rfl (Sn_of rfl (GE_n rfl (Sn_of rfl (Som_of (v := .bool false) rfl ?_))))
      rw [WIf_false]
      refine Som_of (bin_add _ _ _ _) ?_
      rw [wrap_i64_in (n := ((i + 2 : Nat) : Int) + 1) (by omega) (by omega)]
      exact next _ σ G M (h.mono (by omega)) r hm (by simp [e0]) (by simp [e4]) (by simp)
theorem mopen_loop0 (ht : Tab tab) (ho0 : Ok σ0) (hN : ∀ e σ', e ≠ 0 → Q (.tup [.nptr, .int .i64 e]) σ') {w0 : Nat} (hw0 : w0 + 20 < 1000000000)
    (hS : ∀ pm x σ' G' M', Me.Ok x 0 → σ0.next.nat ≤ pm.nat → DW σ' G' M' d (w0 + 2) → Rel3 σ0 G0 M0 σ' G' M' → Mine σ' G' M' pm (x.cells d) → Q (.tup [.ptr pm 0, .int .i64 0]) σ') (n : Nat) :
    ∀ (E : En) (σ : S) (G M : Nat → Prop) (i : Nat) (pm : Pos) (x : Me), Me.Ok x 0 → σ0.next.nat ≤ pm.nat → DW σ G M d w0 → Rel3 σ0 G0 M0 σ G M → Mine σ G M pm (x.cells d) → i + n = 2 → E 0 = .ptr d 0 → E 4 = .ptr pm 0 → E 15 = .int .i64 (i : Int) → f58.L0 (WF tab) Q E σ := by
  induction n with
  | zero =>
    intro E σ G M i pm x hx hpm h r hm hi e0 e4 e15
    refine f58.p0_of ?_
    unfold f58.p0
    rw [e15]
    refine Som_of (bin_lss _ _ _ _) (WIf_f (by omega) ?_)
    refine f58.p1_of ?_
    unfold f58.p1
    exact mopen_loop2 ht ho0 hN hw0 (fun σ' G' M' a b c => hS pm x σ' G' M' hx hpm a b c) 2 _ σ G M 0 h r hm rfl (by simp [e0]) (by simp [e4]) (by simp)
  | succ n ih =>
    intro E σ G M i pm x hx hpm h r hm hi e0 e4 e15
    refine f58.p0_of ?_
    unfold f58.p0
    rw [e0, e4, e15]
    refine Som_of (bin_lss _ _ _ _) (WIf_t (by omega) ?_)
    have ew : IntKind.i64.wrap ((i : Int) + 1) = ((i + 1 : Nat) : Int) := by
      rw [wrap_i64_in (n := (i : Int) + 1) (by omega) (by omega)]; omega
    refine dwread_c ht r.k.ok h (by omega) (fun σ' h' k' => ?_) (fun p y σ' h' k' m' hy hp => ?_)
    · refine Som_of neq_nn ?_
      have kb : Keep0 σ' (σ'.bumpT 13) := Keep.bump k'.ok 13
      refine Sn_of rfl (Sn_of rfl (Sn_of rfl (Sn_of rfl (Sn_of rfl (Sn_of rfl (Sn_of rfl (Sn_of rfl (Sn_of rfl (Som_of (v := .bool false) rfl ?_)))))))))
      rw [WIf_false]
      refine Som_of (bin_add _ _ _ _) ?_
      rw [ew]
      exact ih _ _ G M (i + 1) pm x hx hpm (h'.keep0 kb) (r.trans ho0 (Rel3.keep0 (k'.trans kb) G M)) (hm.keep0 (k'.trans kb)) (by omega) (by simp [e0]) (by simp [e4]) (by simp)
    · refine Som_of (neq_pn _ _) ?_
      have kb : Keep0 σ' (σ'.bumpT 13) := Keep.bump k'.ok 13
      have h2 := h'.keep0 kb
      have m2 := m'.keep0 kb
      have hm2 : Mine (σ'.bumpT 13) (Plus G p) M pm (x.cells d) := hm.plus (k'.trans kb)
      have r2 : Rel3 σ0 G0 M0 (σ'.bumpT 13) (Plus G p) M := r.trans ho0 (Rel3.plus (k'.trans kb) hp G M)
      have hpn : σ0.next.nat ≤ p.nat := by have := r.k.next; omega
      generalize σ'.bumpT 13 = σ2 at *
      refine Sq_of rfl rfl (Sq_of rfl rfl (Sq_of rfl (vField0 _ _ _) (Sq_of rfl (ld m2.blk rfl) (Sq_of rfl rfl (Sq_of rfl rfl (Sq_of rfl (vField0 _ _ _) (Sq_of rfl (ld hm2.blk rfl) (Sq_of rfl (bin_gtr _ _ _ _) (Som_of rfl ?_)))))))))
      refine WIf_dec (fun _ => ?_) (fun _ => ?_)
      · refine Som_of (bin_add _ _ _ _) ?_
        rw [ew]
        exact ih _ _ (Plus G p) M (i + 1) p y hy hpn h2 r2 m2 (by omega) (by simp [e0]) (by simp) (by simp)
      · refine Som_of (bin_add _ _ _ _) ?_
        rw [ew]
        exact ih _ _ (Plus G p) M (i + 1) pm x hx hpm h2 r2 hm2 (by omega) (by simp [e0]) (by simp [e4]) (by simp)
end
theorem mopen_c (ht : Tab tab) (ho : Ok σ) {w : Nat} (h : DW σ G M d w) (hw : w + 20 < 1000000000) (hN : ∀ e σ', e ≠ 0 → Q (.tup [.nptr, .int .i64 e]) σ')
    (hS : ∀ pm x σ' G' M', Me.Ok x 0 → σ.next.nat ≤ pm.nat → DW σ' G' M' d (w + 2) → Rel3 σ G M σ' G' M' → Mine σ' G' M' pm (x.cells d) → Q (.tup [.ptr pm 0, .int .i64 0]) σ') : WF tab 58 [.ptr d 0] σ Q := by
  refine f58_wf ht.t58 ?_
  unfold f58
  refine Som_of (eql_pn _ _) ?_
  rw [WIf_false]
  have h' := h
  have hlt := h.lt
  obtain ⟨D, pf, ps, fv, sv, wv, wc, mw, h, hd, e⟩ := h
  refine off_c ht h ?_
  cases D.off with
  | true => rw [WIf_true, Ret_2 rfl rfl]; exact hN _ _ (by omega)
  | false =>
    rw [WIf_false]
    refine Som_of (show vBuild [AVal.nptr, .int .i64 0, .int .i64 0, .int .i64 0, .int .i64 0] [(0, 1, .ptr d 0), (1, 1, .int .i64 1), (4, 1, .int .i64 (-1))] = some (.agg [.ptr d 0, .int .i64 1, .int .i64 0, .int .i64 0, .int .i64 (-1)]) from rfl) ?_
    obtain ⟨k1, b1, n1⟩ := boxC ho [.ptr d 0, .int .i64 1, .int .i64 0, .int .i64 0, .int .i64 (-1)]
    refine Ala_of (show aBoxV (.agg [AVal.ptr d 0, .int .i64 1, .int .i64 0, .int .i64 0, .int .i64 (-1)]) = some (⟨0, .ex, [.ptr d 0, .int .i64 1, .int .i64 0, .int .i64 0, .int .i64 (-1)]⟩, fun p => .ptr p 0) from rfl) ?_
    have h1 := h'.plus ho k1 (p := σ.next) (Nat.le_refl _) (by omega)
    have r1 : Rel3 σ G M _ (Plus G σ.next) M := Rel3.plus k1 (Nat.le_refl _) G M
    have m1 : Mine _ (Plus G σ.next) M σ.next ((⟨1, 0, 0, -1⟩ : Me).cells d) := Mine.new hlt (Nat.le_refl _) b1
    exact mopen_loop0 ht ho hN hw hS 2 _ _ _ _ 0 σ.next ⟨1, 0, 0, -1⟩ ⟨.inr rfl, by decide, by decide, by decide, by decide, by decide, by decide⟩ (Nat.le_refl _) h1 r1 m1 rfl (by simp) (by simp) (by simp)
end
end Go.Am
namespace Go.Am
section
variable {tab : Nat → Option PFn} {σ σ' : S} {Q : AVal → S → Prop} {G G' M M' : Nat → Prop} {l d : Pos} {a w : Nat}
def LW (σ : S) (G M : Nat → Prop) (l d : Pos) (a w : Nat) : Prop := ∃ L D rv mr, WL σ G l d L D rv mr M ∧ LgSt a L ∧ DkSt w D
theorem LW.lt (h : LW σ G M l d a w) : ∀ x, M x → x < σ.next.nat := by obtain ⟨L, D, rv, mr, h, _, _⟩ := h; exact h.lt
theorem LW.gl (h : LW σ G M l d a w) : ∀ x, G x → x < σ.next.nat := by obtain ⟨L, D, rv, mr, h, _, _⟩ := h; exact h.gl
theorem LW.hG (h : LW σ G M l d a w) : ∀ x, M x → G x := by obtain ⟨L, D, rv, mr, h, _, _⟩ := h; exact h.hG
theorem LW.keep0 (h : LW σ G M l d a w) (k : Keep0 σ σ') : LW σ' G M l d a w := by obtain ⟨L, D, rv, mr, h, h1, h2⟩ := h; exact ⟨L, D, rv, mr, h.keep0 k, h1, h2⟩
theorem LW.mono {a' w' : Nat} (h : LW σ G M l d a w) (ha : a ≤ a') (hw : w ≤ w') : LW σ G M l d a' w' := by obtain ⟨L, D, rv, mr, h, h1, h2⟩ := h; exact ⟨L, D, rv, mr, h, h1.mono ha, h2.mono hw⟩
theorem LW.other {N : Nat → Prop} (h : LW σ G M l d a w) (ho : Ok σ) (k : Keep N σ σ') (hn : ∀ x, N x → G x) (hx : ∀ x, N x → ¬ M x) : LW σ' G M l d a w := by
  obtain ⟨L, D, rv, mr, ⟨pf, ps, fv, sv, wv, wc, mw, h, e⟩, h1, h2⟩ := h
  refine ⟨L, D, rv, mr, ⟨pf, ps, fv, sv, wv, wc, mw, ⟨h.lg.move k (fun x hx' hn' => hx x hn' (by rw [e]; exact .inl hx')) (Gr.refl _ _) fun x hg => Nat.lt_of_lt_of_le (h.lg.gl x hg) k.next, h.dk.move ho k hn (fun x hx' hn' => hx x hn' (by rw [e]; exact .inr hx')) (Gr.refl _ _) fun x hg => Nat.lt_of_lt_of_le (h.lg.gl x hg) k.next, h.ap⟩, e⟩, h1, h2⟩
theorem LW.plus (h : LW σ G M l d a w) (ho : Ok σ) (k : Keep0 σ σ') {p : Pos} (hp : σ.next.nat ≤ p.nat) (hp' : p.nat < σ'.next.nat) : LW σ' (Plus G p) M l d a w := by
  have hgl := h.gl
  have n1 := k.next
  have hl : ∀ x, Plus G p x → x < σ'.next.nat := fun x hx => by
    rcases hx with hx | hx
    · have := hgl x hx; omega
    · omega
  obtain ⟨L, D, rv, mr, ⟨pf, ps, fv, sv, wv, wc, mw, h, e⟩, h1, h2⟩ := h
  exact ⟨L, D, rv, mr, ⟨pf, ps, fv, sv, wv, wc, mw, ⟨h.lg.move k (fun _ _ h => h) (Gr.plus hp G) hl, h.dk.move ho k (fun _ h => h.elim) (fun _ _ h => h) (Gr.plus hp G) hl, h.ap⟩, e⟩, h1, h2⟩
theorem lwfirst_c (ht : Tab tab) (h : LW σ G M l d a w) (hQ : ∀ n : Int, 1 ≤ n → n ≤ 1099511627777 → Q (.int .i64 n) σ) : WF tab 14 [.ptr l 0] σ Q := by
  obtain ⟨L, D, rv, mr, h, h1, h2⟩ := h
  have := h1.inn.lo; have := h1.inn.hi
  exact first_c ht h.lg (hQ _ (by omega) (by omega))
theorem lwcut_c (ht : Tab tab) (ho : Ok σ) (h : LW σ G M l d a w) (ha : a ≤ 100000) (hw : w + 10 < 1000000000) {i : Int} (hQ : ∀ e σ' G' M', LW σ' G' M' l d (a + 1) (w + 4) → Rel3 σ G M σ' G' M' → Q (.int .i64 e) σ') : WF tab 17 [.ptr l 0, .int .i64 i] σ Q := by
  obtain ⟨L, D, rv, mr, h, h1, h2⟩ := h
  have b1 := h1.many; have b2 := h1.inn.hi; have b3 := h1.age; have b4 := h2.wn
  refine cut_o ht ho h h1.ok h2.ok (by omega) h1.file (by omega) (by omega) (by omega) fun e L2 D2 o => ?_
  intro σ' G' M' rv' mr' hw' x y z
  obtain ⟨s1, s2⟩ := o.st h1 h2 hw (by omega)
  exact hQ e σ' G' M' ⟨L2, D2, rv', mr', hw', s1, s2⟩ ⟨x, y, z⟩
theorem lwdrop_c (ht : Tab tab) (ho : Ok σ) (h : LW σ G M l d a w) (ha : a ≤ 100000) (hw : w + 10 < 1000000000) {i : Int} (hQ : ∀ e σ' G' M', LW σ' G' M' l d (a + 1) (w + 4) → Rel3 σ G M σ' G' M' → Q (.int .i64 e) σ') : WF tab 19 [.ptr l 0, .int .i64 i] σ Q := by
  obtain ⟨L, D, rv, mr, h, h1, h2⟩ := h
  have b1 := h1.many; have b2 := h1.inn.hi; have b3 := h1.age; have b4 := h2.wn
  refine drop_o ht ho h h1.ok h2.ok (by omega) h1.file (by omega) (by omega) (by omega) fun e L2 D2 o => ?_
  intro σ' G' M' rv' mr' hw' x y z
  obtain ⟨s1, s2⟩ := o.st h1 h2 hw (by omega)
  exact hQ e σ' G' M' ⟨L2, D2, rv', mr', hw', s1, s2⟩ ⟨x, y, z⟩
theorem lwapp_c (ht : Tab tab) (ho : Ok σ) (h : LW σ G M l d a w) (ha : a ≤ 6690000) (hw : w + 10 < 1000000000) {i : Int} {v : AVal} {rs : List (List Nat)} {m : Nat} (hi : -9223372036854775808 ≤ i ∧ i ≤ 9223372036854775807) (hv : SlAt σ v 1 rs.length (strs rs) m) (hrs : ∀ r ∈ rs, Bytes r ∧ r.length ≤ 20000) (hrl : rs.length ≤ 1) (hmm : rs ≠ [] → ¬ M m)
    (hQ : ∀ e σ' G' M', LW σ' G' M' l d (a + 2) (w + 4) → Rel3 σ G M σ' G' M' → Q (.int .i64 e) σ') : WF tab 18 [.ptr l 0, .int .i64 i, v] σ Q := by
  obtain ⟨L, D, rv, mr, h, h1, h2⟩ := h
  have b1 := h1.many; have b2 := h1.inn.hi; have b3 := h1.age; have b4 := h2.wn; have b5 := h1.live
  refine append_o ht ho h h1.ok h2.ok (by omega) h1.file (by omega) hi hv hrs (by omega) hmm (by omega) (by omega) fun e L2 D2 o => ?_
  intro σ' G' M' rv' mr' hw' x y z
  obtain ⟨s1, s2⟩ := o.st h1 h2 hw (by omega) (by omega) hrs
  exact hQ e σ' G' M' ⟨L2, D2, rv', mr', hw', s1.mono (by omega), s2⟩ ⟨x, y, z⟩
theorem lwsync_c (ht : Tab tab) (ho : Ok σ) (h : LW σ G M l d a w) (hQ : ∀ e σ' G' M', LW σ' G' M' l d a w → Rel3 σ G M σ' G' M' → Q (.int .i64 e) σ') : WF tab 20 [.ptr l 0] σ Q := by
  obtain ⟨L, D, rv, mr, h, h1, h2⟩ := h
  refine lsync_c ht ho h h2.ok (fun _ => ?_) (fun _ => ?_)
  · intro σ' G' M' rv' mr' hw' x y z
    exact hQ 11 σ' G' M' ⟨L, _, rv', mr', hw', h1, h2.count⟩ ⟨x, y, z⟩
  · intro σ' G' M' rv' mr' hw' x y z
    exact hQ 0 σ' G' M' ⟨L, _, rv', mr', hw', h1, h2.count.sync.mono (Nat.zero_le _)⟩ ⟨x, y, z⟩
theorem lwdsync_c (ht : Tab tab) (ho : Ok σ) (h : LW σ G M l d a w) (hQ : ∀ e σ' M', LW σ' G M' l d a w → Rel3 σ G M σ' G M' → Q (.int .i64 e) σ') : WF tab 44 [.ptr d 0] σ Q := by
  obtain ⟨L, D, rv, mr, h, h1, h2⟩ := h
  exact wsync_c ht ho h h2.ok (fun σ' M' _ hw' r => hQ 11 σ' M' ⟨L, _, rv, mr, hw', h1, h2.count⟩ r) (fun σ' M' _ hw' r => hQ 0 σ' M' ⟨L, _, rv, mr, hw', h1, h2.count.sync.mono (Nat.zero_le _)⟩ r)
theorem lwdcut_c (ht : Tab tab) (ho : Ok σ) (h : LW σ G M l d a w) (hw : w + 10 < 1000000000) {k : Nat} (hk : k < 64) (hQ : ∀ e σ' G' M', LW σ' G' M' l d a (w + 1) → Rel3 σ G M σ' G' M' → Q (.int .i64 e) σ') : WF tab 43 [.ptr d 0, .int .i64 (k : Int), .int .i64 0] σ Q := by
  obtain ⟨L, D, rv, mr, h, h1, h2⟩ := h
  have hwn := h2.wn
  exact wcut_c (n := 0) ht ho h h2.ok (by omega) hk (Nat.zero_le _) (fun σ' M' _ hw' r => hQ 11 σ' G M' ⟨L, _, rv, mr, hw', h1, h2.count.mono (by omega)⟩ r) (fun σ' G' M' _ hw' r => hQ 0 σ' G' M' ⟨L, _, rv, mr, hw', h1, h2.count.cutF hk (Nat.zero_le _) (by omega)⟩ r)
theorem lwdsize_c (ht : Tab tab) (h : LW σ G M l d a w) {k : Nat} (hk : k < 64) (hQ : ∀ n : Nat, Q (.int .i64 (n : Int)) σ) : WF tab 42 [.ptr d 0, .int .i64 (k : Int)] σ Q := by
  obtain ⟨L, D, rv, mr, ⟨pf, ps, fv, sv, wv, wc, mw, h, e⟩, h1, h2⟩ := h
  exact size_c ht h.dk hk fun bs _ => hQ bs.length
theorem lwread_c (ht : Tab tab) (ho : Ok σ) (h : LW σ G M l d a w) {k : Nat} (hk : k < 64) (hQ : ∀ v bs m σ', Bytes bs → bs.length ≤ 2097152 → BySl σ' v bs m → Keep0 σ σ' → Q v σ') : WF tab 72 [.ptr d 0, .int .i64 (k : Int)] σ Q := by
  obtain ⟨L, D, rv, mr, ⟨pf, ps, fv, sv, wv, wc, mw, h, e⟩, h1, h2⟩ := h
  exact dread_any ht ho h.dk h2.ok hk hQ
theorem lwroom_c (ht : Tab tab) (ho : Ok σ) (h : LW σ G M l d a w) (hQ : ∀ (n : Int) σ', -1000000000 ≤ n → n ≤ 1000000000 → Keep0 σ σ' → Q (.int .i64 n) σ') : WF tab 108 [.ptr d 0] σ Q := by
  obtain ⟨L, D, rv, mr, ⟨pf, ps, fv, sv, wv, wc, mw, h, e⟩, h1, h2⟩ := h
  refine f108_wf ht.t108 ?_
  unfold f108
  have k1 : Keep0 σ (σ.bumpT 8) := Keep.bump ho 8
  have hd := h.dk.keep0 k1
  refine Som_of rfl (Som_of (vField0 _ _ _) (Som_of (ld hd.blk rfl) ?_))
  refine held_c ht hd h2.ok ?_
  refine Sure_of (SameO_of (ld hd.blk rfl) (same_int _ _)) (Som_of (bin_sub _ _ _ _) ?_)
  have hq := h2.ok.q
  have hl := h2.ok.held_le hd.fd
  rw [wrap_i64_in (n := (D.quota : Int) - (D.held : Int)) (by omega) (by omega), Ret_1 rfl]
  exact hQ _ _ (by omega) (by omega) k1
theorem lwwrite_c (ht : Tab tab) (ho : Ok σ) (h : LW σ G M l d a w) (hw : w + 10 < 1000000000) {k : Nat} (hk : k < 64) {v : AVal} {p : List Nat} {m : Nat} (hv : BySl σ v p m) (hpb : Bytes p) (hm : p ≠ [] → ¬ G m) (hpl : p.length ≤ 4611686018427387904)
    (hQ : ∀ e σ' G' M', LW σ' G' M' l d a (w + 1) → Rel3 σ G M σ' G' M' → Q (.int .i64 e) σ') : WF tab 10 [.ptr d 0, .int .i64 (k : Int), .int .i64 0, v] σ Q := by
  obtain ⟨L, D, rv, mr, ⟨pf, ps, fv, sv, wv, wc, mw, h, rfl⟩, h1, h2⟩ := h
  refine Write_any (a := 0) ht ho h.dk h2 hw hk hv hpb hm (Nat.zero_le _) hpl fun e σ' G' D' fv' wv' wc' mw' hd' h' k' g' m' => ?_
  obtain ⟨w1, w2, w3⟩ := h.setD h' k' g' m'
  exact hQ e σ' G' _ ⟨L, D', rv, mr, w1, h1, hd'⟩ ⟨w2, g', w3⟩
theorem lwopen_c (ht : Tab tab) (ho : Ok σ) (h : DW σ G M d w) (hw : w + 100 < 1000000000) (hN : ∀ e σ', e ≠ 0 → Q (.tup [.nptr, .int .i64 e]) σ')
    (hS : ∀ l σ' G' M', LW σ' G' M' l d 1 4 → Rel3 σ G M σ' G' M' → Q (.tup [.ptr l 0, .int .i64 0]) σ') : WF tab 12 [.ptr d 0] σ Q := by
  obtain ⟨D, pf, ps, fv, sv, wv, wc, mw, h, hd, rfl⟩ := h
  have := hd.wn
  refine open_o ht ho h hd.ok (by omega) (fun _ => hN _ _ (by omega)) (fun D' L' l σ' G' M' rv mr _ hw r _ => hN _ _ (by omega)) (fun D' L' l σ' G' M' rv mr hS' hst hw r _ => ?_)
  obtain ⟨st, d'⟩ := hS'.st hst (fun D1 h1 => trim_st 40 8 w D D1 h1 hd (by omega) (by omega))
  exact hS l σ' G' M' ⟨L', D', rv, mr, hw, st, d'⟩ r
end
end Go.Am
namespace Go.Am
section
variable {tab : Nat → Option PFn} {σ σ' : S} {Q : AVal → S → Prop} {G G' M M' : Nat → Prop} {l d : Pos} {a w : Nat}
abbrev zeroH : List AVal := [.int .i64 0, .int .i64 0, .int .i64 0, .int .i64 0, .str [], .nsl]
theorem readTo (ht : Tab tab) {r t : Pos} {bs : List Nat} {cs : List AVal} {bv : AVal} {mb n : Nat} {s : Option Nat} {k : Nat} {σ0 : S} (hk : k < cs.length) (hl : bs.length ≤ 1000000000) (hb : Bytes bs) (hr : RdSt σ r bs bv mb s) (hbk : σ.blk t = some ⟨0, .ex, cs⟩)
    (hrt : r.nat ≠ t.nat) (hmt : mb ≠ t.nat) (hnr : n ≤ r.nat) (hnt : n ≤ t.nat) (hkp : Keep (fun x => n ≤ x) σ0 σ) {K : AVal → AVal → S → Prop}
    (hK : ∀ v ad σ' s', RdSt σ' r bs bv mb s' → σ'.blk t = some ⟨0, .ex, cs.set k (.int .i64 v)⟩ → Keep (fun x => n ≤ x) σ0 σ' → K (.int .i64 v) ad σ') :
    WF tab 85 [.ptr r 0] σ fun v σa => Som (vFieldAddr k (.ptr t 0)) fun ad => Eff (storeW 1 ad v σa) fun _ σb => K v ad σb := by
  refine Num_any ht hkp.ok hl hb hr fun σa ra ka => ?_
  have ba := ka.old _ _ hbk (fun e => hrt e.symm)
  refine Som_of (vField0 _ _ _) (Eff_of (store1_of ba (by omega) rfl) ?_)
  rw [Nat.zero_add]
  have kb : Keep (fun x => x = t.nat) σa _ := Keep.upd ka.ok ba (c := ⟨0, .ex, cs.set k (.int .i64 (stepV bs s))⟩) rfl
  exact hK _ _ _ _ (ra.keep kb (fun e => hrt e) (fun e => hmt e)) (blk_upd_same _ _) ((hkp.trans (ka.mono fun x e => by rw [e]; exact hnr)).trans (kb.mono fun x e => by rw [e]; exact hnt))
theorem snapshot_c (ht : Tab tab) (ho : Ok σ) (h : LW σ G M l d a w) {k : Nat} (hk : k < 64)
    (hQ : ∀ (x : Hd) age σ', x.log = [] → Bytes x.snap → (age ≠ 0 → 1 ≤ age ∧ age < 1125899906842624) → Keep0 σ σ' → Q (.tup [x.val .nsl, .int .i64 age]) σ') : WF tab 61 [.ptr d 0, .int .i64 (k : Int)] σ Q := by
  refine f61_wf ht.t61 ?_
  unfold f61
  obtain ⟨k1, b1, n1⟩ := boxC ho zeroH
  refine Ala_of (show aAllocV zeroH = some (⟨0, .ex, zeroH⟩, fun p => .ptr p 0) from rfl) ?_
  have h1 := h.keep0 k1
  generalize ht4 : σ.next = t4 at *
  generalize σ.new ⟨0, .ex, zeroH⟩ = σ1 at *
  have hb0 : vBuild zeroH [] = some (.agg zeroH) := rfl
  have bad : ∀ σ2, Keep (fun x => t4.nat ≤ x) σ σ2 → σ2.blk t4 = some ⟨0, .ex, zeroH⟩ → Som (vBuild zeroH []) fun t22 => Eff (storeW 6 (.ptr t4 0) t22 σ2) fun _ σ4 => Ret [vLoadN 6 (.ptr t4 0) σ4, some (.int .i64 0)] σ4 Q := by
    intro σ2 k2 b2
    refine Som_of hb0 (Eff_of (storeN_of (xs := zeroH) b2 rfl (by omega) (by simp)) ?_)
    have e1 : (zeroH.take 0 ++ zeroH ++ zeroH.drop (0 + 6)) = zeroH := rfl
    rw [e1, ldN (n := 6) (xs := zeroH) (blk_upd_same _ _) (by simp) rfl, Ret_2 rfl rfl]
    have k3 : Keep (fun x => x = t4.nat) σ2 (σ2.upd t4 ⟨0, .ex, zeroH⟩) := Keep.upd k2.ok b2 rfl
    exact hQ ⟨0, 0, 0, 0, [], []⟩ 0 _ rfl Bytes.nil (fun h => absurd rfl h) ((k2.trans (k3.mono fun x e => by omega)).old0 ho (by rw [ht4]; omega))
  refine lwread_c ht k1.ok h1 hk fun v b m σ2 hb hbl hv k2 => ?_
  have b2 := k2.old _ _ b1 (fun h => h)
  refine Next_c (a := 0) ht k2.ok hv hb (by omega) (by omega) (fun e σ3 _ he k3 => ?_) (fun p to v3 σ3 mp hnx hw k3 => ?_)
  · refine Som_of rfl (Som_of rfl (Som_of rfl (Som_of (bin_neq _ _ _ _) (WIf_t he ?_))))
    exact bad σ3 ((k1.trans k2).trans k3).to (k3.old _ _ b2 (fun h => h))
  obtain ⟨p1, p2, p3⟩ := nextF_len hnx
  have hpb := nextF_bytes hnx hb
  refine Som_of rfl (Som_of rfl (Som_of rfl (Som_of (bin_neq _ _ _ _) (WIf_f (by omega) ?_))))
  have k03 := (k1.trans k2).trans k3
  have b3 := k3.old _ _ b2 (fun h => h)
  refine read_c ht k3.ok hw (by omega) fun r bv mb σ4 r4 k4 l4 l4' l4'' l4m => ?_
  have k04 := k03.trans k4
  have b4 := k4.old _ _ b3 (fun h => h)
  obtain ⟨k5, b5, n5⟩ := boxC k4.ok zeroH
  refine Ala_of (show aAllocV zeroH = some (⟨0, .ex, zeroH⟩, fun p => .ptr p 0) from rfl) ?_
  have s5 : RdSt (σ4.new ⟨0, .ex, zeroH⟩) r p bv mb (some 0) := ⟨Nat.zero_le _, r4.keep k5 (fun h => h) (fun h => h)⟩
  have b45 := k5.old _ _ b4 (fun h => h)
  generalize ht10 : σ4.next = t10 at *
  generalize σ4.new ⟨0, .ex, zeroH⟩ = σ5 at *
  have n03 := k03.next; have n1' := k1.next; have n2' := k2.next; have n3' := k3.next
  have or : r.nat ≠ t10.nat := by omega
  have omb : mb ≠ t10.nat := by omega
  have o4 : t4.nat ≠ r.nat := by omega
  have o10 : t4.nat ≠ t10.nat := by omega
  have kk5 : Keep (fun x => t4.nat ≤ x) σ σ5 := (k04.trans k5).to
  refine Num_any ht kk5.ok (by omega) hpb s5 fun σ6 r6 k6 => ?_
  have b6 := k6.old _ _ b5 (fun e => or e.symm)
  have kk6 : Keep (fun x => t4.nat ≤ x) σ σ6 := kk5.trans (k6.mono fun x e => by rw [e]; omega)
  have b46 := k6.old _ _ b45 o4
  -- the two others: what is kept is told by the numbers that are changed
  have kn : Keep (fun x => σ3.next.nat ≤ x) σ6 σ6 := Keep.refl kk6.ok
  refine readTo ht (k := 2) (by simp) (by omega) hpb r6 b6 or omb (n := σ3.next.nat) (by omega) (by omega) kn fun v2 _ σ7 s7 r7 b7 k7 => ?_
  refine readTo ht (k := 3) (by simp) (by omega) hpb r7 b7 or omb (n := σ3.next.nat) (by omega) (by omega) k7 fun v3' _ σ8 s8 r8 b8 k8 => ?_
  refine rtext_c ht k8.ok (by omega) hpb r8 fun tx σ9 s9 htx r9 k9 => ?_
  have b9 := k9.old _ _ b8 (fun e => or e.symm)
  refine Som_of (vField0 _ _ _) (Eff_of (store1_of b9 (by simp) rfl) ?_)
  have e9 : ((((zeroH.set 2 (.int .i64 v2)).set 3 (.int .i64 v3')).set (0 + 4) (.str tx))) = (⟨0, 0, v2, v3', tx, []⟩ : Hd).cells .nsl := rfl
  rw [e9]
  have k10 : Keep (fun x => x = t10.nat) σ9 (σ9.upd t10 ⟨0, .ex, (⟨0, 0, v2, v3', tx, []⟩ : Hd).cells .nsl⟩) := Keep.upd k9.ok b9 rfl
  have b10 : (σ9.upd t10 ⟨0, .ex, (⟨0, 0, v2, v3', tx, []⟩ : Hd).cells .nsl⟩).blk t10 = some ⟨0, .ex, (⟨0, 0, v2, v3', tx, []⟩ : Hd).cells .nsl⟩ := blk_upd_same _ _
  have r10 := r9.keep k10 (fun e => or e) (fun e => omb e)
  generalize σ9.upd t10 ⟨0, .ex, (⟨0, 0, v2, v3', tx, []⟩ : Hd).cells .nsl⟩ = σ10 at *
  have k610 : Keep (fun x => σ3.next.nat ≤ x) σ6 σ10 := (k8.trans (k9.mono fun x e => by rw [e]; omega)).trans (k10.mono fun x e => by rw [e]; omega)
  refine end_c ht k10.ok r10 fun e σ11 k11 => ?_
  have b11 := k11.old _ _ b10 (fun e => or e.symm)
  have k611 : Keep (fun x => σ3.next.nat ≤ x) σ6 σ11 := k610.trans (k11.mono fun x e => by rw [e]; omega)
  have b411 := k611.old _ _ b46 (fun e => by have e : σ3.next.nat ≤ t4.nat := e; omega)
  have k011 : Keep (fun x => t4.nat ≤ x) σ σ11 := kk6.trans (k611.mono fun x e => by omega)
  generalize hage : stepV p (some 0) = age
  refine Som_of (bin_neq _ _ _ _) ?_
  refine or2 (fun _ => rfl) (fun _ => bin_lss _ _ _ _) fun _ _ => ?_
  refine or2 (fun _ => rfl) (fun _ => bin_geq _ _ _ _) fun _ _ => ?_
  refine WIf_bool (fun _ => bad σ11 k011 b411) (fun hf => ?_)
  simp only [Bool.or_eq_false_iff, decide_eq_false_iff_not] at hf
  obtain ⟨⟨f1, f2⟩, f3⟩ := hf
  refine Som_of (ldN (n := 6) (xs := (⟨0, 0, v2, v3', tx, []⟩ : Hd).cells .nsl) b11 (by simp [Hd.cells]) rfl) (Eff_of (storeN_of (xs := (⟨0, 0, v2, v3', tx, []⟩ : Hd).cells .nsl) b411 rfl (by omega) (by simp)) ?_)
  have e2 : (zeroH.take 0 ++ (⟨0, 0, v2, v3', tx, []⟩ : Hd).cells .nsl ++ zeroH.drop (0 + 6)) = (⟨0, 0, v2, v3', tx, []⟩ : Hd).cells .nsl := rfl
  rw [e2, ldN (n := 6) (xs := (⟨0, 0, v2, v3', tx, []⟩ : Hd).cells .nsl) (blk_upd_same _ _) (by simp [Hd.cells]) rfl, Ret_2 rfl rfl]
  have k12 : Keep (fun x => x = t4.nat) σ11 (σ11.upd t4 ⟨0, .ex, (⟨0, 0, v2, v3', tx, []⟩ : Hd).cells .nsl⟩) := Keep.upd k11.ok b411 rfl
  exact hQ ⟨0, 0, v2, v3', tx, []⟩ age _ rfl htx (fun _ => ⟨by omega, by omega⟩) ((k011.trans (k12.mono fun x e => by omega)).old0 ho (by rw [ht4]; omega))
theorem strBytes_of (ho : Ok σ) (s : List Nat) : aBytesV (.str s) = some (⟨1, .fam Pos.first 0, bytesV s⟩, fun p => .slu p 0 (lenS s) 1) ∧ Keep0 σ (σ.new ⟨1, .fam Pos.first 0, bytesV s⟩) ∧ BySl (σ.new ⟨1, .fam Pos.first 0, bytesV s⟩) (.slu σ.next 0 (lenS s) 1) s σ.next.nat := by
  obtain ⟨g, k⟩ := newFam_gr (M := fun _ => False) ho (esz := 1) (n := s.length) (cells := bytesV s) (by rw [bytesV_len]; omega)
  refine ⟨rfl, k, ?_⟩
  rw [lenS_eq]
  exact g.sl
theorem slStrL {s : List Nat} {k : Nat} (hk : k ≤ s.length) : vSlStr (.str s) (some (.int .i64 (k : Int))) none = some (.str (s.drop k)) := by
  show andThen (bounds (some (.int .i64 (k : Int))) none none (lenS s) (lenS s)) _ = _
  unfold bounds
  rw [lenS_eq, bnd_none, andThen_s, bnd_none, andThen_s, bnd_some hk, andThen_s, andThen_s]
  show forceNats ((s.drop k).take (s.length - k)) (fun s => some (AVal.str s)) = _
  rw [forceNats_eq, List.take_of_length_le (by rw [List.length_drop]; omega)]
theorem wlget_c (ht : Tab tab) (ho : Ok σ) {L : Lg} {rv : AVal} {mr : Nat} (h : LgAt σ G l d L rv mr) (hst : LgSt a L) {i : Int} (hi : i ≤ 9223372036854775807) (hQ : ∀ r b σ', (b = true → (L.first : Int) ≤ i) → Bytes r → r.length ≤ 20000 → Keep0 σ σ' → Q (.tup [.str r, .bool b]) σ') : WF tab 16 [.ptr l 0, .int .i64 i] σ Q := by
  refine get_o ht ho h hst.ok hi (fun _ σ' k => hQ [] false σ' (fun h => by cases h) Bytes.nil (Nat.zero_le _) k) (fun r hr σ' k => ?_)
  have hm : r ∈ L.recs ∧ ¬ i < L.first := by
    unfold Lg.get at hr
    split at hr
    · cases hr
    · rename_i hlt; exact ⟨List.mem_of_getElem? hr, hlt⟩
  exact hQ r true σ' (fun _ => by have := hm.2; omega) (hst.ok.recs r hm.1).1 (hst.ok.recs r hm.1).2 k
theorem entry_c (ht : Tab tab) (ho : Ok σ) {L : Lg} {rv : AVal} {mr : Nat} (h : LgAt σ G l d L rv mr) (hst : LgSt a L) {i : Int} (hi : i ≤ 9223372036854775807)
    (hQ : ∀ (e : Int × List Nat) b σ', (b = true → (L.first : Int) ≤ i) → Bytes e.2 → e.2.length ≤ 20000 → Keep0 σ σ' → Q (.tup [.agg [.int .i64 e.1, .str e.2], .bool b]) σ') : WF tab 90 [.ptr l 0, .int .i64 i] σ Q := by
  refine f90_wf ht.t90 ?_
  unfold f90
  obtain ⟨k1, b1, n1⟩ := boxC ho [.int .i64 0, .str []]
  refine Ala_of (show aAllocV [.int .i64 0, .str []] = some (⟨0, .ex, [.int .i64 0, .str []]⟩, fun p => .ptr p 0) from rfl) ?_
  have h1 := h.keep0 k1
  generalize ht4 : σ.next = t4 at *
  generalize σ.new ⟨0, .ex, [.int .i64 0, .str []]⟩ = σ1 at *
  have bad : ∀ σ2, Keep (fun x => t4.nat ≤ x) σ σ2 → σ2.blk t4 = some ⟨0, .ex, [.int .i64 0, .str []]⟩ → Som (vBuild [(.int .i64 0), (.str [])] []) fun t31 => Eff (storeW 2 (.ptr t4 0) t31 σ2) fun _ σ7 => Ret [vLoadN 2 (.ptr t4 0) σ7, some (.bool false)] σ7 Q := by
    intro σ2 k2 b2
    refine Som_of (show vBuild [AVal.int .i64 0, .str []] [] = some (.agg [.int .i64 0, .str []]) from rfl) (Eff_of (storeN_of (xs := [.int .i64 0, .str []]) b2 rfl (by omega) (by simp)) ?_)
    have e1 : ([AVal.int .i64 0, .str []].take 0 ++ [.int .i64 0, .str []] ++ [AVal.int .i64 0, .str []].drop (0 + 2)) = [.int .i64 0, .str []] := rfl
    rw [e1, ldN (n := 2) (xs := [.int .i64 0, .str []]) (blk_upd_same _ _) (by simp) rfl, Ret_2 rfl rfl]
    have k3 : Keep (fun x => x = t4.nat) σ2 (σ2.upd t4 ⟨0, .ex, [.int .i64 0, .str []]⟩) := Keep.upd k2.ok b2 rfl
    exact hQ (0, []) false _ (fun h => by cases h) Bytes.nil (Nat.zero_le _) ((k2.trans (k3.mono fun x e => by omega)).old0 ho (by rw [ht4]; omega))
  refine wlget_c ht k1.ok h1 hst hi fun r b σ2 hfi hrb hrl k2 => ?_
  have b2 := k2.old _ _ b1 (fun h => h)
  refine Som_of rfl (Som_of rfl ?_)
  obtain ⟨q1, k3, s3⟩ := strBytes_of k2.ok r
  refine Ala_of q1 ?_
  have b3 := k3.old _ _ b2 (fun h => h)
  generalize σ2.new ⟨1, .fam Pos.first 0, bytesV r⟩ = σ3 at *
  refine read_c ht k3.ok s3 (by omega) fun p bv mb σ4 r4 k4 l4 l4' l4'' l4m => ?_
  have b4 := k4.old _ _ b3 (fun h => h)
  have k04 := ((k1.trans k2).trans k3).trans k4
  have n1' := k1.next; have n2 := k2.next; have n3 := k3.next; have n4 := k4.next
  have r4' : RdSt σ4 p r bv mb (some 0) := ⟨Nat.zero_le _, r4⟩
  refine Num_any ht k4.ok (by omega) hrb r4' fun σ5 r5 k5 => ?_
  have op : t4.nat ≠ p.nat := by omega
  have b5 := k5.old _ _ b4 op
  have k05 : Keep (fun x => t4.nat ≤ x) σ σ5 := k04.to.trans (k5.mono fun x e => by rw [e]; omega)
  generalize stepV r (some 0) = v at *
  refine Som_of (un_not _) ?_
  cases b with
  | false =>
    refine Sn_of rfl (Sn_of rfl (Sn_of rfl (Sn_of rfl (GE_n rfl (Sn_of rfl (Som_of (v := .bool true) rfl ?_))))))
    rw [WIf_true]
    exact bad σ5 k05 b5
  | true =>
    generalize stepS r (some 0) = s at *
    cases s with
    | none =>
      obtain ⟨fa, fw, a', hw0, hra⟩ := r5
      refine Sq_of rfl rfl (Sq_of rfl rfl (Sq_of rfl (vField0 _ _ _) (Sq_of rfl (ldN (n := 2) hra.blk (by simp) rfl) (GE_t rfl ?_))))
      refine good_c ht k5.ok fun σ6 k6 => ?_
      rw [decide_eq_false hw0]
      refine Sq_of rfl (un_not _) (Som_of (v := .bool true) rfl ?_)
      rw [WIf_true]
      exact bad σ6 (k05.trans k6.to) (k6.old _ _ b5 (fun h => h))
    | some a' =>
      obtain ⟨ha', hra⟩ := r5
      refine Sq_of rfl rfl (Sq_of rfl rfl (Sq_of rfl (vField0 _ _ _) (Sq_of rfl (ldN (n := 2) hra.blk (by simp) rfl) (GE_t rfl ?_))))
      refine good_c ht k5.ok fun σ6 k6 => ?_
      rw [decide_eq_true rfl]
      refine Sq_of rfl (un_not _) (Som_of (v := .bool false) rfl ?_)
      rw [WIf_false]
      have hra6 := hra.keep k6 (fun h => h) (fun h => h)
      refine rdnext_c ht hra6 ?_
      have b6 := k6.old _ _ b5 (fun h => h)
      refine Som_of (slStrL ha') (Som_of (show vBuild [AVal.int .i64 0, .str []] [(0, 1, .int .i64 v), (1, 1, .str (r.drop a'))] = some (.agg [.int .i64 v, .str (r.drop a')]) from rfl) (Eff_of (storeN_of (xs := [.int .i64 v, .str (r.drop a')]) b6 rfl (by omega) (by simp)) ?_))
      have e1 : ([AVal.int .i64 0, .str []].take 0 ++ [.int .i64 v, .str (r.drop a')] ++ [AVal.int .i64 0, .str []].drop (0 + 2)) = [.int .i64 v, .str (r.drop a')] := rfl
      rw [e1, ldN (n := 2) (xs := [.int .i64 v, .str (r.drop a')]) (blk_upd_same _ _) (by simp) rfl, Ret_2 rfl rfl]
      have k7 : Keep (fun x => x = t4.nat) σ6 (σ6.upd t4 ⟨0, .ex, [.int .i64 v, .str (r.drop a')]⟩) := Keep.upd k6.ok b6 rfl
      exact hQ (v, r.drop a') true _ (fun _ => hfi rfl) (hrb.drop a') (by show (r.drop a').length ≤ 20000; rw [List.length_drop]; omega) (((k05.trans k6.to).trans (k7.mono fun x e => by omega)).old0 ho (by rw [ht4]; omega))
theorem stays_c (ht : Tab tab) (ho : Ok σ) {L : Lg} {rv : AVal} {mr : Nat} (h : LgAt σ G l d L rv mr) (hst : LgSt a L) {base term : Int} (h0 : 0 ≤ base) (hb : base ≤ 4611686018427387904) (hQ : ∀ b σ', (b = true → (L.first : Int) ≤ base + 1) → Keep0 σ σ' → Q (.bool b) σ') : WF tab 89 [.ptr l 0, .int .i64 base, .int .i64 term] σ Q := by
  refine f89_wf ht.t89 ?_
  unfold f89
  refine first_c ht h ?_
  refine Som_of (bin_add _ _ _ _) (Som_of (bin_eql _ _ _ _) ?_)
  rw [wrap_i64_in (n := base + 1) (by omega) (by omega)]
  refine WIf_dec (fun he => ?_) (fun _ => ?_)
  · rw [Ret_1 rfl]; exact hQ true σ (fun _ => by omega) (Keep.refl ho)
  refine entry_c ht ho h hst (by omega) fun e b σ1 hfi _ _ k1 => ?_
  refine Som_of rfl (Som_of rfl ?_)
  obtain ⟨k2, b2, n2⟩ := boxC k1.ok [.int .i64 0, .str []]
  refine Ala_of (show aAllocV [.int .i64 0, .str []] = some (⟨0, .ex, [.int .i64 0, .str []]⟩, fun p => .ptr p 0) from rfl) ?_
  have n1 := k1.next
  generalize ht7 : σ1.next = t7 at *
  generalize σ1.new ⟨0, .ex, [.int .i64 0, .str []]⟩ = σ2 at *
  refine Eff_of (storeN_of (xs := [.int .i64 e.1, .str e.2]) b2 rfl (by omega) (by simp)) ?_
  have e1 : ([AVal.int .i64 0, .str []].take 0 ++ [.int .i64 e.1, .str e.2] ++ [AVal.int .i64 0, .str []].drop (0 + 2)) = [.int .i64 e.1, .str e.2] := rfl
  rw [e1]
  have k3 : Keep (fun x => x = t7.nat) σ2 (σ2.upd t7 ⟨0, .ex, [.int .i64 e.1, .str e.2]⟩) := Keep.upd k2.ok b2 rfl
  have b3 : (σ2.upd t7 ⟨0, .ex, [.int .i64 e.1, .str e.2]⟩).blk t7 = some ⟨0, .ex, [.int .i64 e.1, .str e.2]⟩ := blk_upd_same _ _
  generalize σ2.upd t7 ⟨0, .ex, [.int .i64 e.1, .str e.2]⟩ = σ3 at *
  refine and4 (fun _ => vField0 _ _ _) (fun _ => ld b3 rfl) (fun _ => rfl) (fun _ => bin_eql _ _ _ _) fun _ _ _ _ => ?_
  rw [Ret_1 rfl]
  exact hQ _ σ3 (fun hh => by have := hfi (by cases b with | true => rfl | false => cases hh); omega) ((k1.trans k2).then ho k3 fun x hx e => by omega)
theorem may_c (ht : Tab tab) {t v t' v' : Int} (hQ : ∀ b : Bool, (b = true → t ≤ t' ∧ t' ≤ 1099511627776 ∧ -1 ≤ v' ∧ v' < 7) → Q (.bool b) σ) : WF tab 92 [.int .i64 t, .int .i64 v, .int .i64 t', .int .i64 v'] σ Q := by
  refine f92_wf ht.t92 ?_
  unfold f92
  refine Som_of (bin_lss _ _ _ _) ?_
  refine or2 (fun _ => rfl) (fun _ => bin_gtr _ _ _ _) fun _ _ => ?_
  refine or2 (fun _ => rfl) (fun _ => bin_lss _ _ _ _) fun _ _ => ?_
  refine or2 (fun _ => rfl) (fun _ => bin_geq _ _ _ _) fun _ _ => ?_
  refine WIf_bool (fun _ => ?_) (fun hf => ?_)
  · rw [Ret_1 rfl]; exact hQ false fun h => by cases h
  simp only [Bool.or_eq_false_iff, decide_eq_false_iff_not] at hf
  obtain ⟨⟨⟨f1, f2⟩, f3⟩, f4⟩ := hf
  refine Som_of (bin_gtr _ _ _ _) ?_
  refine or2 (fun _ => rfl) (fun _ => bin_eql _ _ _ _) fun _ _ => ?_
  refine orr3 (fun _ => rfl) (fun _ => rfl) (fun _ => bin_eql _ _ _ _) fun _ _ _ => ?_
  rw [Ret_1 rfl]
  exact hQ _ fun _ => ⟨by omega, by omega, by omega, by omega⟩
end
end Go.Am
namespace Go.Am
section
variable {tab : Nat → Option PFn} {σ σ' σ0 : S} {Q : AVal → S → Prop} {G0 G G' M M' : Nat → Prop} {l d pm s : Pos} {a w : Nat}
structure Sv where
  file : Int
  age : Int
  h : Hd
  dead : Int
def Sv.cells (y : Sv) (pm l d : Pos) (lv : AVal) : List AVal := [.ptr pm 0, .ptr l 0, .ptr d 0, .int .i64 y.file, .int .i64 y.age, .int .i64 y.h.term, .int .i64 y.h.vote, .int .i64 y.h.base, .int .i64 y.h.bterm, .str y.h.snap, lv, .int .i64 y.dead]
def EsAt (σ : S) (G : Nat → Prop) (v : AVal) (es : List (Int × List Nat)) : Prop := ∃ m, EnAt σ v es m ∧ (es ≠ [] → ¬ G m)
theorem EsAt.move {N : Nat → Prop} {v : AVal} {es : List (Int × List Nat)} (h : EsAt σ G v es) (ho : Ok σ) (k : Keep N σ σ') (hn : ∀ x, N x → G x) (g : Gr σ G G') : EsAt σ' G' v es := by
  obtain ⟨m, h1, h2⟩ := h
  refine ⟨m, h1.keep (fun hz hm => ?_) k, fun hz hg => ?_⟩
  · have hne : es ≠ [] := fun e => by rw [e] at hz; exact hz rfl
    exact h2 hne (hn m hm)
  · have hz' : es.length * 2 ≠ 0 := by have := List.length_pos_iff.2 hz; omega
    exact h2 hz (g.2 m (SlAt.own_lt h1 ho hz') hg)
theorem EsAt.of {v : AVal} {es : List (Int × List Nat)} {m : Nat} (h : EnAt σ v es m) (hm : es ≠ [] → ¬ G m) : EsAt σ G v es := ⟨m, h, hm⟩
theorem EsAt.k0 {v : AVal} {es : List (Int × List Nat)} (h : EsAt σ G v es) (k : Keep0 σ σ') : EsAt σ' G v es := by
  obtain ⟨m, h1, h2⟩ := h
  exact ⟨m, h1.keep0 k, h2⟩
structure SW (σ0 : S) (G0 : Nat → Prop) (σ : S) (G M : Nat → Prop) (l d pm s : Pos) (a w : Nat) (x : Me) (y : Sv) (lv : AVal) : Prop where
  si : Keep G0 σ0 σ
  g1 : ∀ x, G0 x → G x
  gn : ∀ x, x < σ0.next.nat → G x → G0 x
  lw : LW σ G M l d a w
  mb : Mine σ G M pm (x.cells d)
  sb : Mine σ G M s (y.cells pm l d lv)
  ne : pm ≠ s
  en : EsAt σ G lv y.h.log
variable {x x' : Me} {y y' : Sv} {lv lv' : AVal}
theorem SW.step {a' w' : Nat} (h : SW σ0 G0 σ G M l d pm s a w x y lv) (ho0 : Ok σ0) (h' : LW σ' G' M' l d a' w') (r : Rel3 σ G M σ' G' M') : SW σ0 G0 σ' G' M' l d pm s a' w' x y lv := by
  have ho := h.si.ok
  have hn := h.si.next
  exact ⟨h.si.then ho0 r.k fun x hx hm => h.gn x hx (h.lw.hG x hm), fun x hx => r.g.1 x (h.g1 x hx), fun x hx hg => h.gn x hx (r.g.2 x (by omega) hg), h', h.mb.step ho r, h.sb.step ho r, h.ne, h.en.move ho r.k h.lw.hG r.g⟩
theorem SW.k0 (h : SW σ0 G0 σ G M l d pm s a w x y lv) (k : Keep0 σ σ') : SW σ0 G0 σ' G M l d pm s a w x y lv :=
  ⟨h.si.trans k.to, h.g1, h.gn, h.lw.keep0 k, h.mb.keep0 k, h.sb.keep0 k, h.ne, h.en.k0 k⟩
theorem SW.re (h : SW σ0 G0 σ G M l d pm s a w x y lv) : SW σ G σ G M l d pm s a w x y lv := ⟨Keep.refl h.si.ok, fun _ h => h, fun _ _ h => h, h.lw, h.mb, h.sb, h.ne, h.en⟩
theorem SW.un {a' w' : Nat} {x' : Me} {y' : Sv} {lv' : AVal} (h0 : SW σ0 G0 σ G M l d pm s a w x y lv) (ho0 : Ok σ0) (h : SW σ G σ' G' M' l d pm s a' w' x' y' lv') : SW σ0 G0 σ' G' M' l d pm s a' w' x' y' lv' :=
  ⟨h0.si.then ho0 h.si fun x hx hg => h0.gn x hx hg, fun x hx => h.g1 x (h0.g1 x hx), fun x hx hg => h0.gn x hx (h.gn x (by have := h0.si.next; omega) hg), h.lw, h.mb, h.sb, h.ne, h.en⟩
theorem SW.mono {a' w' : Nat} (h : SW σ0 G0 σ G M l d pm s a w x y lv) (ha : a ≤ a') (hw : w ≤ w') : SW σ0 G0 σ G M l d pm s a' w' x y lv := ⟨h.si, h.g1, h.gn, h.lw.mono ha hw, h.mb, h.sb, h.ne, h.en⟩
theorem SW.setS (h : SW σ0 G0 σ G M l d pm s a w x y lv) (ho0 : Ok σ0) (he : EsAt σ G lv' y'.h.log) : SW σ0 G0 (σ.upd s ⟨0, .ex, y'.cells pm l d lv'⟩) G M l d pm s a w x y' lv' ∧ Keep (fun z => z = s.nat) σ (σ.upd s ⟨0, .ex, y'.cells pm l d lv'⟩) := by
  have ho := h.si.ok
  have k : Keep (fun z => z = s.nat) σ (σ.upd s ⟨0, .ex, y'.cells pm l d lv'⟩) := Keep.upd ho h.sb.blk rfl
  have hG : ∀ z, z = s.nat → G z := fun z e => by rw [e]; exact h.sb.g
  have hM : ∀ z, z = s.nat → ¬ M z := fun z e => by rw [e]; exact h.sb.m
  refine ⟨⟨h.si.then ho0 k fun z hz e => h.gn z hz (hG z e), h.g1, h.gn, h.lw.other ho k hG hM, ⟨k.old _ _ h.mb.blk (fun e => h.ne (Pos.nat_inj e)), h.mb.g, h.mb.m⟩, ⟨blk_upd_same _ _, h.sb.g, h.sb.m⟩, h.ne, he.move ho k hG (Gr.refl _ _)⟩, k⟩
theorem SW.setM (h : SW σ0 G0 σ G M l d pm s a w x y lv) (ho0 : Ok σ0) : SW σ0 G0 (σ.upd pm ⟨0, .ex, x'.cells d⟩) G M l d pm s a w x' y lv ∧ Keep (fun z => z = pm.nat) σ (σ.upd pm ⟨0, .ex, x'.cells d⟩) := by
  have ho := h.si.ok
  have k : Keep (fun z => z = pm.nat) σ (σ.upd pm ⟨0, .ex, x'.cells d⟩) := Keep.upd ho h.mb.blk rfl
  have hG : ∀ z, z = pm.nat → G z := fun z e => by rw [e]; exact h.mb.g
  have hM : ∀ z, z = pm.nat → ¬ M z := fun z e => by rw [e]; exact h.mb.m
  refine ⟨⟨h.si.then ho0 k fun z hz e => h.gn z hz (hG z e), h.g1, h.gn, h.lw.other ho k hG hM, ⟨blk_upd_same _ _, h.mb.g, h.mb.m⟩, ⟨k.old _ _ h.sb.blk (fun e => h.ne (Pos.nat_inj e.symm)), h.sb.g, h.sb.m⟩, h.ne, h.en.move ho k hG (Gr.refl _ _)⟩, k⟩
abbrev Back (σ0 : S) (G0 : Nat → Prop) (l d pm s : Pos) (a w : Nat) (x : Me) (y : Sv) (lv : AVal) (R : S → Prop) : Prop := ∀ σ' G' M', SW σ0 G0 σ' G' M' l d pm s a w x y lv → R σ'

theorem even2 (ht : Tab tab) (ho0 : Ok σ0) (h : SW σ0 G0 σ G M l d pm s a w x y lv) (hQ : ∀ e, Back σ0 G0 l d pm s a w x y lv (Q (.int .i64 e))) (E : En) (e0 : E 0 = .ptr s 0) : f64.J2 (WF tab) Q E σ := by
  refine f64.p2_of ?_
  unfold f64.p2
  rw [e0]
  refine Som_of rfl (Som_of (vField0 _ _ _) (Som_of (ld h.sb.blk rfl) ?_))
  refine lwsync_c ht h.si.ok h.lw fun e σ' G' M' h' r => ?_
  rw [Ret_1 rfl]
  exact hQ e σ' G' M' (h.step ho0 h' r)
theorem even1 (ht : Tab tab) (ho0 : Ok σ0) (h : SW σ0 G0 σ G M l d pm s a w x y lv) (hb0 : 0 ≤ y.h.base) (hb1 : y.h.base ≤ 1099511627776) (hl : y.h.log.length ≤ 10000000) (ha : a ≤ 100000) (hw : w + 10 < 1000000000)
    (hQ : ∀ e, Back σ0 G0 l d pm s (a + 1) (w + 4) x y lv (Q (.int .i64 e))) (E : En) (e0 : E 0 = .ptr s 0) (e3 : E 3 = .int .i64 y.h.base) : f64.J1 (WF tab) Q E σ := by
  refine f64.p1_of ?_
  unfold f64.p1
  rw [e0, e3]
  have k1 : Keep0 σ (σ.bumpT 14) := Keep.bump h.si.ok 14
  have h1 := h.k0 k1
  generalize σ.bumpT 14 = σ1 at *
  obtain ⟨m, hen, _⟩ := h1.en
  refine Som_of rfl (Som_of (vField0 _ _ _) (Som_of (ld h1.sb.blk rfl) (Som_of rfl (Som_of (vField0 _ _ _) (Som_of (vField0 _ _ _) (Som_of (ld h1.sb.blk rfl) (Som_of hen.len (Som_of (bin_add _ _ _ _) ?_))))))))
  rw [wrap_i64_in (n := y.h.base + (y.h.log.length : Int)) (by omega) (by omega)]
  obtain ⟨L, D, rv, mr, hwl, hst, hd⟩ := h1.lw
  refine last_c ht h1.si.ok hwl.lg hst.ok fun σ2 k2 => ?_
  have h2 := h1.k0 k2
  refine Sure_of (SameO_of (ld h2.sb.blk rfl) (same_sl _ (hen.keep0 k2))) (Som_of (bin_gtr _ _ _ _) (WIf_dec (fun _ => ?_) (fun _ => ?_)))
  · have k3 : Keep0 σ2 (σ2.bumpT 15) := Keep.bump h2.si.ok 15
    have h3 := h2.k0 k3
    have hen3 := (hen.keep0 k2).keep0 k3
    generalize σ2.bumpT 15 = σ3 at *
    refine Som_of rfl (Som_of (vField0 _ _ _) (Som_of (ld h3.sb.blk rfl) (Som_of rfl (Som_of (vField0 _ _ _) (Som_of (vField0 _ _ _) (Som_of (ld h3.sb.blk rfl) (Som_of hen3.len (Som_of (bin_add _ _ _ _) (Som_of (bin_add _ _ _ _) ?_)))))))))
    refine lwcut_c ht h3.si.ok h3.lw ha hw fun e σ4 G4 M4 h4 r4 => ?_
    have h4' := h3.step ho0 h4 r4
    refine Som_of (bin_neq _ _ _ _) (WIf_dec (fun _ => ?_) (fun _ => ?_))
    · rw [Ret_1 rfl]; exact hQ e σ4 G4 M4 h4'
    · exact even2 ht ho0 h4' hQ _ (by simp [e0])
  · exact even2 ht ho0 (h2.mono (Nat.le_succ a) (Nat.le_add_right w 4)) hQ _ (by simp [e0])
theorem even0 (ht : Tab tab) (ho0 : Ok σ0) (h : SW σ0 G0 σ G M l d pm s a w x y lv) (hb0 : 0 ≤ y.h.base) (hb1 : y.h.base ≤ 1099511627776) (hl : y.h.log.length ≤ 10000000) (ha : a ≤ 99000) (hw : w + 20 < 1000000000)
    (hQ : ∀ e, Back σ0 G0 l d pm s (a + 2) (w + 8) x y lv (Q (.int .i64 e))) (E : En) (e0 : E 0 = .ptr s 0) (e3 : E 3 = .int .i64 y.h.base) : f64.J0 (WF tab) Q E σ := by
  refine f64.p0_of ?_
  unfold f64.p0
  rw [e0, e3]
  refine Som_of rfl (Som_of (vField0 _ _ _) (Som_of (ld h.sb.blk rfl) ?_))
  refine lwfirst_c ht h.lw fun n hn1 hn2 => ?_
  refine Som_of (bin_add _ _ _ _) (Som_of (bin_neq _ _ _ _) ?_)
  rw [wrap_i64_in (n := y.h.base + 1) (by omega) (by omega)]
  refine WIf_dec (fun _ => ?_) (fun _ => ?_)
  · refine Som_of rfl (Som_of (vField0 _ _ _) (Som_of (ld h.sb.blk rfl) (Som_of (bin_add _ _ _ _) ?_)))
    refine lwdrop_c ht h.si.ok h.lw (by omega) (by omega) fun e σ4 G4 M4 h4 r4 => ?_
    have h4' := h.step ho0 h4 r4
    refine Som_of (bin_neq _ _ _ _) (WIf_dec (fun _ => ?_) (fun _ => ?_))
    · rw [Ret_1 rfl]; exact hQ e σ4 G4 M4 (h4'.mono (by omega) (by omega))
    · exact even1 ht ho0 h4' hb0 hb1 hl (by omega) (by omega) (fun e σ' G' M' hh => hQ e σ' G' M' (hh.mono (by omega) (by omega))) _ (by simp [e0]) (by simp [e3])
  · exact even1 ht ho0 h hb0 hb1 hl (by omega) (by omega) (fun e σ' G' M' hh => hQ e σ' G' M' (hh.mono (by omega) (by omega))) _ (by simp [e0]) (by simp [e3])
theorem even_cut (ht : Tab tab) (ho0 : Ok σ0) (h : SW σ0 G0 σ G M l d pm s a w x y lv) (hb0 : 0 ≤ y.h.base) (hb1 : y.h.base ≤ 1099511627776) (ha : a ≤ 99000) (hw : w + 20 < 1000000000) {K : AVal → AVal → AVal → AVal → AVal → AVal → AVal → AVal → AVal → AVal → AVal → AVal → AVal → AVal → AVal → S → Prop}
    (hR : ∀ e, Back σ0 G0 l d pm s (a + 3) (w + 8) x y lv (Q (.int .i64 e))) (hK : ∀ t46 t47 t48 t50 t51 t52 t53 t54 t56 t59 t60 t61 t63 t64 t66, Back σ0 G0 l d pm s (a + 3) (w + 8) x y lv (K t46 t47 t48 t50 t51 t52 t53 t54 t56 t59 t60 t61 t63 t64 t66)) :
    Som (vNilck (.ptr s 0)) fun t46 => Som (vFieldAddr 1 t46) fun t47 => Som (vLoad1 t47 (σ.bumpT 11)) fun t48 => Som (vNilck (.ptr s 0)) fun t50 => Som (vFieldAddr 1 t50) fun t51 => Som (vLoad1 t51 (σ.bumpT 11)) fun t52 => WF tab 14 [t52] (σ.bumpT 11) fun t53 σ4 => Sure (SameO (vLoad1 t47 σ4) t48) <|
      WF tab 17 [t48, t53] σ4 fun t54 σ5 => Som (binA .neq .num t54 (.int .i64 0)) fun t56 => WIf t56 (Ret [some t54] σ5 Q) (Som (vNilck (.ptr s 0)) fun t59 => Som (vFieldAddr 1 t59) fun t60 => Som (vLoad1 t60 σ5) fun t61 => Som (binA .add .num (.int .i64 y.h.base) (.int .i64 1)) fun t63 =>
        WF tab 18 [t61, t63, .nsl] σ5 fun t64 σ6 => Som (binA .neq .num t64 (.int .i64 0)) fun t66 => WIf t66 (Ret [some t64] σ6 Q) (K t46 t47 t48 t50 t51 t52 t53 t54 t56 t59 t60 t61 t63 t64 t66 σ6)) := by
  have k1 : Keep0 σ (σ.bumpT 11) := Keep.bump h.si.ok 11
  have h1 := h.k0 k1
  generalize σ.bumpT 11 = σ1 at *
  refine Som_of rfl (Som_of (vField0 _ _ _) (Som_of (ld h1.sb.blk rfl) (Som_of rfl (Som_of (vField0 _ _ _) (Som_of (ld h1.sb.blk rfl) ?_)))))
  refine lwfirst_c ht h1.lw fun n hn1 hn2 => ?_
  refine Sure_of (SameO_of (ld h1.sb.blk rfl) (same_pp _ _)) ?_
  refine lwcut_c ht h1.si.ok h1.lw (by omega) (by omega) fun e σ4 G4 M4 h4 r4 => ?_
  have h4' := h1.step ho0 h4 r4
  refine Som_of (bin_neq _ _ _ _) (WIf_dec (fun _ => ?_) (fun _ => ?_))
  · rw [Ret_1 rfl]; exact hR e σ4 G4 M4 (h4'.mono (by omega) (by omega))
  refine Som_of rfl (Som_of (vField0 _ _ _) (Som_of (ld h4'.sb.blk rfl) (Som_of (bin_add _ _ _ _) ?_)))
  rw [wrap_i64_in (n := y.h.base + 1) (by omega) (by omega)]
  refine lwapp_c ht h4'.si.ok h4 (by omega) (by omega) (rs := []) (m := 0) (by omega) (SlAt.nil σ4 1 0) (by simp) (by simp) (fun h => absurd rfl h) fun e σ5 G5 M5 h5 r5 => ?_
  have h5' := h4'.step ho0 h5 r5
  refine Som_of (bin_neq _ _ _ _) (WIf_dec (fun _ => ?_) (fun _ => ?_))
  · rw [Ret_1 rfl]; exact hR e σ5 G5 M5 (h5'.mono (by omega) (by omega))
  · exact hK _ _ _ _ _ _ _ _ _ _ _ _ _ _ _ σ5 G5 M5 (h5'.mono (by omega) (by omega))
theorem even_c (ht : Tab tab) (ho0 : Ok σ0) (h : SW σ0 G0 σ G M l d pm s a w x y lv) (hb0 : 0 ≤ y.h.base) (hb1 : y.h.base ≤ 1099511627776) (hl : y.h.log.length ≤ 10000000) (ha : a ≤ 90000) (hw : w + 40 < 1000000000)
    (hQ : ∀ e, Back σ0 G0 l d pm s (a + 5) (w + 16) x y lv (Q (.int .i64 e))) : WF tab 64 [.ptr s 0] σ Q := by
  refine f64_wf ht.t64 ?_
  unfold f64
  refine Som_of rfl (Som_of (vField0 _ _ _) (Som_of (vField0 _ _ _) (Som_of (ld h.sb.blk rfl) ?_)))
  have k1 : Keep0 σ (σ.bumpT 32) := Keep.bump h.si.ok 32
  have h1 := h.k0 k1
  generalize σ.bumpT 32 = σ1 at *
  refine Som_of rfl (Som_of (vField0 _ _ _) (Som_of (ld h1.sb.blk rfl) (Som_of (bin_add _ _ _ _) ?_)))
  have eb : IntKind.i64.wrap (y.h.base + 1) = y.h.base + 1 := wrap_i64_in (by omega) (by omega)
  rw [eb]
  refine lwfirst_c ht h1.lw fun n hn1 hn2 => ?_
  refine Som_of (bin_neq _ _ _ _) ?_
  by_cases hne : n ≠ y.h.base + 1
  case neg =>
    rw [decide_eq_false hne]
    refine Sn_of rfl (Sn_of rfl (Sn_of rfl (Sn_of rfl (Sn_of rfl (Sn_of rfl (Sn_of rfl (Sn_of rfl (Sn_of rfl (Sn_of rfl (GE_n rfl (Sn_of rfl (Sn_of rfl (Sn_of rfl (Sn_of rfl (Sn_of rfl (Sn_of rfl (Sn_of rfl (Sn_of rfl (GE_n rfl (Sn_of rfl (Sn_of rfl (Som_of (v := .bool false) rfl ?_))))))))))))))))))))))
    rw [WIf_false]
    exact even0 ht ho0 h1 hb0 hb1 hl (by omega) (by omega) (fun e σ' G' M' hh => hQ e σ' G' M' (hh.mono (by omega) (by omega))) _ (by simp) (by simp)
  case pos =>
    rw [decide_eq_true hne]
    refine Sq_of rfl rfl (Sq_of rfl rfl (Sq_of rfl (vField0 _ _ _) (Sq_of rfl (ld h1.sb.blk rfl) (Sq_of rfl rfl (Sq_of rfl rfl (Sq_of rfl rfl (Sq_of rfl (vField0 _ _ _) (Sq_of rfl (vField0 _ _ _) (Sq_of rfl (ld h1.sb.blk rfl) (GE_t rfl ?_))))))))))
    obtain ⟨L, D, rv, mr, hwl, hst, hd⟩ := h1.lw
    refine stays_c ht h1.si.ok hwl.lg hst hb0 (by omega) fun b σ2 _ k2 => ?_
    have h2 := h1.k0 k2
    refine Sq_of rfl (un_not _) (Sq_of rfl rfl ?_)
    cases b with
    | false =>
      refine Sn_of rfl (Sn_of rfl (Sn_of rfl (Sn_of rfl (Sn_of rfl (Sn_of rfl (GE_n rfl (Sn_of rfl (Sq_of (v := .bool true) rfl rfl (Som_of (v := .bool true) rfl ?_)))))))))
      rw [WIf_true]
      refine even_cut ht ho0 h2 hb0 hb1 (by omega) (by omega) (fun e σ' G' M' hh => ?_) (fun _ _ _ _ _ _ _ _ _ _ _ _ _ _ _ σ' G' M' hh => ?_)
      · exact hQ e σ' G' M' (hh.mono (by omega) (by omega))
      · exact even0 ht ho0 hh hb0 hb1 hl (by omega) (by omega) (fun e σ' G' M' hh => hQ e σ' G' M' (hh.mono (by omega) (by omega))) _ (by simp) (by simp)
    | true =>
      refine Sq_of rfl rfl (Sq_of rfl (bin_add _ _ _ _) (Sq_of rfl rfl (Sq_of rfl rfl (Sq_of rfl (vField0 _ _ _) (Sq_of rfl (ld h2.sb.blk rfl) (GE_t rfl ?_))))))
      refine lwfirst_c ht h2.lw fun n2 _ _ => ?_
      rw [eb]
      refine Sq_of rfl (bin_lss _ _ _ _) (Sq_of rfl rfl (Som_of rfl (WIf_dec (fun _ => ?_) (fun _ => ?_))))
      · refine even_cut ht ho0 h2 hb0 hb1 (by omega) (by omega) (fun e σ' G' M' hh => ?_) (fun _ _ _ _ _ _ _ _ _ _ _ _ _ _ _ σ' G' M' hh => ?_)
        · exact hQ e σ' G' M' (hh.mono (by omega) (by omega))
        · exact even0 ht ho0 hh hb0 hb1 hl (by omega) (by omega) (fun e σ' G' M' hh => hQ e σ' G' M' (hh.mono (by omega) (by omega))) _ (by simp) (by simp)
      · exact even0 ht ho0 h2 hb0 hb1 hl (by omega) (by omega) (fun e σ' G' M' hh => hQ e σ' G' M' (hh.mono (by omega) (by omega))) _ (by simp) (by simp)
end
end Go.Am
